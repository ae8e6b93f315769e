/- Planks: a party, drawn. -/
import Derived.Test.YthkgpblohjpcdaaSlimZ12
/- Planks: a party, drawn. -/
namespace Go.Proofs.Ythkgpblohjpcdaa.Slim

open Go

set_option linter.unusedSimpArgs false

set_option linter.unusedVariables false

variable {pr : Prims} {H : List Blk} {e : Option Nat}

def Ppl (k0 : Nat) (L : List Blk) (pv : AV) (ls : List Ld) : Prop := (pv = .slice none 0 0 none ∧ ls = []) ∨ ∃ b c, pv = slL b ls.length c ∧ L[b]? = some (.cells (encL ls) true) ∧ k0 < b ∧ (c = some 0 → ls.length = 0)

theorem Ppl.same {k0 : Nat} {L L' : List Blk} {pv : AV} {ls : List Ld} (h : Ppl k0 L pv ls) (hs : ∀ b, k0 < b → b < L.length → L'[b]? = L[b]?) : Ppl k0 L' pv ls := by
  rcases h with h | ⟨b, c, h1, h2, h3, h4⟩
  · exact .inl h
  · exact .inr ⟨b, c, h1, by rw [hs b h3 (get_lt h2)]; exact h2, h3, h4⟩

theorem wc_ppl {k0 k : Nat} {L : List Blk} {pv src : AV} {ls new : List Ld} {Q : AV → Mem → Prop} (pp : Ppl k0 L pv ls) (hk0 : k0 < L.length) (hk : 0 < k) (hs : srcCells false L src = some (k, encL new)) (hl : new.length = k) (hn : ls.length + k ≤ 100000)
    (hQ : ∀ L' : List Blk, L'.length = L.length + 1 → (∀ i, i ≤ k0 → L'[i]? = L[i]?) → L'[L.length]? = some (.cells (encL (ls ++ new)) true) → (∀ H0, Grown H0 L → H0.length ≤ k0 + 1 → Grown H0 L') → Q (slL L.length (ls ++ new).length none) ⟨L', e⟩) :
    Wc (appendV L e false 2 16 pv src) Q := by
  have hen : encL (ls ++ new) = encL ls ++ encL new := encL_append _ _
  have hll : (ls ++ new).length = ls.length + k := by rw [List.length_append, hl]
  rcases pp with ⟨rfl, rfl⟩ | ⟨b, c, rfl, h2, h3, h4⟩
  · have key : appendV L e false 2 16 (.slice none 0 0 none) src = some (.slice (some (L.length, 0)) 2 k none, ⟨L ++ [.cells (encL new) true], e⟩) := by
      unfold appendV
      simp only [hs]
      rw [if_neg (by omega), if_pos ⟨by unfold maxBytes; omega, by rw [encL_length, hl]⟩]
    refine Wc.of_eq key ?_
    have := hQ (L ++ [.cells (encL new) true]) (by rw [List.length_append]; rfl) (fun i hi => List.getElem?_append_left (by omega)) (by rw [List.getElem?_append_right (Nat.le_refl _), Nat.sub_self]; rfl) (fun H0 hg _ => hg.more _)
    rw [hll] at this
    simpa using this
  · refine wc_ap (n := ls.length) (k := k) (new := encL new) h2 hs (by rw [encL_length]) (by rw [encL_length, hl]) (by unfold maxBytes; omega) h4 ?_
    intro L' g1 g2 g3 g4
    rw [← hll]
    exact hQ L' g1 (fun i hi => g2 i (by omega) (by omega)) (by rw [hen]; exact g3) (fun H0 hg hb => g4 H0 hg (by omega))

structure PY (H : List Blk) (q : Nat) (av : AV) (L : List Blk) (e : Option Nat) (ls : List Ld) (pv : AV) (x a b s y z : Int) : Prop where
  gr : Grown (H.set q (curB av y z)) L
  y0 : 0 ≤ y
  cl : clean H.length e = true
  res : L[H.length]? = some (.cells [.int .i64 0, .int .i64 0, .int .i64 0, .slice none 0 0 none, .int .i64 0] true)
  box : L[H.length + 2]? = some (.cells [.int .i64 x, .int .i64 a, .int .i64 b, pv, .int .i64 s] true)
  pp : Ppl (H.length + 2) L pv ls

theorem PY.more {q : Nat} {av pv : AV} {L : List Blk} {ls : List Ld} {x a b s y z : Int} (P : PY H q av L e ls pv x a b s y z) (X : List Blk) : PY H q av (L ++ X) e ls pv x a b s y z :=
  ⟨P.gr.more _, P.y0, P.cl, get_more P.res _, get_more P.box _, P.pp.same fun b _ hb => List.getElem?_append_left hb⟩

theorem PY.cur {q : Nat} {av pv : AV} {L : List Blk} {ls : List Ld} {x a b s y z : Int} (P : PY H q av L e ls pv x a b s y z) (hq : q < H.length) {y' : Int} (hy : 0 ≤ y') (z' : Int) : PY H q av (L.set q (curB av y' z')) e ls pv x a b s y' z' :=
  ⟨P.gr.cur hq _, hy, P.cl, by rw [List.getElem?_set_ne (by omega)]; exact P.res, by rw [List.getElem?_set_ne (by omega)]; exact P.box, P.pp.same fun b hb _ => List.getElem?_set_ne (by omega)⟩

theorem PY.put {q : Nat} {av pv pv' : AV} {L : List Blk} {ls ls' : List Ld} {x a b s s' y z : Int} {e' : Option Nat} (P : PY H q av L e ls pv x a b s y z) (hc : clean H.length e' = true) (hpp : Ppl (H.length + 2) L pv' ls') : PY H q av (L.set (H.length + 2) (.cells [.int .i64 x, .int .i64 a, .int .i64 b, pv', .int .i64 s'] true)) e' ls' pv' x a b s' y z :=
  ⟨P.gr.put (by rw [List.length_set]; omega) _, P.y0, hc, by rw [List.getElem?_set_ne (by omega)]; exact P.res, List.getElem?_set_self (get_lt P.box), hpp.same fun b hb _ => List.getElem?_set_ne (by omega)⟩

theorem PY.app {q : Nat} {av pv pv' : AV} {L L' : List Blk} {ls ls' : List Ld} {x a b s s' y z : Int} {e' : Option Nat} (P : PY H q av L e ls pv x a b s y z) (g2 : ∀ i, i ≤ H.length + 2 → L'[i]? = L[i]?) (g4 : ∀ H0, Grown H0 L → H0.length ≤ H.length + 2 + 1 → Grown H0 L') (hc : clean H.length e' = true) (hpp : Ppl (H.length + 2) L' pv' ls') : PY H q av (L'.set (H.length + 2) (.cells [.int .i64 x, .int .i64 a, .int .i64 b, pv', .int .i64 s'] true)) e' ls' pv' x a b s' y z :=
  ⟨(g4 _ P.gr (by rw [List.length_set]; omega)).put (by rw [List.length_set]; omega) _, P.y0, hc, by rw [List.getElem?_set_ne (by omega), g2 _ (by omega)]; exact P.res, List.getElem?_set_self (get_lt ((g2 _ (Nat.le_refl _)).trans P.box)), hpp.same fun b hb _ => List.getElem?_set_ne (by omega)⟩

theorem PY.curs {q : Nat} {av pv : AV} {L : List Blk} {ls : List Ld} {x a b s y z p : Int} (P : PY H q av L e ls pv x a b s y z) (h : Cu H q av p) : Cu L q av y := P.gr.curs h P.y0

theorem PY.bxs {q : Nat} {av pv : AV} {L : List Blk} {ls : List Ld} {x a b s y z : Int} (P : PY H q av L e ls pv x a b s y z) (hq : q < H.length) : ∀ (y' z' : Int) (X : List Blk), cellsAt (L.set q (curB av y' z') ++ X) (H.length + 2) = some [.int .i64 x, .int .i64 a, .int .i64 b, pv, .int .i64 s] := fun y' z' X => by
  have : (L.set q (curB av y' z'))[H.length + 2]? = some (.cells [.int .i64 x, .int .i64 a, .int .i64 b, pv, .int .i64 s] true) := by
    rw [List.getElem?_set_ne (by omega)]
    exact P.box
  exact cells_more this X

theorem PY.some_pv {q : Nat} {av pv : AV} {L : List Blk} {ls : List Ld} {x a b s y z : Int} (P : PY H q av L e ls pv x a b s y z) (h : 1 ≤ ls.length) : ∃ pb c, pv = slL pb ls.length c ∧ L[pb]? = some (.cells (encL ls) true) ∧ H.length + 2 < pb := by
  rcases P.pp with ⟨_, rfl⟩ | ⟨b, c, h1, h2, h3, _⟩
  · simp at h
  · exact ⟨b, c, h1, h2, h3⟩

theorem finish_party_set {q : Nat} {X : Blk} {L : List Blk} {pb n : Nat} {c : Option Nat} {cs : List AV} {w : Bool} (hL : Grown (H.set q X) L) (x a b s : Int) (e0 e1 : Option Nat) (hc : clean H.length e1 = true) (hb : H.length ≤ pb) (hG : L[pb]? = some (.cells cs w)) (hu : (cs.all fun c => c.under H.length) = true) :
    finish 2 H.length e0 (ptV x a b (slL pb n c) s) ⟨L, e1⟩ = some (ptV x a b (slL H.length n c) s, ⟨H.set q X ++ [.cells cs w], e0⟩) := by
  have hl : (H.set q X).length = H.length := List.length_set
  obtain ⟨G, rfl⟩ := hL
  obtain ⟨j, rfl⟩ : ∃ j, pb = H.length + j := ⟨pb - H.length, by omega⟩
  have hG' : G[j]? = some (.cells cs w) := by
    rw [List.getElem?_append_right (by omega), hl, Nat.add_sub_cancel_left] at hG
    exact hG
  have := finish_party (H := H.set q X) (G := G) (j := j) (n := n) (c := c) x a b s e0 e1 (by rw [hl]; exact hc) hG' (by rw [hl]; exact hu)
  rw [hl] at this
  exact this

def ptQ (H : List Blk) (e : Option Nat) (q : Nat) (av : AV) (p : Int) : AV → Mem → Prop := fun v m => ∃ (ls : List Ld) (c : Option Nat) (x a b s y z : Int), v = ptV x a b (slL H.length ls.length c) s ∧ ls.length ≤ 6 ∧ 0 ≤ y ∧ y ≤ p + 300 ∧ m = ⟨H.set q (curB av y z) ++ [.cells (encL ls) true], e⟩

set_option maxHeartbeats 4000000 in
theorem wc_party_5 {q : Nat} {av : AV} {p : Int} (h : Cu H q av p) {L : List Blk} {e' : Option Nat} {ls : List Ld} {pb : Nat} {c : Option Nat} {x a b s y z : Int} {w3 w4 w5 w6 w7 w8 w9 w10 w11 w12 w13 : AV} (P : PY H q av L e' ls (slL pb ls.length c) x a b s y z) (hpb : L[pb]? = some (.cells (encL ls) true)) (hpb2 : H.length + 2 < pb) (hn : ls.length ≤ 6) (hy : y ≤ p + 300) :
    Wp (run T pr (seqTl (seqTl (seqTl (seqTl (seqTl c_s_l1Cur_party))))) ⟨[.ptr (some (q, 0)), .ptr (some (H.length, 0)), .ptr (some (H.length + 2, 0)), w3, w4, w5, w6, w7, w8, w9, w10, w11, w12, w13], ⟨L, e'⟩⟩) (retQ a_s_l1Cur_party ⟨H, e⟩ (ptQ H e q av p)) := by
  have hl := h.lt
  have hbx := cellsAt_of P.box
  have hcl2 : clean H.length (minEsc e' H.length) = true := by rw [clean_minEsc, P.cl]; simp
  have hres := P.res
  have hlt : ¬ (pb < H.length + 1) := by omega
  have hrs : (L.set H.length (.cells [.int .i64 x, .int .i64 a, .int .i64 b, slL pb ls.length c, .int .i64 s] true))[H.length]? = some (.cells [.int .i64 x, .int .i64 a, .int .i64 b, slL pb ls.length c, .int .i64 s] true) := List.getElem?_set_self (get_lt hres)
  have hrc := cellsAt_of hrs
  have hpb3 : (L.set H.length (.cells [.int .i64 x, .int .i64 a, .int .i64 b, slL pb ls.length c, .int .i64 s] true))[pb]? = some (.cells (encL ls) true) := by rw [List.getElem?_set_ne (by omega)]; exact hpb
  have hf := finish_party_set (H := H) (q := q) (n := ls.length) (c := c) (P.gr.put (b := H.length) (by rw [List.length_set]; exact Nat.le_refl _) (.cells [.int .i64 x, .int .i64 a, .int .i64 b, slL pb ls.length c, .int .i64 s] true)) x a b s e (minEsc e' H.length) hcl2 (by omega) hpb3 (under_encL _ _)
  simp (maxSteps := 2000000) +contextual only [a_s_l1Cur_party, c_s_l1Cur_party, seqTl, fillParts, hbx, hres, hrs, hrc, under_slice, hlt, hf, decide_false, Wp_some, Wp_none, Wp_ite, Wc_some, Wc_none, Wc_ite, Wp_thenRun, seqQ_normal, seqQ_exit, seqQ_ret, Wp_inBlock, blkQ_normal, blkQ_ret, blkQ_same, blkQ_exit, Wp_opThen, opQ_at, Wp_guardP, retQ_normal, retQ_ret, loopQ_normal, loopQ_exit, loopQ_ret, go_sem, entry, joinEsc, if_pos, reduceIte, Nat.reduceAdd, Nat.reduceLeDiff, Nat.reduceLT, Nat.reduceEqDiff]
  exact ⟨ls, c, x, a, b, s, y, z, rfl, hn, P.y0, hy, rfl⟩

set_option maxHeartbeats 4000000 in
theorem wc_party_4 {q : Nat} {av : AV} {p : Int} (h : Cu H q av p) (hp : p ≤ 100000000) {L : List Blk} {e' : Option Nat} {ls : List Ld} {pv : AV} {x a b s y z : Int} {w3 w4 w5 w6 w7 w8 w9 w10 w11 w12 w13 : AV} (P : PY H q av L e' ls pv x a b s y z) (hn1 : 1 ≤ ls.length) (hn : ls.length ≤ 3) (hy : y ≤ p + 290) :
    Wp (run T pr (seqTl (seqTl (seqTl (seqTl c_s_l1Cur_party)))) ⟨[.ptr (some (q, 0)), .ptr (some (H.length, 0)), .ptr (some (H.length + 2, 0)), w3, w4, w5, w6, w7, w8, w9, w10, w11, w12, w13], ⟨L, e'⟩⟩) (retQ a_s_l1Cur_party ⟨H, e⟩ (ptQ H e q av p)) := by
  have hl := h.lt
  obtain ⟨R, hR⟩ : ∃ R, R = (seqTl (seqTl (seqTl (seqTl (seqTl c_s_l1Cur_party))))) := ⟨_, rfl⟩
  have hc : (seqTl (seqTl (seqTl (seqTl c_s_l1Cur_party)))) = .seq (seqHd (seqTl (seqTl (seqTl (seqTl c_s_l1Cur_party))))) R := by rw [hR]; rfl
  have r := @wc_party_5 pr H e q av p h
  rw [← hR] at r
  rw [hc]
  simp (maxSteps := 2000000) +contextual only [c_s_l1Cur_party, seqTl, seqHd, hl, cellsAt_s0, cellsAt_sk, blkAt_s0, blkAt_sk, set_s0, set_sk, set_sapp, set_app, List.set_set, List.length_set, finish_one_setG, finish_one_set0, clean_none', Nat.add_assoc, Wp_some, Wp_none, Wp_ite, Wc_some, Wc_none, Wc_ite, Wp_thenRun, seqQ_normal, seqQ_exit, seqQ_ret, Wp_inBlock, blkQ_normal, blkQ_ret, blkQ_same, blkQ_exit, Wp_opThen, opQ_at, Wp_guardP, retQ_normal, retQ_ret, loopQ_normal, loopQ_exit, loopQ_ret, go_sem, entry, joinEsc, if_pos, reduceIte, Nat.reduceAdd, Nat.reduceLeDiff, Nat.reduceLT, Nat.reduceEqDiff]
  refine (wc_pick 40 (P.curs h) (by omega) (by omega)).mono ?_
  rintro v m ⟨x5, y5, z5, rfl, hx50, hx51, hy50, hy51, rfl⟩
  have P5 := P.cur hl hy50 z5
  have hqL : q < (L.set q (curB av y5 z5)).length := (P5.curs h).lt
  generalize L.set q (curB av y5 z5) = L5 at *
  obtain ⟨pb, c, rfl, hpb, hpb2⟩ := P5.some_pv hn1
  have hbx := cellsAt_of P5.box
  have hbm := cells_more P5.box
  have hbs := P5.bxs hl
  have hC5 := P5.curs h
  have hbox := P5.box
  have hbl := get_lt hbox
  have hlp : (0 : Nat) < ls.length := by omega
  have hlp' : (0 : Int) < (ls.length : Int) := by omega
  have hl0 : ls[0]? = some (ls[0]'hlp) := List.getElem?_eq_getElem hlp
  have hpt0 := part_encL hl0
  rw [Nat.zero_mul] at hpt0
  have hpbm : ∀ (Y : List Blk) , (L5 ++ Y)[pb]? = some (.cells (encL ls) true) := fun Y => get_more hpb Y
  have hpbc := cellsAt_of hpb
  have hboxm : ∀ (Y : List Blk) , (L5 ++ Y)[H.length + 2]? = some (.cells [.int .i64 x, .int .i64 a, .int .i64 b, slL pb ls.length c, .int .i64 s] true) := fun Y => get_more hbox Y
  by_cases c0 : x5 = 0
  · have c0' : decide (x5 = 0) = true := decide_eq_true c0
    simp (maxSteps := 2000000) only [fillParts, c0', Wp_some, Wp_none, Wp_ite, Wc_some, Wc_none, Wc_ite, Wp_thenRun, seqQ_normal, seqQ_exit, seqQ_ret, Wp_inBlock, blkQ_normal, blkQ_ret, blkQ_same, blkQ_exit, Wp_opThen, opQ_at, Wp_guardP, retQ_normal, retQ_ret, loopQ_normal, loopQ_exit, loopQ_ret, go_sem, entry, joinEsc, if_pos, reduceIte, Nat.reduceAdd, Nat.reduceLeDiff, Nat.reduceLT, Nat.reduceEqDiff]
    refine (amongZ (n := 3) [0, 5, -1] (hC5.more _) (by omega) (by simp +contextual only [cellsAt_s0, cellsAt_sk, blkAt_s0, blkAt_sk, set_s0, set_sk, set_sapp, set_app, List.set_set, List.length_set, finish_one_setG, finish_one_set0, clean_none', Nat.add_assoc, go_sem, entry, joinEsc, if_pos, reduceIte, Nat.reduceAdd, Nat.reduceLeDiff, Nat.reduceLT, Nat.reduceEqDiff]) (by omega) rfl (by omega) (by omega)).mono ?_
    rintro v m ⟨x6, y6, z6, rfl, hx6, hy60, hy61, rfl⟩
    have P6 := P5.cur hl hy60 z6
    have hpb6 : (L5.set q (curB av y6 z6))[pb]? = some (.cells (encL ls) true) := by rw [List.getElem?_set_ne (by omega)]; exact hpb
    rw [set_app hqL]
    generalize L5.set q (curB av y6 z6) = L6 at *
    have hb6 := fun Y => get_more P6.box Y
    simp (maxSteps := 2000000) +contextual only [fillParts, hb6, decide_true, Wp_some, Wp_none, Wp_ite, Wc_some, Wc_none, Wc_ite, Wp_thenRun, seqQ_normal, seqQ_exit, seqQ_ret, Wp_inBlock, blkQ_normal, blkQ_ret, blkQ_same, blkQ_exit, Wp_opThen, opQ_at, Wp_guardP, retQ_normal, retQ_ret, loopQ_normal, loopQ_exit, loopQ_ret, go_sem, entry, joinEsc, if_pos, reduceIte, Nat.reduceAdd, Nat.reduceLeDiff, Nat.reduceLT, Nat.reduceEqDiff]
    exact r ((P6.more _).put P6.cl (P6.more _).pp) (by rw [List.getElem?_set_ne (by omega)]; exact get_more hpb6 _) hpb2 (by omega) (by omega)
  · have c0' : decide (x5 = 0) = false := decide_eq_false c0
    by_cases c1 : x5 = 1
    · subst c1
      simp (maxSteps := 2000000) +contextual only [fillParts, hbx, hbm, c0', decide_true, cellsAt_s0, cellsAt_sk, blkAt_s0, blkAt_sk, set_s0, set_sk, set_sapp, set_app, List.set_set, List.length_set, finish_one_setG, finish_one_set0, clean_none', Nat.add_assoc, Wp_some, Wp_none, Wp_ite, Wc_some, Wc_none, Wc_ite, Wp_thenRun, seqQ_normal, seqQ_exit, seqQ_ret, Wp_inBlock, blkQ_normal, blkQ_ret, blkQ_same, blkQ_exit, Wp_opThen, opQ_at, Wp_guardP, retQ_normal, retQ_ret, loopQ_normal, loopQ_exit, loopQ_ret, go_sem, entry, joinEsc, if_pos, reduceIte, Nat.reduceAdd, Nat.reduceLeDiff, Nat.reduceLT, Nat.reduceEqDiff]
      refine (amongZ (n := 4) [0, x, IntKind.i64.wrap (x + 1), -1] (hC5.more _) (by omega) (by simp +contextual only [cellsAt_s0, cellsAt_sk, blkAt_s0, blkAt_sk, set_s0, set_sk, set_sapp, set_app, List.set_set, List.length_set, finish_one_setG, finish_one_set0, clean_none', Nat.add_assoc, go_sem, entry, joinEsc, if_pos, reduceIte, Nat.reduceAdd, Nat.reduceLeDiff, Nat.reduceLT, Nat.reduceEqDiff]) (by omega) rfl (by omega) (by omega)).mono ?_
      rintro v m ⟨x6, y6, z6, rfl, hx6, hy60, hy61, rfl⟩
      have P6 := P5.cur hl hy60 z6
      have hpb6 : (L5.set q (curB av y6 z6))[pb]? = some (.cells (encL ls) true) := by rw [List.getElem?_set_ne (by omega)]; exact hpb
      rw [set_app hqL]
      generalize L5.set q (curB av y6 z6) = L6 at *
      have hb6 := cells_more P6.box
      have hpb6m := fun Y => get_more hpb6 Y
      obtain ⟨ls', e1, e2⟩ := set_ld0 (ls := ls) (i := 0) (by omega) x6
      rw [Nat.zero_mul] at e2
      have hll : ((2 : Nat) ≤ ls.length * 2) := by omega
      have hll1 : ((1 : Nat) ≤ ls.length * 2) := by omega
      simp (maxSteps := 2000000) +contextual only [fillParts, hb6, hpb6m, e2, encL_length, hll, hll1, hlp, hlp', toNat0, Int.le_refl, Nat.zero_mul, decide_true, Wp_some, Wp_none, Wp_ite, Wc_some, Wc_none, Wc_ite, Wp_thenRun, seqQ_normal, seqQ_exit, seqQ_ret, Wp_inBlock, blkQ_normal, blkQ_ret, blkQ_same, blkQ_exit, Wp_opThen, opQ_at, Wp_guardP, retQ_normal, retQ_ret, loopQ_normal, loopQ_exit, loopQ_ret, go_sem, entry, joinEsc, if_pos, reduceIte, Nat.reduceAdd, Nat.reduceLeDiff, Nat.reduceLT, Nat.reduceEqDiff]
      have e1' : slL pb ls.length c = slL pb ls'.length c := by rw [e1]
      have P7 : PY H q av ((L6 ++ [Blk.cells [.int .i64 0, .int .i64 x, .int .i64 (IntKind.i64.wrap (x + 1)), .int .i64 (-1)] true]).set pb (.cells (encL ls') true)) e' ls' (slL pb ls'.length c) x a b s y6 z6 := by
        have P8 := P6.more [Blk.cells [AV.int .i64 0, .int .i64 x, .int .i64 (IntKind.i64.wrap (x + 1)), .int .i64 (-1)] true]
        refine ⟨P8.gr.put (b := pb) (by rw [List.length_set]; omega) _, P8.y0, P8.cl, ?_, ?_, .inr ⟨pb, c, rfl, ?_, hpb2, ?_⟩⟩
        · rw [List.getElem?_set_ne (by omega)]
          exact P8.res
        · rw [List.getElem?_set_ne (by omega), ← e1']
          exact P8.box
        · rw [List.getElem?_set_self (by rw [List.length_append]; have := get_lt hpb6; omega)]
        · intro hc0
          rcases P6.pp with ⟨h1, _⟩ | ⟨b', c', h1, _, _, h4⟩
          · cases h1
          · injection h1 with _ _ _ h1
            rw [e1]
            exact h4 (h1 ▸ hc0)
      exact r P7 (by rw [List.getElem?_set_self (by rw [List.length_append]; have := get_lt hpb6; omega)]) hpb2 (by omega) (by omega)
    · have c1' : decide (x5 = 1) = false := decide_eq_false c1
      by_cases c2 : x5 = 2
      · subst c2
        simp (maxSteps := 2000000) +contextual only [fillParts, hbx, hbm, hpbc, hpt0, hlp, hlp', toNat0, Int.le_refl, Nat.zero_mul, c0', c1', decide_true, Wp_some, Wp_none, Wp_ite, Wc_some, Wc_none, Wc_ite, Wp_thenRun, seqQ_normal, seqQ_exit, seqQ_ret, Wp_inBlock, blkQ_normal, blkQ_ret, blkQ_same, blkQ_exit, Wp_opThen, opQ_at, Wp_guardP, retQ_normal, retQ_ret, loopQ_normal, loopQ_exit, loopQ_ret, go_sem, entry, joinEsc, if_pos, reduceIte, Nat.reduceAdd, Nat.reduceLeDiff, Nat.reduceLT, Nat.reduceEqDiff]
        refine wc_ppl (k := 3) (new := [ls[0], ls[0], ls[0]]) (P5.more _).pp (by rw [List.length_append]; omega) (by omega) (src_new _ 3 2 _ _ L5.length (by simp +contextual only [encL, go_sem, entry, joinEsc, if_pos, reduceIte, Nat.reduceAdd, Nat.reduceLeDiff, Nat.reduceLT, Nat.reduceEqDiff]) rfl) rfl (by omega) ?_
        intro L' g1 g2 g3 g4
        have hlt : ¬ (L5.length + 1 < H.length + 2 + 1) := by omega
        have hbox' : L'[H.length + 2]? = some (.cells [.int .i64 x, .int .i64 a, .int .i64 b, slL pb ls.length c, .int .i64 s] true) := (g2 _ (Nat.le_refl _)).trans (hboxm _)
        have hres' := (g2 H.length (by omega)).trans ((P5.more _).res)
        have hbc' := cellsAt_of hbox'
        simp only [List.length_append, List.length_cons, List.length_nil, Nat.zero_add] at g1 g3
        simp (maxSteps := 2000000) +contextual only [fillParts, hbc', hbox', hlt, under_slice, decide_true, decide_false, Bool.false_eq_true, if_false, Wp_some, Wp_none, Wp_ite, Wc_some, Wc_none, Wc_ite, Wp_thenRun, seqQ_normal, seqQ_exit, seqQ_ret, Wp_inBlock, blkQ_normal, blkQ_ret, blkQ_same, blkQ_exit, Wp_opThen, opQ_at, Wp_guardP, retQ_normal, retQ_ret, loopQ_normal, loopQ_exit, loopQ_ret, go_sem, entry, joinEsc, if_pos, reduceIte, Nat.reduceAdd, Nat.reduceLeDiff, Nat.reduceLT, Nat.reduceEqDiff]
        have hln : (ls ++ [ls[0], ls[0], ls[0]]).length = ls.length + 3 := by rw [List.length_append]; rfl
        have hpp : Ppl (H.length + 2) L' (slL (L5.length + 1) (ls ++ [ls[0], ls[0], ls[0]]).length none) (ls ++ [ls[0], ls[0], ls[0]]) := .inr ⟨_, _, rfl, g3, by omega, fun h => by cases h⟩
        have P8 := (P5.more _).app (s' := s) (e' := minEsc e' (H.length + 2)) g2 g4 (by rw [clean_minEsc, P5.cl]; simp) hpp
        rw [hln] at P8
        exact r (by rw [hln]; exact P8) (by rw [List.getElem?_set_ne (by omega)]; exact g3) (by omega) (by omega) (by omega)
      · have c2' : decide (x5 = 2) = false := decide_eq_false c2
        by_cases c3 : x5 = 3
        · subst c3
          have hlt : ¬ (L5.length < H.length + 2 + 1) := by omega
          simp (maxSteps := 2000000) +contextual only [fillParts, hboxm, hlt, under_slice, c0', c1', c2', decide_true, decide_false, Bool.false_eq_true, if_false, Wp_some, Wp_none, Wp_ite, Wc_some, Wc_none, Wc_ite, Wp_thenRun, seqQ_normal, seqQ_exit, seqQ_ret, Wp_inBlock, blkQ_normal, blkQ_ret, blkQ_same, blkQ_exit, Wp_opThen, opQ_at, Wp_guardP, retQ_normal, retQ_ret, loopQ_normal, loopQ_exit, loopQ_ret, go_sem, entry, joinEsc, if_pos, reduceIte, Nat.reduceAdd, Nat.reduceLeDiff, Nat.reduceLT, Nat.reduceEqDiff]
          refine r (ls := []) (c := some 0) ((P5.more _).put (by rw [clean_minEsc, P5.cl]; simp) ?_) ?_ (by omega) (by simp) (by omega)
          · exact .inr ⟨L5.length, some 0, rfl, by rw [List.getElem?_append_right (Nat.le_refl _), Nat.sub_self]; rfl, by omega, fun _ => rfl⟩
          · rw [List.getElem?_set_ne (by omega), List.getElem?_append_right (Nat.le_refl _), Nat.sub_self]
            rfl
        · have c3' : decide (x5 = 3) = false := decide_eq_false c3
          simp (maxSteps := 2000000) +contextual only [fillParts, c0', c1', c2', c3', decide_true, cellsAt_s0, cellsAt_sk, blkAt_s0, blkAt_sk, set_s0, set_sk, set_sapp, set_app, List.set_set, List.length_set, finish_one_setG, finish_one_set0, clean_none', Nat.add_assoc, Wp_some, Wp_none, Wp_ite, Wc_some, Wc_none, Wc_ite, Wp_thenRun, seqQ_normal, seqQ_exit, seqQ_ret, Wp_inBlock, blkQ_normal, blkQ_ret, blkQ_same, blkQ_exit, Wp_opThen, opQ_at, Wp_guardP, retQ_normal, retQ_ret, loopQ_normal, loopQ_exit, loopQ_ret, go_sem, entry, joinEsc, if_pos, reduceIte, Nat.reduceAdd, Nat.reduceLeDiff, Nat.reduceLT, Nat.reduceEqDiff]
          exact r P5 hpb hpb2 (by omega) (by omega)

set_option maxHeartbeats 4000000 in
theorem wc_party_3 {q : Nat} {av : AV} {p : Int} (h : Cu H q av p) (hp : p ≤ 100000000) {L : List Blk} {e' : Option Nat} {ls : List Ld} {pv : AV} {x a b s y z : Int} {w3 w4 w5 w6 w7 w8 w9 w10 w11 w12 w13 : AV} (P : PY H q av L e' ls pv x a b s y z) (hn1 : 1 ≤ ls.length) (hn : ls.length ≤ 3) (hy : y ≤ p + 120) :
    Wp (run T pr (seqTl (seqTl (seqTl c_s_l1Cur_party))) ⟨[.ptr (some (q, 0)), .ptr (some (H.length, 0)), .ptr (some (H.length + 2, 0)), w3, w4, w5, w6, w7, w8, w9, w10, w11, w12, w13], ⟨L, e'⟩⟩) (retQ a_s_l1Cur_party ⟨H, e⟩ (ptQ H e q av p)) := by
  have hl := h.lt
  obtain ⟨R, hR⟩ : ∃ R, R = (seqTl (seqTl (seqTl (seqTl c_s_l1Cur_party)))) := ⟨_, rfl⟩
  have hc : (seqTl (seqTl (seqTl c_s_l1Cur_party))) = .seq (seqHd (seqTl (seqTl (seqTl c_s_l1Cur_party)))) R := by rw [hR]; rfl
  have r := @wc_party_4 pr H e q av p h hp
  rw [← hR] at r
  rw [hc]
  simp (maxSteps := 2000000) +contextual only [c_s_l1Cur_party, seqTl, seqHd, hl, cellsAt_s0, cellsAt_sk, blkAt_s0, blkAt_sk, set_s0, set_sk, set_sapp, set_app, List.set_set, List.length_set, finish_one_setG, finish_one_set0, clean_none', Nat.add_assoc, Wp_some, Wp_none, Wp_ite, Wc_some, Wc_none, Wc_ite, Wp_thenRun, seqQ_normal, seqQ_exit, seqQ_ret, Wp_inBlock, blkQ_normal, blkQ_ret, blkQ_same, blkQ_exit, Wp_opThen, opQ_at, Wp_guardP, retQ_normal, retQ_ret, loopQ_normal, loopQ_exit, loopQ_ret, go_sem, entry, joinEsc, if_pos, reduceIte, Nat.reduceAdd, Nat.reduceLeDiff, Nat.reduceLT, Nat.reduceEqDiff]
  refine (wc_pick 12 (P.curs h) (by omega) (by omega)).mono ?_
  rintro v m ⟨x5, y5, z5, rfl, hx50, hx51, hy50, hy51, rfl⟩
  have P5 := P.cur hl hy50 z5
  generalize L.set q (curB av y5 z5) = L5 at *
  obtain ⟨n, rfl⟩ : ∃ n : Nat, x5 = (n : Int) := ⟨x5.toNat, by omega⟩
  simp (maxSteps := 2000000) only [Wp_some, Wp_none, Wp_ite, Wc_some, Wc_none, Wc_ite, Wp_thenRun, seqQ_normal, seqQ_exit, seqQ_ret, Wp_inBlock, blkQ_normal, blkQ_ret, blkQ_same, blkQ_exit, Wp_opThen, opQ_at, Wp_guardP, retQ_normal, retQ_ret, loopQ_normal, loopQ_exit, loopQ_ret, go_sem, entry, joinEsc, if_pos, reduceIte, Nat.reduceAdd, Nat.reduceLeDiff, Nat.reduceLT, Nat.reduceEqDiff]
  refine Wp_loop (fun k st => ∃ (L : List Blk) (e' : Option Nat) (ls : List Ld) (pv : AV) (y z : Int) (w5 w6 w7 w8 : AV), PY H q av L e' ls pv x a b s y z ∧ 1 ≤ ls.length ∧ ls.length ≤ 3 ∧ y + (k : Int) * 12 ≤ p + 260 ∧
    st = ⟨[.ptr (some (q, 0)), .ptr (some (H.length, 0)), .ptr (some (H.length + 2, 0)), w3, .int .i64 k, w5, w6, w7, w8, w9, w10, w11, w12, w13], ⟨L, e'⟩⟩) ?_ n _ ⟨L5, e', ls, pv, y5, z5, _, _, _, _, P5, hn1, hn, by omega, rfl⟩
  rintro k _ ⟨L, e', ls, pv, y, z, w5, w6, w7, w8, P, hn1, hn, hyk, rfl⟩
  by_cases hk : k = 0
  · subst hk
    have hd : ¬ (((0 : Nat) : Int) > 0) := by omega
    have hd' : ¬ ((0 : Int) < ((0 : Nat) : Int)) := by omega
    simp (maxSteps := 2000000) only [w_s_l1Cur_party_2, gt_iff_lt, hd, hd', decide_false, Wp_some, Wp_none, Wp_ite, Wc_some, Wc_none, Wc_ite, Wp_thenRun, seqQ_normal, seqQ_exit, seqQ_ret, Wp_inBlock, blkQ_normal, blkQ_ret, blkQ_same, blkQ_exit, Wp_opThen, opQ_at, Wp_guardP, retQ_normal, retQ_ret, loopQ_normal, loopQ_exit, loopQ_ret, go_sem, entry, joinEsc, if_pos, reduceIte, Nat.reduceAdd, Nat.reduceLeDiff, Nat.reduceLT, Nat.reduceEqDiff]
    exact r P hn1 hn (by omega)
  · have hd' : ((0 : Int) < (k : Int)) := by omega
    have hwk : IntKind.i64.wrap ((k : Int) - 1) = ((k - 1 : Nat) : Int) := by
      have := P.y0
      rw [show ((k : Int) - 1) = ((k - 1 : Nat) : Int) by omega]; exact wrap64 (by omega) (by omega)
    obtain ⟨pb, c, rfl, hpb, hpb2⟩ := P.some_pv hn1
    have hbx := cellsAt_of P.box
    simp (maxSteps := 2000000) only [w_s_l1Cur_party_2, gt_iff_lt, hd', hbx, decide_true, Wp_some, Wp_none, Wp_ite, Wc_some, Wc_none, Wc_ite, Wp_thenRun, seqQ_normal, seqQ_exit, seqQ_ret, Wp_inBlock, blkQ_normal, blkQ_ret, blkQ_same, blkQ_exit, Wp_opThen, opQ_at, Wp_guardP, retQ_normal, retQ_ret, loopQ_normal, loopQ_exit, loopQ_ret, go_sem, entry, joinEsc, if_pos, reduceIte, Nat.reduceAdd, Nat.reduceLeDiff, Nat.reduceLT, Nat.reduceEqDiff]
    refine (wc_moveOf (P.curs h) (by omega) (cellsAt_of hpb) (by omega) (by omega)).mono ?_
    rintro v m ⟨m1, m2, y6, z6, rfl, hy60, hy61, rfl⟩
    have P6 := P.cur hl hy60 z6
    have hpb6 : (L.set q (curB av y6 z6))[pb]? = some (.cells (encL ls) true) := by rw [List.getElem?_set_ne (by omega)]; exact hpb
    generalize L.set q (curB av y6 z6) = L6 at *
    have hbm := cells_more P6.box
    have hpbm := cells_more hpb6
    have hboxm : ∀ (Y : List Blk) , (L6 ++ Y)[H.length + 2]? = some (.cells [.int .i64 x, .int .i64 a, .int .i64 b, slL pb ls.length c, .int .i64 s] true) := fun Y => get_more P6.box Y
    have hpa := fun X => e_s_l11Party (pr := pr) (e := e') (c := c) (hpbm X) (show ls.length ≤ 9223372036854775806 by omega) x a b s
    cases hok : partyOk x a b ls s with
    | false =>
      simp (maxSteps := 2000000) only [fillParts, hbm, hpa, hok, hwk, Bool.false_eq_true, Wp_some, Wp_none, Wp_ite, Wc_some, Wc_none, Wc_ite, Wp_thenRun, seqQ_normal, seqQ_exit, seqQ_ret, Wp_inBlock, blkQ_normal, blkQ_ret, blkQ_same, blkQ_exit, Wp_opThen, opQ_at, Wp_guardP, retQ_normal, retQ_ret, loopQ_normal, loopQ_exit, loopQ_ret, go_sem, entry, joinEsc, if_pos, reduceIte, Nat.reduceAdd, Nat.reduceLeDiff, Nat.reduceLT, Nat.reduceEqDiff]
      exact ⟨k - 1, by omega, _, _, ls, _, y6, z6, _, _, _, _, P6.more _, hn1, hn, by omega, rfl⟩
    | true =>
      have hsf := fun X => e_s_l11Safe (pr := pr) (e := e') (c := c) (hpbm X) hn x a b s m1 m2
      cases hsafe : safeMv x a b ls s m1 m2 with
      | false =>
        rw [hsafe] at hsf
        simp (maxSteps := 2000000) only [fillParts, hbm, hpa, hok, hsf, hwk, Bool.false_eq_true, Wp_some, Wp_none, Wp_ite, Wc_some, Wc_none, Wc_ite, Wp_thenRun, seqQ_normal, seqQ_exit, seqQ_ret, Wp_inBlock, blkQ_normal, blkQ_ret, blkQ_same, blkQ_exit, Wp_opThen, opQ_at, Wp_guardP, retQ_normal, retQ_ret, loopQ_normal, loopQ_exit, loopQ_ret, go_sem, entry, joinEsc, if_pos, reduceIte, Nat.reduceAdd, Nat.reduceLeDiff, Nat.reduceLT, Nat.reduceEqDiff]
        exact ⟨k - 1, by omega, _, _, ls, _, y6, z6, _, _, _, _, P6.more _, hn1, hn, by omega, rfl⟩
      | true =>
        rw [hsafe] at hsf
        obtain ⟨r1, r2⟩ := safe_range hsafe
        obtain ⟨j, rfl⟩ : ∃ j : Nat, m1 = j := ⟨m1.toNat, by omega⟩
        rw [Int.toNat_natCast] at r2
        have hmv := e_s_l11Moved (pr := pr) (H := L6 ++ [.cells [.int .i64 j, .int .i64 m2] true]) (e := e') (c := c) (hpbm _) hn x a b s m2 r2
        simp only [List.length_append, List.append_assoc, List.cons_append, List.nil_append, List.length_cons, List.length_nil, Nat.zero_add] at hmv
        have hlt : ¬ (L6.length + 1 < H.length + 2 + 1) := by have := get_lt P6.box; omega
        simp (maxSteps := 2000000) only [fillParts, hbm, hboxm, hpa, hok, hsf, hmv, hwk, under_slice, hlt, decide_false, Bool.false_eq_true, Wp_some, Wp_none, Wp_ite, Wc_some, Wc_none, Wc_ite, Wp_thenRun, seqQ_normal, seqQ_exit, seqQ_ret, Wp_inBlock, blkQ_normal, blkQ_ret, blkQ_same, blkQ_exit, Wp_opThen, opQ_at, Wp_guardP, retQ_normal, retQ_ret, loopQ_normal, loopQ_exit, loopQ_ret, go_sem, entry, joinEsc, if_pos, reduceIte, Nat.reduceAdd, Nat.reduceLeDiff, Nat.reduceLT, Nat.reduceEqDiff]
        have hml : (movd ls j m2).length = ls.length := movd_length _ _ _
        have hpp : Ppl (H.length + 2) (L6 ++ [Blk.cells [AV.int IntKind.i64 j, AV.int IntKind.i64 m2] true, Blk.cells (encL (movd ls j m2)) true]) (slL (L6.length + 1) (movd ls j m2).length none) (movd ls j m2) := .inr ⟨_, _, rfl, by rw [List.getElem?_append_right (by omega), Nat.add_sub_cancel_left]; rfl, by omega, fun h => by cases h⟩
        have P7 := (P6.more _).put (s' := s) (e' := minEsc e' (H.length + 2)) (by rw [clean_minEsc, P6.cl]; simp) hpp
        rw [hml] at P7
        exact ⟨k - 1, by omega, _, _, _, _, y6, z6, _, _, _, _, P7, by omega, by omega, by omega, rfl⟩

set_option maxHeartbeats 4000000 in
theorem wc_party_2 {q : Nat} {av : AV} {p : Int} (h : Cu H q av p) (hp : p ≤ 100000000) {L : List Blk} {e' : Option Nat} {pv : AV} {x a b s y z : Int} {w3 w4 w5 w6 w7 w8 w9 w10 w11 w12 w13 : AV} (P : PY H q av L e' [] pv x a b s y z) (hy : y ≤ p + 50) :
    Wp (run T pr (seqTl (seqTl c_s_l1Cur_party)) ⟨[.ptr (some (q, 0)), .ptr (some (H.length, 0)), .ptr (some (H.length + 2, 0)), w3, w4, w5, w6, w7, w8, w9, w10, w11, w12, w13], ⟨L, e'⟩⟩) (retQ a_s_l1Cur_party ⟨H, e⟩ (ptQ H e q av p)) := by
  have hl := h.lt
  obtain ⟨R, hR⟩ : ∃ R, R = (seqTl (seqTl (seqTl c_s_l1Cur_party))) := ⟨_, rfl⟩
  have hc : (seqTl (seqTl c_s_l1Cur_party)) = .seq (seqHd (seqTl (seqTl c_s_l1Cur_party))) R := by rw [hR]; rfl
  have r := @wc_party_3 pr H e q av p h hp
  rw [← hR] at r
  rw [hc]
  have hC := P.curs h
  have hbl := get_lt P.box
  have hqL := hC.lt
  simp (maxSteps := 2000000) +contextual only [c_s_l1Cur_party, seqTl, seqHd, hl, fillParts, cellsAt_s0, cellsAt_sk, blkAt_s0, blkAt_sk, set_s0, set_sk, set_sapp, set_app, List.set_set, List.length_set, finish_one_setG, finish_one_set0, clean_none', Nat.add_assoc, Wp_some, Wp_none, Wp_ite, Wc_some, Wc_none, Wc_ite, Wp_thenRun, seqQ_normal, seqQ_exit, seqQ_ret, Wp_inBlock, blkQ_normal, blkQ_ret, blkQ_same, blkQ_exit, Wp_opThen, opQ_at, Wp_guardP, retQ_normal, retQ_ret, loopQ_normal, loopQ_exit, loopQ_ret, go_sem, entry, joinEsc, if_pos, reduceIte, Nat.reduceAdd, Nat.reduceLeDiff, Nat.reduceLT, Nat.reduceEqDiff]
  refine (amongZ (n := 5) [2, 3, 2, 1, 3] (hC.more _) (by omega) (by simp +contextual only [cellsAt_s0, cellsAt_sk, blkAt_s0, blkAt_sk, set_s0, set_sk, set_sapp, set_app, List.set_set, List.length_set, finish_one_setG, finish_one_set0, clean_none', Nat.add_assoc, go_sem, entry, joinEsc, if_pos, reduceIte, Nat.reduceAdd, Nat.reduceLeDiff, Nat.reduceLT, Nat.reduceEqDiff]) (by omega) rfl (by omega) (by omega)).mono ?_
  rintro v m ⟨x5, y5, z5, rfl, hx5, hy50, hy51, rfl⟩
  have hx5' : 1 ≤ x5 ∧ x5 ≤ 3 := by
    simp at hx5
    omega
  rw [set_app hqL]
  have P5 := (P.cur hl hy50 z5).more [.cells [.int .i64 2, .int .i64 3, .int .i64 2, .int .i64 1, .int .i64 3] true]
  generalize L.set q (curB av y5 z5) ++ [.cells [.int .i64 2, .int .i64 3, .int .i64 2, .int .i64 1, .int .i64 3] true] = L5 at *
  obtain ⟨n, rfl⟩ : ∃ n : Nat, x5 = (n : Int) := ⟨x5.toNat, by omega⟩
  simp (maxSteps := 2000000) only [Wp_some, Wp_none, Wp_ite, Wc_some, Wc_none, Wc_ite, Wp_thenRun, seqQ_normal, seqQ_exit, seqQ_ret, Wp_inBlock, blkQ_normal, blkQ_ret, blkQ_same, blkQ_exit, Wp_opThen, opQ_at, Wp_guardP, retQ_normal, retQ_ret, loopQ_normal, loopQ_exit, loopQ_ret, go_sem, entry, joinEsc, if_pos, reduceIte, Nat.reduceAdd, Nat.reduceLeDiff, Nat.reduceLT, Nat.reduceEqDiff]
  refine Wp_loop (fun k st => ∃ (L : List Blk) (e' : Option Nat) (ls : List Ld) (pv : AV) (y z : Int) (w6 : AV), PY H q av L e' ls pv x a b s y z ∧ ls.length + k = n ∧ y + (k : Int) * 8 ≤ p + 110 ∧
    st = ⟨[.ptr (some (q, 0)), .ptr (some (H.length, 0)), .ptr (some (H.length + 2, 0)), .int .i64 k, w4, w5, w6, w7, w8, w9, w10, w11, w12, w13], ⟨L, e'⟩⟩) ?_ n _ ⟨L5, e', [], pv, y5, z5, _, P5, by simp, by omega, rfl⟩
  rintro k _ ⟨L, e', ls, pv, y, z, w6, P, hnk, hyk, rfl⟩
  by_cases hk : k = 0
  · subst hk
    have hd : ¬ (((0 : Nat) : Int) > 0) := by omega
    have hd' : ¬ ((0 : Int) < ((0 : Nat) : Int)) := by omega
    simp (maxSteps := 2000000) only [w_s_l1Cur_party_1, gt_iff_lt, hd, hd', decide_false, Wp_some, Wp_none, Wp_ite, Wc_some, Wc_none, Wc_ite, Wp_thenRun, seqQ_normal, seqQ_exit, seqQ_ret, Wp_inBlock, blkQ_normal, blkQ_ret, blkQ_same, blkQ_exit, Wp_opThen, opQ_at, Wp_guardP, retQ_normal, retQ_ret, loopQ_normal, loopQ_exit, loopQ_ret, go_sem, entry, joinEsc, if_pos, reduceIte, Nat.reduceAdd, Nat.reduceLeDiff, Nat.reduceLT, Nat.reduceEqDiff]
    exact r P (by omega) (by omega) (by omega)
  · have hd' : ((0 : Int) < (k : Int)) := by omega
    have hwk : IntKind.i64.wrap ((k : Int) - 1) = ((k - 1 : Nat) : Int) := by
      rw [show ((k : Int) - 1) = ((k - 1 : Nat) : Int) by omega]; exact wrap64 (by omega) (by omega)
    have hbx := cellsAt_of P.box
    have hbx' := fun y' z' => by
      have := P.bxs hl y' z' []
      rwa [List.append_nil] at this
    have hbs := P.bxs hl
    have hbl := get_lt P.box
    have hC := P.curs h
    simp (maxSteps := 2000000) only [w_s_l1Cur_party_1, gt_iff_lt, hd', hbx, decide_true, Wp_some, Wp_none, Wp_ite, Wc_some, Wc_none, Wc_ite, Wp_thenRun, seqQ_normal, seqQ_exit, seqQ_ret, Wp_inBlock, blkQ_normal, blkQ_ret, blkQ_same, blkQ_exit, Wp_opThen, opQ_at, Wp_guardP, retQ_normal, retQ_ret, loopQ_normal, loopQ_exit, loopQ_ret, go_sem, entry, joinEsc, if_pos, reduceIte, Nat.reduceAdd, Nat.reduceLeDiff, Nat.reduceLT, Nat.reduceEqDiff]
    refine (wc_pick 2 hC (by omega) (by omega)).mono ?_
    rintro v m ⟨x6, y6, z6, rfl, hx60, hx61, hy60, hy61, rfl⟩
    have hC6 := hC.step hy60 z6
    have hqL := hC.lt
    simp (maxSteps := 2000000) only [fillParts, hbx', hbs, hqL, cellsAt_s0, cellsAt_sk, blkAt_s0, blkAt_sk, set_s0, set_sk, set_sapp, set_app, List.set_set, List.length_set, finish_one_setG, finish_one_set0, clean_none', Nat.add_assoc, Wp_some, Wp_none, Wp_ite, Wc_some, Wc_none, Wc_ite, Wp_thenRun, seqQ_normal, seqQ_exit, seqQ_ret, Wp_inBlock, blkQ_normal, blkQ_ret, blkQ_same, blkQ_exit, Wp_opThen, opQ_at, Wp_guardP, retQ_normal, retQ_ret, loopQ_normal, loopQ_exit, loopQ_ret, go_sem, entry, joinEsc, if_pos, reduceIte, Nat.reduceAdd, Nat.reduceLeDiff, Nat.reduceLT, Nat.reduceEqDiff]
    refine (amongZ (n := 3) [2, 3, 6] (hC6.more _) (by omega) (by simp +contextual only [cellsAt_s0, cellsAt_sk, blkAt_s0, blkAt_sk, set_s0, set_sk, set_sapp, set_app, List.set_set, List.length_set, finish_one_setG, finish_one_set0, clean_none', Nat.add_assoc, go_sem, entry, joinEsc, if_pos, reduceIte, Nat.reduceAdd, Nat.reduceLeDiff, Nat.reduceLT, Nat.reduceEqDiff]) (by omega) rfl (by omega) (by omega)).mono ?_
    rintro v m ⟨x7, y7, z7, rfl, hx7, hy70, hy71, rfl⟩
    have hC7 := hC6.step hy70 z7
    rw [List.set_set] at hC7
    have hx7' : 2 ≤ x7 ∧ x7 ≤ 6 := by
      simp at hx7
      omega
    simp (maxSteps := 2000000) only [fillParts, hbx', hbs, hqL, cellsAt_s0, cellsAt_sk, blkAt_s0, blkAt_sk, set_s0, set_sk, set_sapp, set_app, List.set_set, List.length_set, finish_one_setG, finish_one_set0, clean_none', Nat.add_assoc, Wp_some, Wp_none, Wp_ite, Wc_some, Wc_none, Wc_ite, Wp_thenRun, seqQ_normal, seqQ_exit, seqQ_ret, Wp_inBlock, blkQ_normal, blkQ_ret, blkQ_same, blkQ_exit, Wp_opThen, opQ_at, Wp_guardP, retQ_normal, retQ_ret, loopQ_normal, loopQ_exit, loopQ_ret, go_sem, entry, joinEsc, if_pos, reduceIte, Nat.reduceAdd, Nat.reduceLeDiff, Nat.reduceLT, Nat.reduceEqDiff]
    refine (wc_pick x7 (hC7.more _) (by omega) (by omega)).mono ?_
    rintro v m ⟨x8, y8, z8, rfl, hx80, hx81, hy80, hy81, rfl⟩
    have P8 := P.cur hl hy80 z8
    simp (maxSteps := 2000000) only [fillParts, hbx', hbs, hqL, cellsAt_s0, cellsAt_sk, blkAt_s0, blkAt_sk, set_s0, set_sk, set_sapp, set_app, List.set_set, List.length_set, finish_one_setG, finish_one_set0, clean_none', Nat.add_assoc, Wp_some, Wp_none, Wp_ite, Wc_some, Wc_none, Wc_ite, Wp_thenRun, seqQ_normal, seqQ_exit, seqQ_ret, Wp_inBlock, blkQ_normal, blkQ_ret, blkQ_same, blkQ_exit, Wp_opThen, opQ_at, Wp_guardP, retQ_normal, retQ_ret, loopQ_normal, loopQ_exit, loopQ_ret, go_sem, entry, joinEsc, if_pos, reduceIte, Nat.reduceAdd, Nat.reduceLeDiff, Nat.reduceLT, Nat.reduceEqDiff]
    have hl8 : (L.set q (curB av y8 z8)).length = L.length := List.length_set
    clear hbx' hbs hbx
    generalize L.set q (curB av y8 z8) = L8 at *
    generalize IntKind.i64.wrap (a + x6) = u1
    generalize IntKind.i64.wrap (1 + x8) = u2
    refine wc_ppl (k := 1) (new := [(u1, u2)]) (P8.more _).pp (by rw [List.length_append]; omega) (by omega) (src_new _ 1 2 _ _ (L.length + 1) (by rw [← hl8]; simp +contextual only [encL, go_sem, entry, joinEsc, if_pos, reduceIte, Nat.reduceAdd, Nat.reduceLeDiff, Nat.reduceLT, Nat.reduceEqDiff]) rfl) rfl (by omega) ?_
    intro L' g1 g2 g3 g4
    have hbox' := (g2 _ (Nat.le_refl _)).trans ((P8.more _).box)
    have hbc' := cellsAt_of hbox'
    simp only [List.length_append, List.length_cons, List.length_nil, Nat.zero_add, hl8] at g1 g3
    have hlt : ¬ (L8.length + 2 < H.length + 2 + 1) := by omega
    have hlt2 : ¬ (L8.length + (1 + 1) < H.length + 2 + 1) := by omega
    simp (maxSteps := 2000000) only [fillParts, hbc', hbox', hlt, hlt2, under_slice, hwk, decide_true, decide_false, Bool.false_eq_true, if_false, Wp_some, Wp_none, Wp_ite, Wc_some, Wc_none, Wc_ite, Wp_thenRun, seqQ_normal, seqQ_exit, seqQ_ret, Wp_inBlock, blkQ_normal, blkQ_ret, blkQ_same, blkQ_exit, Wp_opThen, opQ_at, Wp_guardP, retQ_normal, retQ_ret, loopQ_normal, loopQ_exit, loopQ_ret, go_sem, entry, joinEsc, if_pos, reduceIte, Nat.reduceAdd, Nat.reduceLeDiff, Nat.reduceLT, Nat.reduceEqDiff]
    have hln : (ls ++ [(u1, u2)]).length = ls.length + 1 := by rw [List.length_append]; rfl
    have hpp : Ppl (H.length + 2) L' (slL (L.length + (1 + 1)) (ls ++ [(u1, u2)]).length none) (ls ++ [(u1, u2)]) := .inr ⟨_, _, rfl, g3, by omega, fun h => by cases h⟩
    have P9 := (P8.more _).app (s' := s) (e' := minEsc e' (H.length + 2)) g2 g4 (by rw [clean_minEsc, P8.cl]; simp) hpp
    rw [hln] at P9
    rw [← hl8] at P9
    exact ⟨k - 1, by omega, _, _, _, _, y8, z8, _, P9, by omega, by omega, rfl⟩

set_option maxHeartbeats 4000000 in
theorem wc_party {q : Nat} {av : AV} {p : Int} (h : Cu H q av p) (hp : p ≤ 100000000) : Wc (call T pr f_s_l1Cur_party [.ptr (some (q, 0))] ⟨H, e⟩) (ptQ H e q av p) := by
  have hl := h.lt
  rw [call_wc t_s_l1Cur_party]
  obtain ⟨R, hR⟩ : ∃ R, R = seqTl (seqTl c_s_l1Cur_party) := ⟨_, rfl⟩
  have hc : c_s_l1Cur_party = .seq (seqHd c_s_l1Cur_party) (.seq (seqHd (seqTl c_s_l1Cur_party)) R) := by rw [hR]; rfl
  have r := @wc_party_2 pr H e q av p h hp
  rw [← hR] at r
  show Wp (run T pr c_s_l1Cur_party _) _
  rw [hc]
  simp (maxSteps := 2000000) only [a_s_l1Cur_party, c_s_l1Cur_party, seqTl, seqHd, fillParts, cellsAt_s0, cellsAt_sk, blkAt_s0, blkAt_sk, set_s0, set_sk, set_sapp, set_app, List.set_set, List.length_set, finish_one_setG, finish_one_set0, clean_none', Nat.add_assoc, Wp_some, Wp_none, Wp_ite, Wc_some, Wc_none, Wc_ite, Wp_thenRun, seqQ_normal, seqQ_exit, seqQ_ret, Wp_inBlock, blkQ_normal, blkQ_ret, blkQ_same, blkQ_exit, Wp_opThen, opQ_at, Wp_guardP, retQ_normal, retQ_ret, loopQ_normal, loopQ_exit, loopQ_ret, go_sem, entry, joinEsc, if_pos, reduceIte, Nat.reduceAdd, Nat.reduceLeDiff, Nat.reduceLT, Nat.reduceEqDiff]
  refine (wc_plank (h.more _) (by omega)).mono ?_
  rintro v m ⟨x1, a1, b1, y1, z1, rfl, hy10, hy11, rfl⟩
  have h1 := h.step hy10 z1
  simp (maxSteps := 2000000) only [hl, fillParts, cellsAt_s0, cellsAt_sk, blkAt_s0, blkAt_sk, set_s0, set_sk, set_sapp, set_app, List.set_set, List.length_set, finish_one_setG, finish_one_set0, clean_none', Nat.add_assoc, Wp_some, Wp_none, Wp_ite, Wc_some, Wc_none, Wc_ite, Wp_thenRun, seqQ_normal, seqQ_exit, seqQ_ret, Wp_inBlock, blkQ_normal, blkQ_ret, blkQ_same, blkQ_exit, Wp_opThen, opQ_at, Wp_guardP, retQ_normal, retQ_ret, loopQ_normal, loopQ_exit, loopQ_ret, go_sem, entry, joinEsc, if_pos, reduceIte, Nat.reduceAdd, Nat.reduceLeDiff, Nat.reduceLT, Nat.reduceEqDiff]
  refine (amongZ (n := 6) [1, 2, 2, 3, 1, 4] (h1.more _) (by omega) (by simp +contextual only [cellsAt_s0, cellsAt_sk, blkAt_s0, blkAt_sk, set_s0, set_sk, set_sapp, set_app, List.set_set, List.length_set, finish_one_setG, finish_one_set0, clean_none', Nat.add_assoc, go_sem, entry, joinEsc, if_pos, reduceIte, Nat.reduceAdd, Nat.reduceLeDiff, Nat.reduceLT, Nat.reduceEqDiff]) (by omega) rfl (by omega) (by omega)).mono ?_
  rintro v m ⟨x2, y2, z2, rfl, hx2, hy20, hy21, rfl⟩
  simp (maxSteps := 2000000) only [hl, fillParts, under_sliceN, cellsAt_s0, cellsAt_sk, blkAt_s0, blkAt_sk, set_s0, set_sk, set_sapp, set_app, List.set_set, List.length_set, finish_one_setG, finish_one_set0, clean_none', Nat.add_assoc, Wp_some, Wp_none, Wp_ite, Wc_some, Wc_none, Wc_ite, Wp_thenRun, seqQ_normal, seqQ_exit, seqQ_ret, Wp_inBlock, blkQ_normal, blkQ_ret, blkQ_same, blkQ_exit, Wp_opThen, opQ_at, Wp_guardP, retQ_normal, retQ_ret, loopQ_normal, loopQ_exit, loopQ_ret, go_sem, entry, joinEsc, if_pos, reduceIte, Nat.reduceAdd, Nat.reduceLeDiff, Nat.reduceLT, Nat.reduceEqDiff]
  refine r (x := x1) (a := a1) (b := b1) (s := x2) ⟨⟨_, rfl⟩, hy20, rfl, ?_, ?_, .inl ⟨rfl, rfl⟩⟩ (by omega)
  · rw [blkAt_s0]
    rfl
  · rw [blkAt_sk]
    rfl

end Go.Proofs.Ythkgpblohjpcdaa.Slim

/- Planks: the Draw functions. -/
namespace Go.Proofs.Ythkgpblohjpcdaa.Slim

open Go

set_option linter.unusedSimpArgs false

set_option linter.unusedVariables false

variable {pr : Prims} {H : List Blk} {e : Option Nat}

end Go.Proofs.Ythkgpblohjpcdaa.Slim

/- Planks: what the law FnPlanks asks, plainly; the law. -/
namespace Go.Proofs.Ythkgpblohjpcdaa.Slim

open Go

set_option linter.unusedSimpArgs false

set_option linter.unusedVariables false

variable {pr : Prims} {H : List Blk} {e : Option Nat}

theorem spots_pl {ls : List Ld} {j : Nat} (hj : j < ls.length) : (spots ls).getD j 0 = plOf ls j := by
  have hl : ls[j]? = some ls[j] := List.getElem?_eq_getElem hj
  unfold plOf spots
  rw [getD_app_left (by simpa using hj), hl]
  simp [List.getD_eq_getElem?_getD, hj]

end Go.Proofs.Ythkgpblohjpcdaa.Slim

/- Planks: places, drawn. -/
namespace Go.Proofs.Ythkgpblohjpcdaa.Slim

open Go

set_option linter.unusedSimpArgs false

set_option linter.unusedVariables false

variable {pr : Prims} {H : List Blk} {e : Option Nat}

structure TG (H : List Blk) (q : Nat) (av : AV) (L : List Blk) (e : Option Nat) (os : List Int) (ob : Nat) (oc : Option Nat) (bx : List AV) (y z : Int) : Prop where
  gr : Grown (H.set q (curB av y z)) L
  y0 : 0 ≤ y
  cl : clean H.length e = true
  box : L[H.length]? = some (.cells bx true)
  out : L[ob]? = some (.cells (encI os) true)
  obl : H.length < ob
  cap : oc = some 0 → os.length = 0

theorem TG.more {q ob : Nat} {av : AV} {L : List Blk} {os : List Int} {oc : Option Nat} {bx : List AV} {y z : Int} (P : TG H q av L e os ob oc bx y z) (X : List Blk) : TG H q av (L ++ X) e os ob oc bx y z :=
  ⟨P.gr.more _, P.y0, P.cl, get_more P.box _, get_more P.out _, P.obl, P.cap⟩

theorem TG.cur {q ob : Nat} {av : AV} {L : List Blk} {os : List Int} {oc : Option Nat} {bx : List AV} {y z : Int} (P : TG H q av L e os ob oc bx y z) (hq : q < H.length) {y' : Int} (hy : 0 ≤ y') (z' : Int) : TG H q av (L.set q (curB av y' z')) e os ob oc bx y' z' :=
  ⟨P.gr.cur hq _, hy, P.cl, by rw [List.getElem?_set_ne (by omega)]; exact P.box, by have := P.obl; rw [List.getElem?_set_ne (by omega)]; exact P.out, P.obl, P.cap⟩

theorem TG.curs {q ob : Nat} {av : AV} {L : List Blk} {os : List Int} {oc : Option Nat} {bx : List AV} {y z p : Int} (P : TG H q av L e os ob oc bx y z) (h : Cu H q av p) : Cu L q av y := P.gr.curs h P.y0

theorem wc_tg {q ob : Nat} {av src : AV} {L : List Blk} {os : List Int} {oc : Option Nat} {bx : List AV} {y z v : Int} {Q : AV → Mem → Prop} (P : TG H q av L e os ob oc bx y z) (hs : srcCells false L src = some (1, [.int .i64 v])) (hn : os.length ≤ 100000) (hQ : ∀ L' : List Blk, TG H q av L' e (os ++ [v]) L.length none bx y z → L'.length = L.length + 1 → (∀ i, i ≠ ob → i < L.length → L'[i]? = L[i]?) → Q (slI L.length (os ++ [v]).length none) ⟨L', e⟩) : Wc (appendV L e false 1 8 (slI ob os.length oc) src) Q := by
  refine wc_ap (n := os.length) (k := 1) (new := [AV.int .i64 v]) P.out hs (by simp [encI]) rfl (by unfold maxBytes; omega) P.cap ?_
  intro L' g1 g2 g3 g4
  have hll : (os ++ [v]).length = os.length + 1 := by rw [List.length_append]; rfl
  rw [← hll]
  have hob := P.obl
  have hbl := get_lt P.box
  refine hQ L' ⟨g4 _ P.gr (by rw [List.length_set]; omega), P.y0, P.cl, (g2 _ (by omega) (by omega)).trans P.box, ?_, by omega, (fun h => by cases h)⟩ g1 g2
  rw [encI_append]
  exact g3

set_option maxHeartbeats 4000000 in
theorem tg_5 {q : Nat} {av : AV} {p : Int} (h : Cu H q av p) (hp : p ≤ 100000000) {L : List Blk} {e' : Option Nat} {os : List Int} {ob : Nat} {oc : Option Nat} {bx : List AV} {y z : Int} {w1 w2 w3 w5 w6 w7 w8 w9 w10 w11 w12 w13 w14 w15 : AV} (P : TG H q av L e' os ob oc bx y z) (hn : os.length ≤ 4) (hy : y ≤ p + 60) :
    Wp (run T pr (seqTl (seqTl (seqTl (seqTl c_s_l1Cur_targets)))) ⟨[.ptr (some (q, 0)), w1, w2, w3, slI ob os.length oc, w5, w6, w7, w8, w9, w10, w11, w12, w13, w14, w15], ⟨L, e'⟩⟩) (retQ a_s_l1Cur_targets ⟨H, e⟩ fun v m => ∃ (os : List Int) (c : Option Nat) (y z : Int), v = slI H.length os.length c ∧ os.length ≤ 5 ∧ 0 ≤ y ∧ y ≤ p + 100 ∧ m = ⟨H.set q (curB av y z) ++ [.cells (encI os) true], e⟩) := by
  have hl := h.lt
  have fin : ∀ (L : List Blk) (os : List Int) (ob : Nat) (oc : Option Nat) (y z : Int), TG H q av L e' os ob oc bx y z → finish 2 H.length e (slI ob os.length oc) ⟨L, e'⟩ = some (slI H.length os.length oc, ⟨H.set q (curB av y z) ++ [.cells (encI os) true], e⟩) := by
    intro L os ob oc y z P
    have := P.obl
    exact finish_sl_set (H := H) P.gr e e' P.cl (by omega) P.out (under_encI _ _)
  simp (maxSteps := 2000000) only [c_s_l1Cur_targets, seqTl, Wp_some, Wp_none, Wp_ite, Wc_some, Wc_none, Wc_ite, Wp_thenRun, seqQ_normal, seqQ_exit, seqQ_ret, Wp_inBlock, blkQ_normal, blkQ_ret, blkQ_same, blkQ_exit, Wp_opThen, opQ_at, Wp_guardP, retQ_normal, retQ_ret, loopQ_normal, loopQ_exit, loopQ_ret, go_sem, entry, joinEsc, if_pos, reduceIte, Nat.reduceAdd, Nat.reduceLeDiff, Nat.reduceLT, Nat.reduceEqDiff]
  refine (wc_one 30 (P.curs h) (by omega) (by omega)).mono ?_
  rintro v m ⟨x5, y5, z5, rfl, hy50, hy51, rfl⟩
  have P5 := P.cur hl hy50 z5
  generalize L.set q (curB av y5 z5) = L5 at *
  cases x5 with
  | false =>
    simp (maxSteps := 2000000) only [a_s_l1Cur_targets, fin _ _ _ _ _ _ P5, Wp_some, Wp_none, Wp_ite, Wc_some, Wc_none, Wc_ite, Wp_thenRun, seqQ_normal, seqQ_exit, seqQ_ret, Wp_inBlock, blkQ_normal, blkQ_ret, blkQ_same, blkQ_exit, Wp_opThen, opQ_at, Wp_guardP, retQ_normal, retQ_ret, loopQ_normal, loopQ_exit, loopQ_ret, go_sem, entry, joinEsc, if_pos, reduceIte, Nat.reduceAdd, Nat.reduceLeDiff, Nat.reduceLT, Nat.reduceEqDiff]
    exact ⟨os, oc, y5, z5, rfl, by omega, hy50, by omega, rfl⟩
  | true =>
    simp (maxSteps := 2000000) only [fillParts, Wp_some, Wp_none, Wp_ite, Wc_some, Wc_none, Wc_ite, Wp_thenRun, seqQ_normal, seqQ_exit, seqQ_ret, Wp_inBlock, blkQ_normal, blkQ_ret, blkQ_same, blkQ_exit, Wp_opThen, opQ_at, Wp_guardP, retQ_normal, retQ_ret, loopQ_normal, loopQ_exit, loopQ_ret, go_sem, entry, joinEsc, if_pos, reduceIte, Nat.reduceAdd, Nat.reduceLeDiff, Nat.reduceLT, Nat.reduceEqDiff]
    refine wc_tg (v := 0) (P5.more _) (src_new _ 1 1 _ _ L5.length (by simp +contextual only [go_sem, entry, joinEsc, if_pos, reduceIte, Nat.reduceAdd, Nat.reduceLeDiff, Nat.reduceLT, Nat.reduceEqDiff]) rfl) (by omega) ?_
    intro L' P6 _ _
    have hll : (os ++ [(0 : Int)]).length = os.length + 1 := by rw [List.length_append]; rfl
    have hf := fin _ _ _ _ _ _ P6
    simp only [List.length_append, List.length_cons, List.length_nil, Nat.zero_add] at hf
    simp (maxSteps := 2000000) only [a_s_l1Cur_targets, hf, Wp_some, Wp_none, Wp_ite, Wc_some, Wc_none, Wc_ite, Wp_thenRun, seqQ_normal, seqQ_exit, seqQ_ret, Wp_inBlock, blkQ_normal, blkQ_ret, blkQ_same, blkQ_exit, Wp_opThen, opQ_at, Wp_guardP, retQ_normal, retQ_ret, loopQ_normal, loopQ_exit, loopQ_ret, go_sem, entry, joinEsc, if_pos, reduceIte, Nat.reduceAdd, Nat.reduceLeDiff, Nat.reduceLT, Nat.reduceEqDiff]
    refine ⟨os ++ [0], none, y5, z5, ?_, by omega, hy50, by omega, rfl⟩
    rw [hll]

theorem TG.put {q ob nb : Nat} {av : AV} {L : List Blk} {os : List Int} {oc : Option Nat} {bx : List AV} {y z : Int} {e' : Option Nat} (P : TG H q av L e os ob oc bx y z) (hc : clean H.length e' = true) (h1 : H.length < nb) (h2 : nb ≠ ob) (X : Blk) : TG H q av (L.set nb X) e' os ob oc bx y z :=
  ⟨P.gr.put (by rw [List.length_set]; omega) _, P.y0, hc, by rw [List.getElem?_set_ne (by omega)]; exact P.box, by rw [List.getElem?_set_ne h2]; exact P.out, P.obl, P.cap⟩

def overT (os : List Int) (z : List Int) : Nat → List Int
  | 0 => os
  | i + 1 => (overT os z i).set i (z.getD i 0)

theorem overT_len (os z : List Int) : ∀ i, (overT os z i).length = os.length
  | 0 => rfl
  | i + 1 => by rw [overT, List.length_set, overT_len os z i]

set_option maxHeartbeats 4000000 in
theorem tg_loop3 {q : Nat} {av : AV} {L : List Blk} {e' : Option Nat} {os : List Int} {ob nb nq : Nat} {oc nc : Option Nat} {bx : List AV} {y z x a b s : Int} {ls : List Ld} {zz : List Int} {w1 w2 w3 w5 w7 w8 w10 w11 w12 w13 w15 : AV} (P : TG H q av L e' os ob oc bx y z) (hn : ls.length ≤ 100) (hos : os.length = ls.length) (hnb : L[nb]? = some (.cells [.int .i64 x, .int .i64 a, .int .i64 b, slL nq ls.length nc, .int .i64 s] true)) (hnq : cellsAt L nq = some (encL (putL ls zz))) (d1 : nb ≠ ob) (d2 : nq ≠ ob) :
    Wp (run T pr (.loop w_s_l1Cur_targets_3) ⟨[.ptr (some (q, 0)), w1, w2, w3, slI ob os.length oc, w5, .ptr (some (nb, 0)), w7, w8, .int .i64 0, w10, w11, w12, w13, .undef, w15], ⟨L, e'⟩⟩)
      (fun ex st => ex = .exit 4 ∧ ∃ (L' : List Blk) (os' : List Int) (v9 v14 : AV), os'.length = os.length ∧ TG H q av L' e' os' ob oc bx y z ∧ st = ⟨[.ptr (some (q, 0)), w1, w2, w3, slI ob os.length oc, w5, .ptr (some (nb, 0)), w7, w8, v9, w10, w11, w12, w13, v14, w15], ⟨L', e'⟩⟩) := by
  have key : ∀ os' : List Int, os'.length = os.length → TG H q av (L.set ob (.cells (encI os') true)) e' os' ob oc bx y z := by
    intro os' h
    have hob := P.obl
    exact ⟨P.gr.put (by rw [List.length_set]; omega) _, P.y0, P.cl, by rw [List.getElem?_set_ne (by omega)]; exact P.box, List.getElem?_set_self (get_lt P.out), P.obl, fun h0 => by rw [h]; exact P.cap h0⟩
  refine Wp_loop (fun k st => ∃ (i : Nat) (v14 : AV), i + k = ls.length ∧ st = ⟨[.ptr (some (q, 0)), w1, w2, w3, slI ob os.length oc, w5, .ptr (some (nb, 0)), w7, w8, .int .i64 i, w10, w11, w12, w13, v14, w15], ⟨L.set ob (.cells (encI (overT os zz i)) true), e'⟩⟩) ?_ ls.length _ ⟨0, _, by omega, by rw [overT, set_self_at P.out]; rfl⟩
  rintro k _ ⟨i, v14, hi, rfl⟩
  have hlen := overT_len os zz i
  have hnb' : cellsAt (L.set ob (.cells (encI (overT os zz i)) true)) nb = some [.int .i64 x, .int .i64 a, .int .i64 b, slL nq ls.length nc, .int .i64 s] := by
    rw [cells_same (List.getElem?_set_ne (fun h => d1 h.symm))]
    exact cellsAt_of hnb
  have hnq' : cellsAt (L.set ob (.cells (encI (overT os zz i)) true)) nq = some (encL (putL ls zz)) := by
    rw [cells_same (List.getElem?_set_ne (fun h => d2 h.symm))]
    exact hnq
  have hob' : (L.set ob (.cells (encI (overT os zz i)) true))[ob]? = some (.cells (encI (overT os zz i)) true) := List.getElem?_set_self (get_lt P.out)
  by_cases hk : k = 0
  · have he : i = ls.length := by omega
    subst he
    simp (maxSteps := 2000000) only [w_s_l1Cur_targets_3, hnb', Nat.lt_irrefl, decide_false, Wp_some, Wp_none, Wp_ite, Wc_some, Wc_none, Wc_ite, Wp_thenRun, seqQ_normal, seqQ_exit, seqQ_ret, Wp_inBlock, blkQ_normal, blkQ_ret, blkQ_same, blkQ_exit, Wp_opThen, opQ_at, Wp_guardP, retQ_normal, retQ_ret, loopQ_normal, loopQ_exit, loopQ_ret, go_sem, entry, joinEsc, if_pos, reduceIte, Nat.reduceAdd, Nat.reduceLeDiff, Nat.reduceLT, Nat.reduceEqDiff]
    exact ⟨_, _, _, _, hlen, key _ hlen, rfl⟩
  · have hil : i < ls.length := by omega
    have hil' : i < os.length := by omega
    have hw := wrap_succ (show i < 9223372036854775807 by omega)
    have hg := putL_get ls zz i hil
    have hse := setRange_encI (X := overT os zz i) (i := i) (a := zz.getD i 0) (by omega)
    have hle : i + 1 ≤ (encI (overT os zz i)).length := by simp only [encI, List.length_map]; omega
    have hov : (overT os zz i).set i (zz.getD i 0) = overT os zz (i + 1) := rfl
    rw [hov] at hse
    simp (maxSteps := 2000000) only [w_s_l1Cur_targets_3, hnb', hnq', hob', hil, hil', part_encL0 _ hg, hse, hle, hw, List.set_set, decide_true, Wp_some, Wp_none, Wp_ite, Wc_some, Wc_none, Wc_ite, Wp_thenRun, seqQ_normal, seqQ_exit, seqQ_ret, Wp_inBlock, blkQ_normal, blkQ_ret, blkQ_same, blkQ_exit, Wp_opThen, opQ_at, Wp_guardP, retQ_normal, retQ_ret, loopQ_normal, loopQ_exit, loopQ_ret, go_sem, entry, joinEsc, if_pos, reduceIte, Nat.reduceAdd, Nat.reduceLeDiff, Nat.reduceLT, Nat.reduceEqDiff]
    exact ⟨k - 1, by omega, i + 1, _, by omega, rfl⟩

set_option maxHeartbeats 4000000 in
theorem tg_loop2 {q : Nat} {av : AV} {p : Int} (h : Cu H q av p) (hp : p ≤ 100000000) {L : List Blk} {e' : Option Nat} {os : List Int} {ob nb nq : Nat} {oc nc : Option Nat} {bx : List AV} {y z x a b s : Int} {ls : List Ld} {zz : List Int} {w1 w2 w3 w5 w9 w10 w11 w14 w15 : AV} (K : Plk x a b s ls) (G : Good x a b ls zz) (P : TG H q av L e' os ob oc bx y z) (hy : y ≤ p + 40) (hnb : L[nb]? = some (.cells [.int .i64 x, .int .i64 a, .int .i64 b, slL nq ls.length nc, .int .i64 s] true)) (hnq : cellsAt L nq = some (encL (putL ls zz))) (d1 : nb ≠ ob) (d2 : nq ≠ ob) (d3 : nb ≠ nq) (d4 : H.length < nb) (d5 : nq ≠ q) :
    Wp (run T pr (.loop w_s_l1Cur_targets_2) ⟨[.ptr (some (q, 0)), w1, w2, w3, slI ob os.length oc, w5, .ptr (some (nb, 0)), .int .i64 0, .undef, w9, w10, w11, .undef, .undef, w14, w15], ⟨L, e'⟩⟩)
      (fun ex st => ex = .exit 2 ∧ ∃ (L' : List Blk) (e1 : Option Nat) (nq' : Nat) (nc' : Option Nat) (zz' : List Int) (y' z' : Int) (v7 v8 v12 v13 : AV), TG H q av L' e1 os ob oc bx y' z' ∧ y' ≤ p + 56 ∧ L'[nb]? = some (.cells [.int .i64 x, .int .i64 a, .int .i64 b, slL nq' ls.length nc', .int .i64 s] true) ∧ cellsAt L' nq' = some (encL (putL ls zz')) ∧ nq' ≠ ob ∧ st = ⟨[.ptr (some (q, 0)), w1, w2, w3, slI ob os.length oc, w5, .ptr (some (nb, 0)), v7, v8, w9, w10, w11, v12, v13, w14, w15], ⟨L', e1⟩⟩) := by
  have hl := h.lt
  refine Wp_loop (fun k st => ∃ (i : Nat) (L' : List Blk) (e1 : Option Nat) (nq' : Nat) (nc' : Option Nat) (zz' : List Int) (y' z' : Int) (v8 v12 v13 : AV), i + k = 8 ∧ TG H q av L' e1 os ob oc bx y' z' ∧ y' + (k : Int) * 2 ≤ p + 56 ∧ L'[nb]? = some (.cells [.int .i64 x, .int .i64 a, .int .i64 b, slL nq' ls.length nc', .int .i64 s] true) ∧ cellsAt L' nq' = some (encL (putL ls zz')) ∧ nq' ≠ ob ∧ nb ≠ nq' ∧ nq' ≠ q ∧ Good x a b ls zz' ∧
    st = ⟨[.ptr (some (q, 0)), w1, w2, w3, slI ob os.length oc, w5, .ptr (some (nb, 0)), .int .i64 i, v8, w9, w10, w11, v12, v13, w14, w15], ⟨L', e1⟩⟩) ?_ 8 _ ⟨0, L, e', nq, nc, zz, y, z, _, _, _, by omega, P, by omega, hnb, hnq, d2, d3, d5, G, rfl⟩
  rintro k _ ⟨i, L, e', nq, nc, zz, y, z, v8, v12, v13, hi, P, hyk, hnb, hnq, d2, d3, d5, G, rfl⟩
  by_cases hk : k = 0
  · have hd : ¬ ((i : Int) < 8) := by omega
    simp (maxSteps := 2000000) only [w_s_l1Cur_targets_2, hd, decide_false, Wp_some, Wp_none, Wp_ite, Wc_some, Wc_none, Wc_ite, Wp_thenRun, seqQ_normal, seqQ_exit, seqQ_ret, Wp_inBlock, blkQ_normal, blkQ_ret, blkQ_same, blkQ_exit, Wp_opThen, opQ_at, Wp_guardP, retQ_normal, retQ_ret, loopQ_normal, loopQ_exit, loopQ_ret, go_sem, entry, joinEsc, if_pos, reduceIte, Nat.reduceAdd, Nat.reduceLeDiff, Nat.reduceLT, Nat.reduceEqDiff]
    exact ⟨_, _, nq, nc, zz, y, z, _, _, _, _, P, by omega, hnb, hnq, d2, rfl⟩
  · have hd : ((i : Int) < 8) := by omega
    have hw := wrap_succ (show i < 9223372036854775807 by omega)
    have hnb0 := cellsAt_of hnb
    obtain ⟨cap, hmv⟩ := e_s_l11Moves (pr := pr) (H := L) (e := e') (c := nc) (q := nq) (ls := putL ls zz) hnq (by rw [putL_length]; exact K.n3) (G.toBox0.plB (by have := K.x12; omega)) x a b s ⟨K.s1, K.s4⟩
    simp only [putL_length] at hmv
    obtain ⟨M, hM⟩ : ∃ M, M = mvs x a b s (putL ls zz) := ⟨_, rfl⟩
    have hMn : M.length ≤ 6 := by
      rw [hM]
      have h3 := K.n3
      exact Nat.le_trans (mvs_le x a b s _ _ _) (by rw [putL_length]; omega)
    rw [← hM] at hmv
    have P1 := P.more [.cells (encL M) true]
    have hnb1 := get_more hnb [.cells (encL M) true]
    have hnq1 := cells_mono hnq [.cells (encL M) true]
    have hM1 : (L ++ [.cells (encL M) true])[L.length]? = some (.cells (encL M) true) := by rw [List.getElem?_append_right (Nat.le_refl _), Nat.sub_self]; rfl
    have hnbl := get_lt hnb
    have hnql := cellsAt_lt hnq
    have hobl := get_lt P.out
    have hLM : L.length ≠ q := by omega
    have hl1 : (L ++ [Blk.cells (encL M) true]).length = L.length + 1 := by rw [List.length_append]; rfl
    by_cases h0 : (0 : Int) < (M.length : Int)
    · simp (maxSteps := 2000000) only [w_s_l1Cur_targets_2, hd, hnb0, hmv, gt_iff_lt, h0, decide_true, Wp_some, Wp_none, Wp_ite, Wc_some, Wc_none, Wc_ite, Wp_thenRun, seqQ_normal, seqQ_exit, seqQ_ret, Wp_inBlock, blkQ_normal, blkQ_ret, blkQ_same, blkQ_exit, Wp_opThen, opQ_at, Wp_guardP, retQ_normal, retQ_ret, loopQ_normal, loopQ_exit, loopQ_ret, go_sem, entry, joinEsc, if_pos, reduceIte, Nat.reduceAdd, Nat.reduceLeDiff, Nat.reduceLT, Nat.reduceEqDiff]
      generalize L ++ [Blk.cells (encL M) true] = L1 at *
      have hnb10 := cellsAt_of hnb1
      simp (maxSteps := 2000000) only [hnb10, Wp_some, Wp_none, Wp_ite, Wc_some, Wc_none, Wc_ite, Wp_thenRun, seqQ_normal, seqQ_exit, seqQ_ret, Wp_inBlock, blkQ_normal, blkQ_ret, blkQ_same, blkQ_exit, Wp_opThen, opQ_at, Wp_guardP, retQ_normal, retQ_ret, loopQ_normal, loopQ_exit, loopQ_ret, go_sem, entry, joinEsc, if_pos, reduceIte, Nat.reduceAdd, Nat.reduceLeDiff, Nat.reduceLT, Nat.reduceEqDiff]
      refine (wc_pick (M.length : Int) (P1.curs h) (by omega) (by omega)).mono ?_
      rintro v m ⟨x6, y6, z6, rfl, hx60, hx61, hy60, hy61, rfl⟩
      obtain ⟨j, rfl⟩ : ∃ j : Nat, x6 = (j : Int) := ⟨x6.toNat, by omega⟩
      have hj : j < M.length := by omega
      have hlj : M[j]? = some M[j] := List.getElem?_eq_getElem hj
      have hjm : M[j] ∈ mvs x a b s (putL ls zz) := by rw [← hM]; exact List.getElem_mem hj
      obtain ⟨i2, hi2, hi3⟩ := mvs_range hjm
      rw [putL_length] at hi3
      have hit : M[j].1.toNat = i2 := by rw [hi2]; exact Int.toNat_natCast i2
      have hnx : nxM zz M[j] = zz.set i2 M[j].2 := by unfold nxM; rw [hit]
      have Gt := G.next K (mem_nx hjm)
      have hpart : part true (encL M) (j * 2) 2 = some (.agg [.int .i64 (i2 : Int), .int .i64 M[j].2]) := by
        have := part_encL hlj
        rw [hi2] at this
        exact this
      have P2 := P1.cur hl hy60 z6
      have hnb2 : (L1.set q (curB av y6 z6))[nb]? = some (.cells [.int .i64 x, .int .i64 a, .int .i64 b, slL nq ls.length nc, .int .i64 s] true) := by rw [List.getElem?_set_ne (by omega)]; exact hnb1
      have hnq2 : cellsAt (L1.set q (curB av y6 z6)) nq = some (encL (putL ls zz)) := by rw [cells_same (List.getElem?_set_ne (fun h => d5 h.symm))]; exact hnq1
      have hM2 : cellsAt (L1.set q (curB av y6 z6)) L.length = some (encL M) := by rw [cells_same (List.getElem?_set_ne (fun h => hLM h.symm))]; exact cellsAt_of hM1
      have hl2 : (L1.set q (curB av y6 z6)).length = L.length + 1 := by rw [List.length_set]; exact hl1
      generalize L1.set q (curB av y6 z6) = L2 at *
      have hnb20 := cellsAt_of hnb2
      have hmvd := e_s_l11Moved (pr := pr) (H := L2) (e := e') (c := nc) (ls := putL ls zz) (q := nq) hnq2 (by rw [putL_length]; exact K.n3) x a b s M[j].2 (i := i2) (by rw [putL_length]; exact hi3)
      rw [← putL_set ls zz i2 M[j].2 hi3 (by rw [G.len]; exact K.n3), ← hnx] at hmvd
      simp only [putL_length] at hmvd
      have r7 := get_more hnb2 [.cells (encL (putL ls (nxM zz M[j]))) true]
      have hlt : ¬ (L2.length < nb + 1) := by omega
      simp (maxSteps := 2000000) only [fillParts, hj, hnb20, hM2, hpart, hmvd, r7, under_slice, hlt, hw, decide_true, decide_false, Bool.false_eq_true, if_false, Wp_some, Wp_none, Wp_ite, Wc_some, Wc_none, Wc_ite, Wp_thenRun, seqQ_normal, seqQ_exit, seqQ_ret, Wp_inBlock, blkQ_normal, blkQ_ret, blkQ_same, blkQ_exit, Wp_opThen, opQ_at, Wp_guardP, retQ_normal, retQ_ret, loopQ_normal, loopQ_exit, loopQ_ret, go_sem, entry, joinEsc, if_pos, reduceIte, Nat.reduceAdd, Nat.reduceLeDiff, Nat.reduceLT, Nat.reduceEqDiff]
      have P3 := (P2.more [.cells (encL (putL ls (nxM zz M[j]))) true]).put (e' := minEsc e' nb) (nb := nb) (by rw [clean_minEsc, P2.cl]; simp; omega) d4 d1 (.cells [.int .i64 x, .int .i64 a, .int .i64 b, slL L2.length ls.length none, .int .i64 s] true)
      refine ⟨k - 1, by omega, i + 1, _, _, L2.length, none, nxM zz M[j], y6, z6, _, _, _, by omega, P3, by omega, ?_, ?_, by omega, by omega, by omega, Gt, rfl⟩
      · rw [List.getElem?_set_self (by rw [List.length_append]; omega)]
      · rw [cells_same (List.getElem?_set_ne (by omega))]
        exact cellsAt_of (by rw [List.getElem?_append_right (Nat.le_refl _), Nat.sub_self]; rfl)
    · simp (maxSteps := 2000000) only [w_s_l1Cur_targets_2, hd, hnb0, hmv, gt_iff_lt, h0, hw, decide_true, decide_false, Wp_some, Wp_none, Wp_ite, Wc_some, Wc_none, Wc_ite, Wp_thenRun, seqQ_normal, seqQ_exit, seqQ_ret, Wp_inBlock, blkQ_normal, blkQ_ret, blkQ_same, blkQ_exit, Wp_opThen, opQ_at, Wp_guardP, retQ_normal, retQ_ret, loopQ_normal, loopQ_exit, loopQ_ret, go_sem, entry, joinEsc, if_pos, reduceIte, Nat.reduceAdd, Nat.reduceLeDiff, Nat.reduceLT, Nat.reduceEqDiff]
      exact ⟨k - 1, by omega, i + 1, _, _, nq, nc, zz, y, z, _, _, _, by omega, P1, by omega, hnb1, hnq1, d2, d3, d5, G, rfl⟩

def tgQ (H : List Blk) (e : Option Nat) (q : Nat) (av : AV) (p : Int) : AV → Mem → Prop := fun v m => ∃ (os : List Int) (c : Option Nat) (y z : Int), v = slI H.length os.length c ∧ os.length ≤ 5 ∧ 0 ≤ y ∧ y ≤ p + 100 ∧ m = ⟨H.set q (curB av y z) ++ [.cells (encI os) true], e⟩

set_option maxHeartbeats 4000000 in
theorem tg_4 {q : Nat} {av : AV} {p : Int} (h : Cu H q av p) (hp : p ≤ 100000000) {L : List Blk} {e' : Option Nat} {os : List Int} {ob b0 : Nat} {oc c : Option Nat} {y z x a b s : Int} {ls : List Ld} {w1 w3 w5 w10 w11 w15 : AV} (P : TG H q av L e' os ob oc [.int .i64 x, .int .i64 a, .int .i64 b, slL b0 ls.length c, .int .i64 s] y z) (hls : cellsAt H b0 = some (encL ls)) (hbq : b0 ≠ q) (hn : ls.length ≤ 100) (hos4 : os.length ≤ 4) (hos : partyOk x a b ls s = true → os.length = ls.length) (hy : y ≤ p + 30) :
    Wp (run T pr (seqTl (seqTl (seqTl c_s_l1Cur_targets))) ⟨[.ptr (some (q, 0)), w1, .ptr (some (H.length, 0)), w3, slI ob os.length oc, w5, .undef, .undef, .undef, .undef, w10, w11, .undef, .undef, .undef, w15], ⟨L, e'⟩⟩) (retQ a_s_l1Cur_targets ⟨H, e⟩ (tgQ H e q av p)) := by
  have hl := h.lt
  obtain ⟨R, hR⟩ : ∃ R, R = (seqTl (seqTl (seqTl (seqTl c_s_l1Cur_targets)))) := ⟨_, rfl⟩
  have hc : (seqTl (seqTl (seqTl c_s_l1Cur_targets))) = (.seq (seqHd (seqTl (seqTl (seqTl c_s_l1Cur_targets)))) R) := by rw [hR]; rfl
  have r := @tg_5 pr H e q av p h hp
  rw [← hR] at r
  rw [hc]
  have hb0 := cellsAt_lt hls
  have hbx := cellsAt_of P.box
  have hlsL : cellsAt L b0 = some (encL ls) := by
    rw [cells_same (L := H) (by rw [P.gr.get (by rw [List.length_set]; exact hb0), List.getElem?_set_ne (fun h => hbq h.symm)])]
    exact hls
  have hpa := e_s_l11Party (pr := pr) (e := e') (c := c) hlsL (show ls.length ≤ 9223372036854775806 by omega) x a b s
  cases hok : partyOk x a b ls s with
  | false =>
    simp (maxSteps := 2000000) only [c_s_l1Cur_targets, seqTl, seqHd, hbx, hpa, hok, Bool.false_eq_true, Wp_some, Wp_none, Wp_ite, Wc_some, Wc_none, Wc_ite, Wp_thenRun, seqQ_normal, seqQ_exit, seqQ_ret, Wp_inBlock, blkQ_normal, blkQ_ret, blkQ_same, blkQ_exit, Wp_opThen, opQ_at, Wp_guardP, retQ_normal, retQ_ret, loopQ_normal, loopQ_exit, loopQ_ret, go_sem, entry, joinEsc, if_pos, reduceIte, Nat.reduceAdd, Nat.reduceLeDiff, Nat.reduceLT, Nat.reduceEqDiff]
    exact r P hos4 (by omega)
  | true =>
    have K := plk_of hok
    have G := good_spots hok
    simp (maxSteps := 2000000) only [c_s_l1Cur_targets, seqTl, seqHd, hbx, hpa, hok, Bool.false_eq_true, Wp_some, Wp_none, Wp_ite, Wc_some, Wc_none, Wc_ite, Wp_thenRun, seqQ_normal, seqQ_exit, seqQ_ret, Wp_inBlock, blkQ_normal, blkQ_ret, blkQ_same, blkQ_exit, Wp_opThen, opQ_at, Wp_guardP, retQ_normal, retQ_ret, loopQ_normal, loopQ_exit, loopQ_ret, go_sem, entry, joinEsc, if_pos, reduceIte, Nat.reduceAdd, Nat.reduceLeDiff, Nat.reduceLT, Nat.reduceEqDiff]
    refine (wc_one 2 (P.curs h) (by omega) (by omega)).mono ?_
    rintro v m ⟨x5, y5, z5, rfl, hy50, hy51, rfl⟩
    have P5 := P.cur hl hy50 z5
    have hls5 : cellsAt (L.set q (curB av y5 z5)) b0 = some (encL ls) := by rw [cells_same (List.getElem?_set_ne (fun h => hbq h.symm))]; exact hlsL
    generalize L.set q (curB av y5 z5) = L5 at *
    cases x5 with
    | false =>
      simp (maxSteps := 2000000) only [Bool.false_eq_true, Wp_some, Wp_none, Wp_ite, Wc_some, Wc_none, Wc_ite, Wp_thenRun, seqQ_normal, seqQ_exit, seqQ_ret, Wp_inBlock, blkQ_normal, blkQ_ret, blkQ_same, blkQ_exit, Wp_opThen, opQ_at, Wp_guardP, retQ_normal, retQ_ret, loopQ_normal, loopQ_exit, loopQ_ret, go_sem, entry, joinEsc, if_pos, reduceIte, Nat.reduceAdd, Nat.reduceLeDiff, Nat.reduceLT, Nat.reduceEqDiff]
      exact r P5 hos4 (by omega)
    | true =>
      have hbx5 := cellsAt_of P5.box
      have hbl := get_lt P5.box
      have hu : AV.under (L5.length + 1) (slL b0 ls.length c) = true := by simp [AV.under]; omega
      simp (maxSteps := 2000000) only [fillParts, hbx5, hu, Bool.false_eq_true, if_true, Wp_some, Wp_none, Wp_ite, Wc_some, Wc_none, Wc_ite, Wp_thenRun, seqQ_normal, seqQ_exit, seqQ_ret, Wp_inBlock, blkQ_normal, blkQ_ret, blkQ_same, blkQ_exit, Wp_opThen, opQ_at, Wp_guardP, retQ_normal, retQ_ret, loopQ_normal, loopQ_exit, loopQ_ret, go_sem, entry, joinEsc, if_pos, reduceIte, Nat.reduceAdd, Nat.reduceLeDiff, Nat.reduceLT, Nat.reduceEqDiff]
      have hse : putL ls (spots ls) = ls := spots_self
      have hobl := get_lt P5.out
      refine (tg_loop2 (nb := L5.length) (nq := b0) (nc := c) (zz := spots ls) h hp K G (P5.more _) (by omega) (by rw [List.getElem?_append_right (Nat.le_refl _), Nat.sub_self]; rfl) (by rw [hse]; exact cells_mono hls5 _) (by omega) (by have := P5.obl; omega) (by omega) hbl hbq).mono ?_
      rintro _ _ ⟨rfl, L6, e6, nq', nc', zz', y6, z6, v7, v8, v12, v13, P6, hy6, hnb6, hnq6, d6, rfl⟩
      simp (maxSteps := 2000000) only [Wp_some, Wp_none, Wp_ite, Wc_some, Wc_none, Wc_ite, Wp_thenRun, seqQ_normal, seqQ_exit, seqQ_ret, Wp_inBlock, blkQ_normal, blkQ_ret, blkQ_same, blkQ_exit, Wp_opThen, opQ_at, Wp_guardP, retQ_normal, retQ_ret, loopQ_normal, loopQ_exit, loopQ_ret, go_sem, entry, joinEsc, if_pos, reduceIte, Nat.reduceAdd, Nat.reduceLeDiff, Nat.reduceLT, Nat.reduceEqDiff]
      refine (tg_loop3 P6 hn (hos hok) hnb6 hnq6 (by omega) d6).mono ?_
      rintro _ _ ⟨rfl, L7, os', v9, v14, hlen, P7, rfl⟩
      simp (maxSteps := 2000000) only [Wp_some, Wp_none, Wp_ite, Wc_some, Wc_none, Wc_ite, Wp_thenRun, seqQ_normal, seqQ_exit, seqQ_ret, Wp_inBlock, blkQ_normal, blkQ_ret, blkQ_same, blkQ_exit, Wp_opThen, opQ_at, Wp_guardP, retQ_normal, retQ_ret, loopQ_normal, loopQ_exit, loopQ_ret, go_sem, entry, joinEsc, if_pos, reduceIte, Nat.reduceAdd, Nat.reduceLeDiff, Nat.reduceLT, Nat.reduceEqDiff]
      rw [← hlen]
      exact r P7 (by omega) (by omega)

set_option maxHeartbeats 4000000 in
theorem wc_targets {q : Nat} {av : AV} {p : Int} (h : Cu H q av p) (hp : p ≤ 100000000) {b0 : Nat} {c : Option Nat} {x a b s : Int} {ls : List Ld} (hls : cellsAt H b0 = some (encL ls)) (hbq : b0 ≠ q) (hn : ls.length ≤ 100) : Wc (call T pr f_s_l1Cur_targets [.ptr (some (q, 0)), ptV x a b (slL b0 ls.length c) s] ⟨H, e⟩) (tgQ H e q av p) := by
  have hl := h.lt
  rw [call_wc t_s_l1Cur_targets]
  obtain ⟨R, hR⟩ : ∃ R, R = (seqTl (seqTl (seqTl c_s_l1Cur_targets))) := ⟨_, rfl⟩
  have hc : c_s_l1Cur_targets = (.seq (seqHd c_s_l1Cur_targets) (.seq (seqHd (seqTl c_s_l1Cur_targets)) (.seq (seqHd (seqTl (seqTl c_s_l1Cur_targets))) R))) := by rw [hR]; rfl
  have r := @tg_4 pr H e q av p h hp
  rw [← hR] at r
  show Wp (run T pr c_s_l1Cur_targets _) _
  rw [hc]
  obtain ⟨w, hw1, hw2⟩ := h.cells
  have hsame : H.set q (curB av p w) = H := set_self_at hw1
  have P0 : TG H q av (H ++ [.cells [.int .i64 x, .int .i64 a, .int .i64 b, slL b0 ls.length c, .int .i64 s] true, .cells [] true]) none [] (H.length + 1) (some 0) [.int .i64 x, .int .i64 a, .int .i64 b, slL b0 ls.length c, .int .i64 s] p w :=
    ⟨by rw [hsame]; exact ⟨_, rfl⟩, h.2.2, rfl, by rw [blkAt_new0]; rfl, by rw [blkAt_newk]; rfl, by omega, fun _ => rfl⟩
  simp (maxSteps := 2000000) only [a_s_l1Cur_targets, c_s_l1Cur_targets, seqTl, seqHd, fillParts, Wp_some, Wp_none, Wp_ite, Wc_some, Wc_none, Wc_ite, Wp_thenRun, seqQ_normal, seqQ_exit, seqQ_ret, Wp_inBlock, blkQ_normal, blkQ_ret, blkQ_same, blkQ_exit, Wp_opThen, opQ_at, Wp_guardP, retQ_normal, retQ_ret, loopQ_normal, loopQ_exit, loopQ_ret, go_sem, entry, joinEsc, if_pos, reduceIte, Nat.reduceAdd, Nat.reduceLeDiff, Nat.reduceLT, Nat.reduceEqDiff]
  refine Wp_loop (fun k st => ∃ (i : Nat) (os : List Int) (L : List Blk) (ob : Nat) (oc : Option Nat) (y z : Int) (w10 : AV), i + k = min ls.length 4 ∧ os.length = i ∧ TG H q av L none os ob oc [.int .i64 x, .int .i64 a, .int .i64 b, slL b0 ls.length c, .int .i64 s] y z ∧ y + (k : Int) * 2 ≤ p + 10 ∧
    st = ⟨[.ptr (some (q, 0)), ptV x a b (slL b0 ls.length c) s, .ptr (some (H.length, 0)), .slice none 0 0 none, slI ob i oc, .int .i64 i, .undef, .undef, .undef, .undef, w10, .undef, .undef, .undef, .undef, .undef], ⟨L, none⟩⟩) ?_ (min ls.length 4) _ ⟨0, [], _, H.length + 1, some 0, p, w, _, by omega, rfl, P0, by omega, rfl⟩
  rintro k _ ⟨i, os, L, ob, oc, y, z, w10, hik, hos, P, hyk, rfl⟩
  have hbx := cellsAt_of P.box
  by_cases hk : k = 0
  · by_cases hi4 : i < ls.length
    · have h4 : ¬ ((i : Int) < 4) := by omega
      simp (maxSteps := 2000000) only [w_s_l1Cur_targets_1, hbx, hi4, h4, decide_true, decide_false, Bool.false_eq_true, Wp_some, Wp_none, Wp_ite, Wc_some, Wc_none, Wc_ite, Wp_thenRun, seqQ_normal, seqQ_exit, seqQ_ret, Wp_inBlock, blkQ_normal, blkQ_ret, blkQ_same, blkQ_exit, Wp_opThen, opQ_at, Wp_guardP, retQ_normal, retQ_ret, loopQ_normal, loopQ_exit, loopQ_ret, go_sem, entry, joinEsc, if_pos, reduceIte, Nat.reduceAdd, Nat.reduceLeDiff, Nat.reduceLT, Nat.reduceEqDiff]
      rw [← hos]
      exact r P hls hbq hn (by omega) (fun hok => by have := (plk_of hok).n3; omega) (by omega)
    · simp (maxSteps := 2000000) only [w_s_l1Cur_targets_1, hbx, hi4, decide_true, decide_false, Bool.false_eq_true, Wp_some, Wp_none, Wp_ite, Wc_some, Wc_none, Wc_ite, Wp_thenRun, seqQ_normal, seqQ_exit, seqQ_ret, Wp_inBlock, blkQ_normal, blkQ_ret, blkQ_same, blkQ_exit, Wp_opThen, opQ_at, Wp_guardP, retQ_normal, retQ_ret, loopQ_normal, loopQ_exit, loopQ_ret, go_sem, entry, joinEsc, if_pos, reduceIte, Nat.reduceAdd, Nat.reduceLeDiff, Nat.reduceLT, Nat.reduceEqDiff]
      rw [← hos]
      exact r P hls hbq hn (by omega) (fun hok => by have := (plk_of hok).n3; omega) (by omega)
  · have hil : i < ls.length := by omega
    have hi4 : ((i : Int) < 4) := by omega
    have hw := wrap_succ (show i < 9223372036854775807 by omega)
    obtain ⟨u, hu, hu1⟩ : ∃ u, u = IntKind.i64.wrap ((if 0 < (if x < 12 then x else 12) then (if x < 12 then x else 12) else 0) + 1) ∧ u ≤ 1000000000000 := by
      refine ⟨_, rfl, ?_⟩
      have h1 : ∀ y : Int, 0 ≤ y → y ≤ 12 → IntKind.i64.wrap (y + 1) ≤ 1000000000000 := fun y h1 h2 => by
        rw [wrap64 (by omega) (by omega)]
        omega
      exact h1 _ (by split <;> omega) (by split <;> split <;> omega)
    have hu' := hu.symm
    simp (maxSteps := 2000000) only [w_s_l1Cur_targets_1, hbx, hil, hi4, leastZ, mostZ, hu', decide_true, Wp_some, Wp_none, Wp_ite, Wc_some, Wc_none, Wc_ite, Wp_thenRun, seqQ_normal, seqQ_exit, seqQ_ret, Wp_inBlock, blkQ_normal, blkQ_ret, blkQ_same, blkQ_exit, Wp_opThen, opQ_at, Wp_guardP, retQ_normal, retQ_ret, loopQ_normal, loopQ_exit, loopQ_ret, go_sem, entry, joinEsc, if_pos, reduceIte, Nat.reduceAdd, Nat.reduceLeDiff, Nat.reduceLT, Nat.reduceEqDiff]
    refine (wc_pick u (P.curs h) (by omega) hu1).mono ?_
    rintro v m ⟨x5, y5, z5, rfl, hx50, hx51, hy50, hy51, rfl⟩
    have P5 := P.cur hl hy50 z5
    generalize L.set q (curB av y5 z5) = L5 at *
    simp (maxSteps := 2000000) only [fillParts, Wp_some, Wp_none, Wp_ite, Wc_some, Wc_none, Wc_ite, Wp_thenRun, seqQ_normal, seqQ_exit, seqQ_ret, Wp_inBlock, blkQ_normal, blkQ_ret, blkQ_same, blkQ_exit, Wp_opThen, opQ_at, Wp_guardP, retQ_normal, retQ_ret, loopQ_normal, loopQ_exit, loopQ_ret, go_sem, entry, joinEsc, if_pos, reduceIte, Nat.reduceAdd, Nat.reduceLeDiff, Nat.reduceLT, Nat.reduceEqDiff]
    rw [← hos]
    refine wc_tg (v := x5) (P5.more _) (src_new _ 1 1 _ _ L5.length (by simp +contextual only [go_sem, entry, joinEsc, if_pos, reduceIte, Nat.reduceAdd, Nat.reduceLeDiff, Nat.reduceLT, Nat.reduceEqDiff]) rfl) (by omega) ?_
    intro L' P6 _ _
    have hll : (os ++ [x5]).length = os.length + 1 := by rw [List.length_append]; rfl
    rw [hll]
    rw [hos]
    simp (maxSteps := 2000000) only [hw, Wp_some, Wp_none, Wp_ite, Wc_some, Wc_none, Wc_ite, Wp_thenRun, seqQ_normal, seqQ_exit, seqQ_ret, Wp_inBlock, blkQ_normal, blkQ_ret, blkQ_same, blkQ_exit, Wp_opThen, opQ_at, Wp_guardP, retQ_normal, retQ_ret, loopQ_normal, loopQ_exit, loopQ_ret, go_sem, entry, joinEsc, if_pos, reduceIte, Nat.reduceAdd, Nat.reduceLeDiff, Nat.reduceLT, Nat.reduceEqDiff]
    simp only [List.length_append, List.length_cons, List.length_nil, Nat.zero_add] at P6
    exact ⟨k - 1, by omega, i + 1, os ++ [x5], _, _, none, y5, z5, _, by omega, by rw [hll, hos], P6, by omega, rfl⟩

end Go.Proofs.Ythkgpblohjpcdaa.Slim

/- Planks: the Draw functions of the law FnParties. -/
namespace Go.Proofs.Ythkgpblohjpcdaa.Slim

open Go

set_option linter.unusedSimpArgs false

set_option linter.unusedVariables false

variable {pr : Prims} {H : List Blk} {e : Option Nat}

theorem finish_partyT {G : List Blk} {j k n sz m : Nat} {c d : Option Nat} {cs ds : List AV} {w1 w2 : Bool} (x a b s : Int) (e0 e1 : Option Nat) (hc : clean H.length e1 = true) (hne : j ≠ k) (h1 : G[j]? = some (.cells cs w1)) (u1 : (cs.all fun c => c.under H.length) = true) (h2 : G[k]? = some (.cells ds w2)) (u2 : (ds.all fun c => c.under H.length) = true) :
    finish 2 H.length e0 (.tup [ptV x a b (slL (H.length + j) n c) s, .slice (some (H.length + k, 0)) sz m d]) ⟨H ++ G, e1⟩ = some (.tup [ptV x a b (slL H.length n c) s, .slice (some (H.length + 1, 0)) sz m d], ⟨H ++ [.cells cs w1, .cells ds w2], e0⟩) := by
  have hlt1 : ¬ H.length + j < H.length := by omega
  have hlt2 : ¬ H.length + k < H.length := by omega
  have hr : dedup (AV.roots H.length (.tup [ptV x a b (slL (H.length + j) n c) s, .slice (some (H.length + k, 0)) sz m d])) = [H.length + j, H.length + k] := by
    simp only [AV.roots, AV.roots.go, if_neg hlt1, if_neg hlt2, List.nil_append, List.cons_append, List.append_nil]
    simp [dedup, hne, Ne.symm hne]
  have hg1 : (H ++ G)[H.length + j]? = some (.cells cs w1) := by rw [List.getElem?_append_right (by omega), Nat.add_sub_cancel_left, h1]
  have hg2 : (H ++ G)[H.length + k]? = some (.cells ds w2) := by rw [List.getElem?_append_right (by omega), Nat.add_sub_cancel_left, h2]
  unfold finish
  simp only [hr]
  have h3 : ([H.length + j, H.length + k].all fun b => flatBlk H.length (H ++ G)[b]?) = true := by
    simp only [List.all_cons, List.all_nil, Bool.and_true, hg1, hg2, flatBlk, u1, u2]
  simp only [hc, h3, and_self, if_true]
  have hq : (H.length + j == H.length + k) = false := by simpa using hne
  simp [AV.rename, AV.rename.go, renum, hlt1, hlt2, hg1, hg2, List.idxOf_cons, hq]

theorem finish_partyP {G : List Blk} {j n : Nat} {c : Option Nat} {cs : List AV} {wr : Bool} (x a b s m1 m2 : Int) (e0 e1 : Option Nat) (hc : clean H.length e1 = true) (h1 : G[j]? = some (.cells cs wr)) (u1 : (cs.all fun c => c.under H.length) = true) :
    finish 2 H.length e0 (.tup [ptV x a b (slL (H.length + j) n c) s, .agg [.int .i64 m1, .int .i64 m2]]) ⟨H ++ G, e1⟩ = some (.tup [ptV x a b (slL H.length n c) s, .agg [.int .i64 m1, .int .i64 m2]], ⟨H ++ [.cells cs wr], e0⟩) := by
  have hlt1 : ¬ H.length + j < H.length := by omega
  have hr : dedup (AV.roots H.length (.tup [ptV x a b (slL (H.length + j) n c) s, .agg [.int .i64 m1, .int .i64 m2]])) = [H.length + j] := by
    simp only [AV.roots, AV.roots.go, if_neg hlt1, List.nil_append, List.cons_append, List.append_nil]
    simp [dedup]
  have hg : (H ++ G)[H.length + j]? = some (.cells cs wr) := by rw [List.getElem?_append_right (by omega), Nat.add_sub_cancel_left, h1]
  unfold finish
  simp only [hr]
  have h2 : ([H.length + j].all fun b => flatBlk H.length (H ++ G)[b]?) = true := by
    simp only [List.all_cons, List.all_nil, Bool.and_true, hg, flatBlk, u1]
  simp only [hc, h2, and_self, if_true]
  simp [AV.rename, AV.rename.go, renum, hlt1, hg]

theorem wc_DrawStepsTo {av : AV} (hc : CodeAt H av) : Wc (call T pr f_s_DrawStepsTo [av] ⟨H, e⟩) (fun v m => ∃ (ls : List Ld) (os : List Int) (c d : Option Nat) (x a b s : Int), v = .tup [ptV x a b (slL H.length ls.length c) s, slI (H.length + 1) os.length d] ∧ ls.length ≤ 6 ∧ os.length ≤ 5 ∧ m = ⟨H ++ [.cells (encL ls) true, .cells (encI os) true], e⟩) := by
  obtain ⟨p0, s0, n0, c0, rfl⟩ := hc.form
  rw [call_wc t_s_DrawStepsTo]
  simp (maxSteps := 2000000) only [a_s_DrawStepsTo, c_s_DrawStepsTo, fillParts, Nat.add_assoc, Wp_some, Wp_none, Wp_ite, Wc_some, Wc_none, Wc_ite, Wp_thenRun, seqQ_normal, seqQ_exit, seqQ_ret, Wp_inBlock, blkQ_normal, blkQ_ret, blkQ_same, blkQ_exit, Wp_opThen, opQ_at, Wp_guardP, retQ_normal, retQ_ret, loopQ_normal, loopQ_exit, loopQ_ret, go_sem, entry, joinEsc, if_pos, reduceIte, Nat.reduceAdd, Nat.reduceLeDiff, Nat.reduceLT, Nat.reduceEqDiff]
  refine (wc_party (Cu.new (k := 1) (G := [.cells [.int .i64 0, .int .i64 0, .int .i64 0, .slice none 0 0 none, .int .i64 0] true, curB _ 0 0]) rfl hc (Int.le_refl 0)) (by omega)).mono ?_
  rintro v m ⟨ls, c, x, a, b, s, y, z, rfl, hn, hy0, hy1, rfl⟩
  have hlt3 : (H.length + 2 < H.length + 4) := by omega
  simp (maxSteps := 2000000) only [fillParts, Nat.add_zero, Nat.add_assoc, under_slice, hlt3, Nat.reduceAdd, decide_true, if_true, Wp_some, Wp_none, Wp_ite, Wc_some, Wc_none, Wc_ite, Wp_thenRun, seqQ_normal, seqQ_exit, seqQ_ret, Wp_inBlock, blkQ_normal, blkQ_ret, blkQ_same, blkQ_exit, Wp_opThen, opQ_at, Wp_guardP, retQ_normal, retQ_ret, loopQ_normal, loopQ_exit, loopQ_ret, go_sem, entry, joinEsc, if_pos, reduceIte, Nat.reduceAdd, Nat.reduceLeDiff, Nat.reduceLT, Nat.reduceEqDiff]
  refine (wc_targets (Cu.new (H := H) (k := 1) (y := y) (z := z) rfl hc hy0) (by omega) (by rw [cellsAt_newk]; rfl) (by omega) (by omega)).mono ?_
  rintro v m ⟨os, d, y5, z5, rfl, hno, hy50, hy51, rfl⟩
  have hlt : ¬ (H.length + 2 < H.length + 1) := by omega
  have hf := fun B0 B1 B3 => finish_partyT (H := H) (G := [B0, B1, .cells (encL ls) true, B3, .cells (encI os) true]) (j := 2) (k := 4) (n := ls.length) (m := os.length) (sz := 1) (c := c) (d := d) x a b s e (minEsc none H.length) (by rw [clean_minEsc]; simp [clean]) (by omega) rfl (under_encL _ _) rfl (under_encI _ _)
  simp (maxSteps := 2000000) only [a_s_DrawStepsTo, fillParts, Nat.add_zero, Nat.add_assoc, under_slice, hlt, hlt3, hf, Nat.reduceAdd, decide_true, decide_false, Bool.false_eq_true, if_true, if_false, Wp_some, Wp_none, Wp_ite, Wc_some, Wc_none, Wc_ite, Wp_thenRun, seqQ_normal, seqQ_exit, seqQ_ret, Wp_inBlock, blkQ_normal, blkQ_ret, blkQ_same, blkQ_exit, Wp_opThen, opQ_at, Wp_guardP, retQ_normal, retQ_ret, loopQ_normal, loopQ_exit, loopQ_ret, go_sem, entry, joinEsc, if_pos, reduceIte, Nat.reduceAdd, Nat.reduceLeDiff, Nat.reduceLT, Nat.reduceEqDiff]
  exact ⟨ls, os, c, d, x, a, b, s, rfl, hn, hno, rfl⟩

theorem wc_DrawFirstWalkTo {av : AV} (hc : CodeAt H av) : Wc (call T pr f_s_DrawFirstWalkTo [av] ⟨H, e⟩) (fun v m => ∃ (ls : List Ld) (os : List Int) (c d : Option Nat) (x a b s : Int), v = .tup [ptV x a b (slL H.length ls.length c) s, slI (H.length + 1) os.length d] ∧ ls.length ≤ 6 ∧ os.length ≤ 5 ∧ m = ⟨H ++ [.cells (encL ls) true, .cells (encI os) true], e⟩) := by
  rw [call_wc t_s_DrawFirstWalkTo]
  simp (maxSteps := 2000000) only [a_s_DrawFirstWalkTo, c_s_DrawFirstWalkTo, fillParts, Nat.add_assoc, Wp_some, Wp_none, Wp_ite, Wc_some, Wc_none, Wc_ite, Wp_thenRun, seqQ_normal, seqQ_exit, seqQ_ret, Wp_inBlock, blkQ_normal, blkQ_ret, blkQ_same, blkQ_exit, Wp_opThen, opQ_at, Wp_guardP, retQ_normal, retQ_ret, loopQ_normal, loopQ_exit, loopQ_ret, go_sem, entry, joinEsc, if_pos, reduceIte, Nat.reduceAdd, Nat.reduceLeDiff, Nat.reduceLT, Nat.reduceEqDiff]
  refine (wc_DrawStepsTo (hc.more _)).mono ?_
  rintro v m ⟨ls, os, c, d, x, a, b, s, rfl, hn, hno, rfl⟩
  have hlt : ¬ (H.length + 1 < H.length + 1) := by omega
  have hf := fun B0 => finish_partyT (H := H) (G := [B0, .cells (encL ls) true, .cells (encI os) true]) (j := 1) (k := 2) (n := ls.length) (m := os.length) (sz := 1) (c := c) (d := d) x a b s e (minEsc none H.length) (by rw [clean_minEsc]; simp [clean]) (by omega) rfl (under_encL _ _) rfl (under_encI _ _)
  simp (maxSteps := 2000000) only [a_s_DrawFirstWalkTo, fillParts, Nat.add_zero, Nat.add_assoc, under_slice, hlt, hf, Nat.reduceAdd, decide_false, Bool.false_eq_true, if_false, Wp_some, Wp_none, Wp_ite, Wc_some, Wc_none, Wc_ite, Wp_thenRun, seqQ_normal, seqQ_exit, seqQ_ret, Wp_inBlock, blkQ_normal, blkQ_ret, blkQ_same, blkQ_exit, Wp_opThen, opQ_at, Wp_guardP, retQ_normal, retQ_ret, loopQ_normal, loopQ_exit, loopQ_ret, go_sem, entry, joinEsc, if_pos, reduceIte, Nat.reduceAdd, Nat.reduceLeDiff, Nat.reduceLT, Nat.reduceEqDiff]
  exact ⟨ls, os, c, d, x, a, b, s, rfl, hn, hno, rfl⟩

theorem wc_DrawMoveOne {av : AV} (hc : CodeAt H av) : Wc (call T pr f_s_DrawMoveOne [av] ⟨H, e⟩) (fun v m => ∃ (ls : List Ld) (c : Option Nat) (x a b s m1 m2 : Int), v = .tup [ptV x a b (slL H.length ls.length c) s, .agg [.int .i64 m1, .int .i64 m2]] ∧ ls.length ≤ 6 ∧ m = ⟨H ++ [.cells (encL ls) true], e⟩) := by
  obtain ⟨p0, s0, n0, c0, rfl⟩ := hc.form
  rw [call_wc t_s_DrawMoveOne]
  simp (maxSteps := 2000000) only [a_s_DrawMoveOne, c_s_DrawMoveOne, fillParts, Nat.add_assoc, Wp_some, Wp_none, Wp_ite, Wc_some, Wc_none, Wc_ite, Wp_thenRun, seqQ_normal, seqQ_exit, seqQ_ret, Wp_inBlock, blkQ_normal, blkQ_ret, blkQ_same, blkQ_exit, Wp_opThen, opQ_at, Wp_guardP, retQ_normal, retQ_ret, loopQ_normal, loopQ_exit, loopQ_ret, go_sem, entry, joinEsc, if_pos, reduceIte, Nat.reduceAdd, Nat.reduceLeDiff, Nat.reduceLT, Nat.reduceEqDiff]
  refine (wc_party (Cu.new (k := 2) (G := [.cells [.int .i64 0, .int .i64 0, .int .i64 0, .slice none 0 0 none, .int .i64 0] true, .cells [.int .i64 0, .int .i64 0] true, curB _ 0 0]) rfl hc (Int.le_refl 0)) (by omega)).mono ?_
  rintro v m ⟨ls, c, x, a, b, s, y, z, rfl, hn, hy0, hy1, rfl⟩
  have hlt3 : (H.length + 3 < H.length + 5) := by omega
  simp (maxSteps := 2000000) only [fillParts, Nat.add_zero, Nat.add_assoc, under_slice, hlt3, Nat.reduceAdd, decide_true, if_true, Wp_some, Wp_none, Wp_ite, Wc_some, Wc_none, Wc_ite, Wp_thenRun, seqQ_normal, seqQ_exit, seqQ_ret, Wp_inBlock, blkQ_normal, blkQ_ret, blkQ_same, blkQ_exit, Wp_opThen, opQ_at, Wp_guardP, retQ_normal, retQ_ret, loopQ_normal, loopQ_exit, loopQ_ret, go_sem, entry, joinEsc, if_pos, reduceIte, Nat.reduceAdd, Nat.reduceLeDiff, Nat.reduceLT, Nat.reduceEqDiff]
  refine (wc_moveOf (Cu.new (H := H) (k := 2) (y := y) (z := z) rfl hc hy0) (by omega) (by rw [cellsAt_newk]; rfl) (by omega) (by omega)).mono ?_
  rintro v m ⟨m1, m2, y5, z5, rfl, hy50, hy51, rfl⟩
  have hlt : ¬ (H.length + 3 < H.length + 1) := by omega
  have hf := fun B0 B1 B2 B3 => finish_partyP (H := H) (G := [B0, B1, B2, .cells (encL ls) true, B3]) (j := 3) (n := ls.length) (c := c) x a b s m1 m2 e (minEsc none H.length) (by rw [clean_minEsc]; simp [clean]) rfl (under_encL _ _)
  simp (maxSteps := 2000000) only [a_s_DrawMoveOne, fillParts, Nat.add_zero, Nat.add_assoc, under_slice, hlt, hlt3, hf, Nat.reduceAdd, decide_true, decide_false, Bool.false_eq_true, if_true, if_false, Wp_some, Wp_none, Wp_ite, Wc_some, Wc_none, Wc_ite, Wp_thenRun, seqQ_normal, seqQ_exit, seqQ_ret, Wp_inBlock, blkQ_normal, blkQ_ret, blkQ_same, blkQ_exit, Wp_opThen, opQ_at, Wp_guardP, retQ_normal, retQ_ret, loopQ_normal, loopQ_exit, loopQ_ret, go_sem, entry, joinEsc, if_pos, reduceIte, Nat.reduceAdd, Nat.reduceLeDiff, Nat.reduceLT, Nat.reduceEqDiff]
  exact ⟨ls, c, x, a, b, s, m1, m2, rfl, hn, rfl⟩

end Go.Proofs.Ythkgpblohjpcdaa.Slim

/- Planks: a walk, drawn. -/
namespace Go.Proofs.Ythkgpblohjpcdaa.Slim

open Go

set_option linter.unusedSimpArgs false

set_option linter.unusedVariables false

variable {pr : Prims} {H : List Blk} {e : Option Nat}

structure WK (H : List Blk) (av : AV) (L : List Blk) (e : Option Nat) (ls cur ws : List Ld) (x a b s : Int) (c nc oc : Option Nat) (nq ob : Nat) (y z : Int) : Prop where
  gr : Grown H L
  cu : ∃ w, L[H.length + 1]? = some (curB av y w)
  y0 : 0 ≤ y
  cl : clean H.length e = true
  res : L[H.length]? = some (.cells [.int .i64 0, .int .i64 0, .int .i64 0, .slice none 0 0 none, .int .i64 0] true)
  pc : L[H.length + 2]? = some (.cells (encL ls) true)
  pbx : L[H.length + 4]? = some (.cells [.int .i64 x, .int .i64 a, .int .i64 b, slL (H.length + 2) ls.length c, .int .i64 s] true)
  nbx : L[H.length + 5]? = some (.cells [.int .i64 x, .int .i64 a, .int .i64 b, slL nq cur.length nc, .int .i64 s] true)
  np : cellsAt L nq = some (encL cur)
  cn : cur.length = ls.length
  out : L[ob]? = some (.cells (encL ws) true)
  cap : oc = some 0 → ws.length = 0
  nb : H.length + 1 < nq
  n5 : nq ≠ H.length + 5
  ob1 : H.length + 2 < ob
  ob4 : ob ≠ H.length + 4
  ob5 : ob ≠ H.length + 5
  obq : ob ≠ nq

variable {av : AV} {L : List Blk} {ls cur ws : List Ld} {x a b s y z : Int} {c nc oc : Option Nat} {nq ob : Nat}

theorem WK.more (P : WK H av L e ls cur ws x a b s c nc oc nq ob y z) (X : List Blk) : WK H av (L ++ X) e ls cur ws x a b s c nc oc nq ob y z :=
  ⟨P.gr.more _, by obtain ⟨w, h⟩ := P.cu; exact ⟨w, get_more h _⟩, P.y0, P.cl, get_more P.res _, get_more P.pc _, get_more P.pbx _, get_more P.nbx _, cells_mono P.np _, P.cn, get_more P.out _, P.cap, P.nb, P.n5, P.ob1, P.ob4, P.ob5, P.obq⟩

theorem WK.cur' (P : WK H av L e ls cur ws x a b s c nc oc nq ob y z) {y' : Int} (hy : 0 ≤ y') (z' : Int) : WK H av (L.set (H.length + 1) (curB av y' z')) e ls cur ws x a b s c nc oc nq ob y' z' := by
  have h1 := P.nb
  have h2 := P.ob1
  obtain ⟨w, hw⟩ := P.cu
  refine ⟨P.gr.put (by omega) _, ⟨z', List.getElem?_set_self (get_lt hw)⟩, hy, P.cl, ?_, ?_, ?_, ?_, ?_, P.cn, ?_, P.cap, P.nb, P.n5, P.ob1, P.ob4, P.ob5, P.obq⟩
  · rw [List.getElem?_set_ne (by omega)]
    exact P.res
  · rw [List.getElem?_set_ne (by omega)]
    exact P.pc
  · rw [List.getElem?_set_ne (by omega)]
    exact P.pbx
  · rw [List.getElem?_set_ne (by omega)]
    exact P.nbx
  · rw [cells_same (List.getElem?_set_ne (by omega))]
    exact P.np
  · rw [List.getElem?_set_ne (by omega)]
    exact P.out

theorem WK.curs (P : WK H av L e ls cur ws x a b s c nc oc nq ob y z) (hc : CodeAt H av) : Cu L (H.length + 1) av y := by
  obtain ⟨w, hw⟩ := P.cu
  obtain ⟨G, hG⟩ := P.gr
  exact ⟨⟨w, hw⟩, by rw [hG]; exact hc.more G, P.y0⟩

theorem wc_wk {src : AV} {m : Ld} {Q : AV → Mem → Prop} (P : WK H av L e ls cur ws x a b s c nc oc nq ob y z) (hs : srcCells false L src = some (1, [.int .i64 m.1, .int .i64 m.2])) (hn : ws.length ≤ 100000) (hQ : ∀ L' : List Blk, WK H av L' e ls cur (ws ++ [m]) x a b s c nc none nq L.length y z → L'.length = L.length + 1 → (∀ i, i ≠ ob → i < L.length → L'[i]? = L[i]?) → Q (slL L.length (ws ++ [m]).length none) ⟨L', e⟩) : Wc (appendV L e false 2 16 (slL ob ws.length oc) src) Q := by
  refine wc_ap (n := ws.length) (k := 1) (new := [AV.int .i64 m.1, AV.int .i64 m.2]) P.out hs (by rw [encL_length]) rfl (by unfold maxBytes; omega) P.cap ?_
  intro L' g1 g2 g3 g4
  have hll : (ws ++ [m]).length = ws.length + 1 := by rw [List.length_append]; rfl
  rw [← hll]
  have h1 := P.nb
  have h2 := P.ob1
  have h4 := P.ob4
  have h5 := P.ob5
  have hq := P.obq
  have hbl := get_lt P.nbx
  have hnl := cellsAt_lt P.np
  obtain ⟨w, hw⟩ := P.cu
  refine hQ L' ⟨g4 _ P.gr (by omega), ⟨w, (g2 _ (by omega) (by omega)).trans hw⟩, P.y0, P.cl, (g2 _ (by omega) (by omega)).trans P.res, (g2 _ (by omega) (by omega)).trans P.pc, (g2 _ (by omega) (by omega)).trans P.pbx, (g2 _ (by omega) (by omega)).trans P.nbx, ?_, P.cn, ?_, (fun h => by cases h), h1, P.n5, by omega, by omega, by omega, by omega⟩ g1 g2
  · rw [cells_same (g2 _ (by omega) hnl)]
    exact P.np
  · rw [encL_append]
    exact g3

theorem WK.move {cur' : List Ld} (P : WK H av L e ls cur ws x a b s c nc oc nq ob y z) {k : Nat} (hk : L[k]? = some (.cells (encL cur') true)) (hl : cur'.length = ls.length) (hk5 : H.length + 5 < k) (hko : ob ≠ k) {e' : Option Nat} (hc : clean H.length e' = true) : WK H av (L.set (H.length + 5) (.cells [.int .i64 x, .int .i64 a, .int .i64 b, slL k cur'.length none, .int .i64 s] true)) e' ls cur' ws x a b s c none oc k ob y z := by
  have h5 := P.ob5
  obtain ⟨w, hw⟩ := P.cu
  refine ⟨P.gr.put (by omega) _, ⟨w, ?_⟩, P.y0, hc, ?_, ?_, ?_, ?_, ?_, hl, ?_, P.cap, by omega, by omega, P.ob1, P.ob4, P.ob5, hko⟩
  · rw [List.getElem?_set_ne (by omega)]
    exact hw
  · rw [List.getElem?_set_ne (by omega)]
    exact P.res
  · rw [List.getElem?_set_ne (by omega)]
    exact P.pc
  · rw [List.getElem?_set_ne (by omega)]
    exact P.pbx
  · exact List.getElem?_set_self (get_lt P.nbx)
  · exact cellsAt_of (by rw [List.getElem?_set_ne (by omega)]; exact hk)
  · rw [List.getElem?_set_ne (by omega)]
    exact P.out

set_option maxHeartbeats 4000000 in
theorem wk_loop (hc : CodeAt H av) {e' : Option Nat} {n : Nat} {w0 w2 w8 w9 w10 : AV} (hn6 : ls.length ≤ 6) (P : WK H av L e' ls cur ws x a b s c nc oc nq ob y z) (hn : ws.length + n ≤ 61) (hy : y ≤ 1000) :
    Wp (run T pr (.loop w_s_DrawIsWalkOn_1) ⟨[w0, .ptr (some (H.length, 0)), w2, .ptr (some (H.length + 1, 0)), .ptr (some (H.length + 4, 0)), slL ob ws.length oc, .ptr (some (H.length + 5, 0)), .int .i64 n, w8, w9, w10], ⟨L, e'⟩⟩)
      (fun ex st => ex = .exit 0 ∧ ∃ (L' : List Blk) (e1 : Option Nat) (cur' ws' : List Ld) (nc' oc' : Option Nat) (nq' ob' : Nat) (y' z' : Int) (v7 v8 v9 v10 : AV), WK H av L' e1 ls cur' ws' x a b s c nc' oc' nq' ob' y' z' ∧ ws'.length ≤ 61 ∧ st = ⟨[w0, .ptr (some (H.length, 0)), w2, .ptr (some (H.length + 1, 0)), .ptr (some (H.length + 4, 0)), slL ob' ws'.length oc', .ptr (some (H.length + 5, 0)), v7, v8, v9, v10], ⟨L', e1⟩⟩) := by
  refine Wp_loop (fun k st => ∃ (L' : List Blk) (e1 : Option Nat) (cur' ws' : List Ld) (nc' oc' : Option Nat) (nq' ob' : Nat) (y' z' : Int) (v8 v9 v10 : AV), WK H av L' e1 ls cur' ws' x a b s c nc' oc' nq' ob' y' z' ∧ ws'.length + k ≤ 61 ∧ y' + (k : Int) * 12 ≤ 2000 ∧ st = ⟨[w0, .ptr (some (H.length, 0)), w2, .ptr (some (H.length + 1, 0)), .ptr (some (H.length + 4, 0)), slL ob' ws'.length oc', .ptr (some (H.length + 5, 0)), .int .i64 k, v8, v9, v10], ⟨L', e1⟩⟩) ?_ n _ ⟨L, e', cur, ws, nc, oc, nq, ob, y, z, _, _, _, P, hn, by omega, rfl⟩
  rintro k _ ⟨L, e', cur, ws, nc, oc, nq, ob, y, z, v8, v9, v10, P, hn, hyk, rfl⟩
  by_cases hk : k = 0
  · subst hk
    have hd : ¬ ((0 : Int) < ((0 : Nat) : Int)) := by omega
    simp (maxSteps := 2000000) only [w_s_DrawIsWalkOn_1, gt_iff_lt, hd, decide_false, Wp_some, Wp_none, Wp_ite, Wc_some, Wc_none, Wc_ite, Wp_thenRun, seqQ_normal, seqQ_exit, seqQ_ret, Wp_inBlock, blkQ_normal, blkQ_ret, blkQ_same, blkQ_exit, Wp_opThen, opQ_at, Wp_guardP, retQ_normal, retQ_ret, loopQ_normal, loopQ_exit, loopQ_ret, go_sem, entry, joinEsc, if_pos, reduceIte, Nat.reduceAdd, Nat.reduceLeDiff, Nat.reduceLT, Nat.reduceEqDiff]
    exact ⟨_, _, cur, ws, nc, oc, nq, ob, y, z, _, _, _, _, P, by omega, rfl⟩
  · have hd : ((0 : Int) < (k : Int)) := by omega
    have hwk : IntKind.i64.wrap ((k : Int) - 1) = ((k - 1 : Nat) : Int) := by
      rw [show ((k : Int) - 1) = ((k - 1 : Nat) : Int) by omega]; exact wrap64 (by omega) (by omega)
    have hbx := cellsAt_of P.nbx
    have hcn := P.cn
    have hnb := P.nb
    simp (maxSteps := 2000000) only [w_s_DrawIsWalkOn_1, gt_iff_lt, hd, hbx, decide_true, Wp_some, Wp_none, Wp_ite, Wc_some, Wc_none, Wc_ite, Wp_thenRun, seqQ_normal, seqQ_exit, seqQ_ret, Wp_inBlock, blkQ_normal, blkQ_ret, blkQ_same, blkQ_exit, Wp_opThen, opQ_at, Wp_guardP, retQ_normal, retQ_ret, loopQ_normal, loopQ_exit, loopQ_ret, go_sem, entry, joinEsc, if_pos, reduceIte, Nat.reduceAdd, Nat.reduceLeDiff, Nat.reduceLT, Nat.reduceEqDiff]
    refine (wc_moveOf (P.curs hc) (by omega) P.np (by omega) (by omega)).mono ?_
    rintro v m ⟨m1, m2, y6, z6, rfl, hy60, hy61, rfl⟩
    have P6 := P.cur' hy60 z6
    generalize L.set (H.length + 1) (curB av y6 z6) = L6 at *
    have hob6 := get_lt P6.out
    have hnb6 := get_lt P6.nbx
    simp (maxSteps := 2000000) only [fillParts, Wp_some, Wp_none, Wp_ite, Wc_some, Wc_none, Wc_ite, Wp_thenRun, seqQ_normal, seqQ_exit, seqQ_ret, Wp_inBlock, blkQ_normal, blkQ_ret, blkQ_same, blkQ_exit, Wp_opThen, opQ_at, Wp_guardP, retQ_normal, retQ_ret, loopQ_normal, loopQ_exit, loopQ_ret, go_sem, entry, joinEsc, if_pos, reduceIte, Nat.reduceAdd, Nat.reduceLeDiff, Nat.reduceLT, Nat.reduceEqDiff]
    refine wc_wk (m := (m1, m2)) (P6.more _) (src_new _ 1 2 _ _ (L6.length + 1) (by simp +contextual only [go_sem, entry, joinEsc, if_pos, reduceIte, Nat.reduceAdd, Nat.reduceLeDiff, Nat.reduceLT, Nat.reduceEqDiff]) rfl) (by omega) ?_
    intro L7 P7 g1 g2
    have hll : (ws ++ [(m1, m2)]).length = ws.length + 1 := by rw [List.length_append]; rfl
    have hmv7 : L7[L6.length]? = some (.cells [.int .i64 m1, .int .i64 m2] true) := by
      rw [g2 _ (by omega) (by rw [List.length_append]; simp), List.getElem?_append_right (Nat.le_refl _), Nat.sub_self]
      rfl
    simp only [List.length_append, List.length_cons, List.length_nil, Nat.zero_add] at g1
    have hmv70 := cellsAt_of hmv7
    have hbx7 := cellsAt_of P7.nbx
    have hpa := e_s_l11Party (pr := pr) (e := e') (c := nc) P7.np (show cur.length ≤ 9223372036854775806 by omega) x a b s
    rw [hll]
    simp only [List.length_append, List.length_cons, List.length_nil, Nat.zero_add] at P7
    cases hok : partyOk x a b cur s with
    | false =>
      simp (maxSteps := 2000000) only [hbx7, hpa, hok, hwk, Bool.false_eq_true, Wp_some, Wp_none, Wp_ite, Wc_some, Wc_none, Wc_ite, Wp_thenRun, seqQ_normal, seqQ_exit, seqQ_ret, Wp_inBlock, blkQ_normal, blkQ_ret, blkQ_same, blkQ_exit, Wp_opThen, opQ_at, Wp_guardP, retQ_normal, retQ_ret, loopQ_normal, loopQ_exit, loopQ_ret, go_sem, entry, joinEsc, if_pos, reduceIte, Nat.reduceAdd, Nat.reduceLeDiff, Nat.reduceLT, Nat.reduceEqDiff]
      rw [← hll]
      exact ⟨k - 1, by omega, _, _, cur, ws ++ [(m1, m2)], nc, none, nq, _, y6, z6, _, _, _, P7, by omega, by omega, rfl⟩
    | true =>
      have hsf := e_s_l11Safe (pr := pr) (e := e') (c := nc) P7.np (plk_of hok).n3 x a b s m1 m2
      cases hsafe : safeMv x a b cur s m1 m2 with
      | false =>
        simp (maxSteps := 2000000) only [hbx7, hpa, hok, hmv70, hsf, hsafe, hwk, Bool.false_eq_true, Wp_some, Wp_none, Wp_ite, Wc_some, Wc_none, Wc_ite, Wp_thenRun, seqQ_normal, seqQ_exit, seqQ_ret, Wp_inBlock, blkQ_normal, blkQ_ret, blkQ_same, blkQ_exit, Wp_opThen, opQ_at, Wp_guardP, retQ_normal, retQ_ret, loopQ_normal, loopQ_exit, loopQ_ret, go_sem, entry, joinEsc, if_pos, reduceIte, Nat.reduceAdd, Nat.reduceLeDiff, Nat.reduceLT, Nat.reduceEqDiff]
        rw [← hll]
        exact ⟨k - 1, by omega, _, _, cur, ws ++ [(m1, m2)], nc, none, nq, _, y6, z6, _, _, _, P7, by omega, by omega, rfl⟩
      | true =>
        obtain ⟨r1, r2⟩ := safe_range hsafe
        obtain ⟨j, rfl⟩ : ∃ j : Nat, m1 = j := ⟨m1.toNat, by omega⟩
        rw [Int.toNat_natCast] at r2
        have hmv := e_s_l11Moved (pr := pr) (H := L7) (e := e') (c := nc) P7.np (plk_of hok).n3 x a b s m2 r2
        have hlt : ¬ (L7.length < H.length + 5 + 1) := by omega
        have hnbm := get_more P7.nbx
        simp (maxSteps := 2000000) only [fillParts, hbx7, hpa, hok, hmv70, hsf, hsafe, hnbm, hmv, hwk, under_slice, hlt, decide_false, Bool.false_eq_true, if_false, Wp_some, Wp_none, Wp_ite, Wc_some, Wc_none, Wc_ite, Wp_thenRun, seqQ_normal, seqQ_exit, seqQ_ret, Wp_inBlock, blkQ_normal, blkQ_ret, blkQ_same, blkQ_exit, Wp_opThen, opQ_at, Wp_guardP, retQ_normal, retQ_ret, loopQ_normal, loopQ_exit, loopQ_ret, go_sem, entry, joinEsc, if_pos, reduceIte, Nat.reduceAdd, Nat.reduceLeDiff, Nat.reduceLT, Nat.reduceEqDiff]
        have hml : (movd cur j m2).length = cur.length := movd_length _ _ _
        have P8 := (P7.more [.cells (encL (movd cur j m2)) true]).move (k := L7.length) (cur' := movd cur j m2) (e' := minEsc e' (H.length + 5)) (by rw [List.getElem?_append_right (Nat.le_refl _), Nat.sub_self]; rfl) (by omega) (by omega) (by omega) (by rw [clean_minEsc, P7.cl]; simp)
        rw [hml] at P8
        rw [← hll]
        exact ⟨k - 1, by omega, _, _, movd cur j m2, ws ++ [((j : Int), m2)], none, none, _, _, y6, z6, _, _, _, P8, by omega, by omega, rfl⟩

set_option maxHeartbeats 4000000 in
theorem wc_DrawIsWalkOn (hc : CodeAt H av) : Wc (call T pr f_s_DrawIsWalkOn [av] ⟨H, e⟩) (fun v m => ∃ (ls ws : List Ld) (c d : Option Nat) (x a b s : Int), v = .tup [ptV x a b (slL H.length ls.length c) s, slL (H.length + 1) ws.length d] ∧ ls.length ≤ 6 ∧ ws.length ≤ 61 ∧ m = ⟨H ++ [.cells (encL ls) true, .cells (encL ws) true], e⟩) := by
  have hc0 := hc
  obtain ⟨p0, s0, n0, c0, rfl⟩ := hc.form
  rw [call_wc t_s_DrawIsWalkOn]
  obtain ⟨R, hR⟩ : ∃ R, R = (seqTl (seqTl (seqTl (seqTl (seqTl c_s_DrawIsWalkOn))))) := ⟨_, rfl⟩
  have hcut : c_s_DrawIsWalkOn = (.seq (seqHd c_s_DrawIsWalkOn) (.seq (seqHd (seqTl c_s_DrawIsWalkOn)) (.seq (seqHd (seqTl (seqTl c_s_DrawIsWalkOn))) (.seq (seqHd (seqTl (seqTl (seqTl c_s_DrawIsWalkOn)))) (.seq (seqHd (seqTl (seqTl (seqTl (seqTl c_s_DrawIsWalkOn))))) R))))) := by rw [hR]; rfl
  show Wp (run T pr c_s_DrawIsWalkOn _) _
  rw [hcut]
  simp (maxSteps := 2000000) only [a_s_DrawIsWalkOn, c_s_DrawIsWalkOn, seqTl, seqHd, fillParts, Nat.add_assoc, Wp_some, Wp_none, Wp_ite, Wc_some, Wc_none, Wc_ite, Wp_thenRun, seqQ_normal, seqQ_exit, seqQ_ret, Wp_inBlock, blkQ_normal, blkQ_ret, blkQ_same, blkQ_exit, Wp_opThen, opQ_at, Wp_guardP, retQ_normal, retQ_ret, loopQ_normal, loopQ_exit, loopQ_ret, go_sem, entry, joinEsc, if_pos, reduceIte, Nat.reduceAdd, Nat.reduceLeDiff, Nat.reduceLT, Nat.reduceEqDiff]
  refine (wc_party (Cu.new (k := 1) (G := [.cells [.int .i64 0, .int .i64 0, .int .i64 0, .slice none 0 0 none, .int .i64 0] true, curB _ 0 0]) rfl hc (Int.le_refl 0)) (by omega)).mono ?_
  rintro v m ⟨ls, c, x, a, b, s, y, z, rfl, hn, hy0, hy1, rfl⟩
  have hlt3 : (H.length + 2 < H.length + 5) := by omega
  have hlt4 : (H.length + 2 < H.length + 6) := by omega
  simp (maxSteps := 2000000) only [fillParts, Nat.add_zero, Nat.add_assoc, under_slice, hlt3, hlt4, Nat.reduceAdd, decide_true, if_true, Wp_some, Wp_none, Wp_ite, Wc_some, Wc_none, Wc_ite, Wp_thenRun, seqQ_normal, seqQ_exit, seqQ_ret, Wp_inBlock, blkQ_normal, blkQ_ret, blkQ_same, blkQ_exit, Wp_opThen, opQ_at, Wp_guardP, retQ_normal, retQ_ret, loopQ_normal, loopQ_exit, loopQ_ret, go_sem, entry, joinEsc, if_pos, reduceIte, Nat.reduceAdd, Nat.reduceLeDiff, Nat.reduceLT, Nat.reduceEqDiff]
  refine (amongZ (n := 6) [3, 5, 1, 0, 8, 61] (Cu.new (H := H) (k := 1) (y := y) (z := z) rfl hc hy0) (by omega) (by simp +contextual only [go_sem, entry, joinEsc, if_pos, reduceIte, Nat.reduceAdd, Nat.reduceLeDiff, Nat.reduceLT, Nat.reduceEqDiff]) (by omega) rfl (by omega) (by omega)).mono ?_
  rintro v m ⟨x5, y5, z5, rfl, hx5, hy50, hy51, rfl⟩
  have hx5' : 0 ≤ x5 ∧ x5 ≤ 61 := by
    simp at hx5
    omega
  obtain ⟨n, rfl⟩ : ∃ n : Nat, x5 = (n : Int) := ⟨x5.toNat, by omega⟩
  simp (maxSteps := 2000000) only [fillParts, Nat.add_zero, Nat.add_assoc, Nat.reduceAdd, Wp_some, Wp_none, Wp_ite, Wc_some, Wc_none, Wc_ite, Wp_thenRun, seqQ_normal, seqQ_exit, seqQ_ret, Wp_inBlock, blkQ_normal, blkQ_ret, blkQ_same, blkQ_exit, Wp_opThen, opQ_at, Wp_guardP, retQ_normal, retQ_ret, loopQ_normal, loopQ_exit, loopQ_ret, go_sem, entry, joinEsc, if_pos, reduceIte, Nat.reduceAdd, Nat.reduceLeDiff, Nat.reduceLT, Nat.reduceEqDiff]
  refine (wk_loop (e' := none) (ls := ls) (cur := ls) (ws := []) (nq := H.length + 2) (ob := H.length + 3) (nc := c) (oc := some 0) (c := c) (x := x) (a := a) (b := b) (s := s) (y := y5) (z := z5) hc0 hn ⟨⟨_, rfl⟩, ⟨z5, by rw [blkAt_newk]; rfl⟩, hy50, rfl, by rw [blkAt_new0]; rfl, by rw [blkAt_newk]; rfl, by rw [blkAt_newk]; rfl, by rw [blkAt_newk]; rfl, by rw [cellsAt_newk]; rfl, rfl, by rw [blkAt_newk]; rfl, fun _ => rfl, by omega, by omega, by omega, by omega, by omega, by omega⟩ (by simp; omega) (by omega)).mono ?_
  rintro _ _ ⟨rfl, L', e1, cur', ws', nc', oc', nq', ob', y', z', v7, v8, v9, v10, P, hw61, rfl⟩
  rw [hR]
  have hbx := cellsAt_of P.pbx
  have hob := P.ob1
  have hob4 := P.ob4
  have hres := P.res
  have hlt : ¬ (H.length + 2 < H.length + 1) := by omega
  obtain ⟨G, hG⟩ := P.gr
  subst hG
  have hpc := P.pc
  have hout := P.out
  obtain ⟨k, rfl⟩ : ∃ k, ob' = H.length + k := ⟨ob' - H.length, by omega⟩
  rw [List.getElem?_append_right (by omega), Nat.add_sub_cancel_left] at hpc hout
  cases G with
  | nil => simp at hpc
  | cons B0 G =>
    have hpc' : ∀ X : Blk, (X :: G)[2]? = some (.cells (encL ls) true) := fun X => hpc
    have hout' : ∀ X : Blk, (X :: G)[k]? = some (.cells (encL ws') true) := by
      intro X
      obtain ⟨k', rfl⟩ : ∃ k', k = k' + 1 := ⟨k - 1, by omega⟩
      exact hout
    have hcl : clean H.length (minEsc e1 H.length) = true := by rw [clean_minEsc, P.cl]; simp
    have hf := fun X => finish_partyT (H := H) (G := X :: G) (j := 2) (k := k) (n := ls.length) (m := ws'.length) (sz := 2) (c := c) (d := oc') x a b s e (minEsc e1 H.length) hcl (by omega) (hpc' X) (under_encL _ _) (hout' X) (under_encL _ _)
    simp (maxSteps := 2000000) only [a_s_DrawIsWalkOn, c_s_DrawIsWalkOn, seqTl, seqHd, fillParts, hbx, hres, under_slice, hlt, hf, set_new0, List.set_cons_zero, decide_false, Bool.false_eq_true, if_false, Wp_some, Wp_none, Wp_ite, Wc_some, Wc_none, Wc_ite, Wp_thenRun, seqQ_normal, seqQ_exit, seqQ_ret, Wp_inBlock, blkQ_normal, blkQ_ret, blkQ_same, blkQ_exit, Wp_opThen, opQ_at, Wp_guardP, retQ_normal, retQ_ret, loopQ_normal, loopQ_exit, loopQ_ret, go_sem, entry, joinEsc, if_pos, reduceIte, Nat.reduceAdd, Nat.reduceLeDiff, Nat.reduceLT, Nat.reduceEqDiff]
    exact ⟨ls, ws', c, oc', x, a, b, s, rfl, hn, hw61, rfl⟩

theorem wc_DrawWalkTo (hc : CodeAt H av) : Wc (call T pr f_s_DrawWalkTo [av] ⟨H, e⟩) (fun v m => ∃ (ls ws : List Ld) (c d : Option Nat) (x a b s : Int), v = .tup [ptV x a b (slL H.length ls.length c) s, slL (H.length + 1) ws.length d] ∧ ls.length ≤ 6 ∧ ws.length ≤ 61 ∧ m = ⟨H ++ [.cells (encL ls) true, .cells (encL ws) true], e⟩) := by
  rw [call_wc t_s_DrawWalkTo]
  simp (maxSteps := 2000000) only [a_s_DrawWalkTo, c_s_DrawWalkTo, fillParts, Nat.add_assoc, Wp_some, Wp_none, Wp_ite, Wc_some, Wc_none, Wc_ite, Wp_thenRun, seqQ_normal, seqQ_exit, seqQ_ret, Wp_inBlock, blkQ_normal, blkQ_ret, blkQ_same, blkQ_exit, Wp_opThen, opQ_at, Wp_guardP, retQ_normal, retQ_ret, loopQ_normal, loopQ_exit, loopQ_ret, go_sem, entry, joinEsc, if_pos, reduceIte, Nat.reduceAdd, Nat.reduceLeDiff, Nat.reduceLT, Nat.reduceEqDiff]
  refine (wc_DrawIsWalkOn (hc.more _)).mono ?_
  rintro v m ⟨ls, ws, c, d, x, a, b, s, rfl, hn, hno, rfl⟩
  have hlt : ¬ (H.length + 1 < H.length + 1) := by omega
  have hf := fun B0 => finish_partyT (H := H) (G := [B0, .cells (encL ls) true, .cells (encL ws) true]) (j := 1) (k := 2) (n := ls.length) (m := ws.length) (sz := 2) (c := c) (d := d) x a b s e (minEsc none H.length) (by rw [clean_minEsc]; simp [clean]) (by omega) rfl (under_encL _ _) rfl (under_encL _ _)
  simp (maxSteps := 2000000) only [a_s_DrawWalkTo, fillParts, Nat.add_zero, Nat.add_assoc, under_slice, hlt, hf, Nat.reduceAdd, decide_false, Bool.false_eq_true, if_false, Wp_some, Wp_none, Wp_ite, Wc_some, Wc_none, Wc_ite, Wp_thenRun, seqQ_normal, seqQ_exit, seqQ_ret, Wp_inBlock, blkQ_normal, blkQ_ret, blkQ_same, blkQ_exit, Wp_opThen, opQ_at, Wp_guardP, retQ_normal, retQ_ret, loopQ_normal, loopQ_exit, loopQ_ret, go_sem, entry, joinEsc, if_pos, reduceIte, Nat.reduceAdd, Nat.reduceLeDiff, Nat.reduceLT, Nat.reduceEqDiff]
  exact ⟨ls, ws, c, d, x, a, b, s, rfl, hn, hno, rfl⟩

end Go.Proofs.Ythkgpblohjpcdaa.Slim

/- Planks: what the law FnParties asks, plainly. -/
namespace Go.Proofs.Ythkgpblohjpcdaa.Slim

open Go

set_option linter.unusedSimpArgs false

set_option linter.unusedVariables false

theorem putL_snd : ∀ (ls : List Ld) (z : List Int) (l : Ld), l ∈ putL ls z → ∃ l' ∈ ls, l.2 = l'.2
  | [], _, _, h => by cases h
  | l' :: ls, z, l, h => by
    rw [putL] at h
    rcases List.mem_cons.mp h with rfl | h
    · exact ⟨l', List.mem_cons_self .., rfl⟩
    · obtain ⟨l2, h1, h2⟩ := putL_snd ls _ l h
      exact ⟨l2, List.mem_cons_of_mem _ h1, h2⟩

theorem party_put {x a b s : Int} {ls : List Ld} (h : partyOk x a b ls s = true) {g : List Int} (G : Good x a b ls g) : partyOk x a b (putL ls g) s = true := by
  have K := plk_of h
  have hx := K.x12
  have hon := putL_on G.toBox0
  have hr := G.rest
  unfold partyOk onOk rowOk at h ⊢
  simp only [Bool.and_eq_true, decide_eq_true_eq, List.all_eq_true, Bool.not_eq_true', List.any_eq_false, putL_length] at h ⊢
  obtain ⟨⟨⟨h1, h2, h3⟩, h4⟩, h5, h6, h7, h8⟩ := h
  refine ⟨⟨⟨h1, h2, fun l hl => ?_⟩, fun l hl => ?_⟩, h5, h6, hr, h8⟩
  · have h9 := hon l hl
    obtain ⟨l', hl', he⟩ := putL_snd ls g l hl
    have := h3 l' hl'
    unfold okL at this ⊢
    simp only [Bool.and_eq_true, decide_eq_true_eq] at this ⊢
    omega
  · have := hon l hl
    omega

theorem nxP_put (x a b s : Int) (ls : List Ld) (g : List Int) : nxP x a b s (putL ls g) = nxP x a b s ls := by
  funext z
  unfold nxP
  rw [putL_putL]

theorem map_putL : ∀ (ls : List Ld) (g : List Int), ls.length ≤ g.length → (putL ls g).map (fun l => l.1) = g.take ls.length
  | [], g, _ => by simp [putL]
  | l :: ls, [], h => by simp at h
  | l :: ls, y :: g, h => by
    rw [putL, List.map_cons, List.tail_cons, map_putL ls g (by simpa using h)]
    rfl

theorem spots_put {x : Int} {ls : List Ld} {g : List Int} (hn : ls.length ≤ 3) (B : Box0 x ls.length g) : spots (putL ls g) = g := by
  unfold spots
  rw [map_putL ls g (by rw [B.len]; exact hn), putL_length]
  have h3 : [0, 0, 0].drop ls.length = g.drop ls.length := by
    refine List.ext_getElem? fun i => ?_
    rw [List.getElem?_drop, List.getElem?_drop]
    have hl := B.len
    by_cases hi : ls.length + i < 3
    · have hz := B.zero (ls.length + i) (by omega)
      rw [List.getD_eq_getElem?_getD, List.getElem?_eq_getElem (by omega)] at hz
      rw [List.getElem?_eq_getElem (by simpa using hi), List.getElem?_eq_getElem (by omega)]
      simp only [Option.getD_some] at hz
      rw [hz]
      have : ∀ k (h : k < 3), ([0, 0, 0] : List Int)[k]'(by simpa using h) = 0 := by
        intro k hk
        match k, hk with
        | 0, _ => rfl
        | 1, _ => rfl
        | 2, _ => rfl
      rw [this _ hi]
    · rw [List.getElem?_eq_none (by simp; omega), List.getElem?_eq_none (by omega)]
  rw [h3, List.take_append_drop]

theorem found_put {x a b s : Int} {ls : List Ld} (K : Plk x a b s ls) {g : List Int} (G : Good x a b ls g) : foundP x a b s (putL ls g) = bfsAll (nxP x a b s ls) g := by
  unfold foundP
  rw [nxP_put, spots_put K.n3 G.toBox0]

theorem movd_movd : ∀ (ls : List Ld) (j : Nat) (p : Int), movd (movd ls j p) j (plOf ls j) = ls
  | [], _, _ => rfl
  | l :: ls, 0, p => by simp [movd, plOf]
  | l :: ls, j + 1, p => by
    have := movd_movd ls j p
    unfold plOf at this ⊢
    simp only [movd, List.getElem?_cons_succ] at this ⊢
    rw [this]

theorem move_back {x a b s p : Int} {ls : List Ld} {j : Nat} (h : partyOk x a b ls s = true) (hs : safeMv x a b ls s j p = true) : partyOk x a b (movd ls j p) s = true ∧ safeMv x a b (movd ls j p) s j (plOf ls j) = true := by
  have K := plk_of h
  have G := good_spots h
  have hn3 := K.n3
  have hx := K.x12
  have hs1 := K.s1
  have hs4 := K.s4
  obtain ⟨f1, f2, f3⟩ := party_facts h
  have hj := (safe_range hs).2
  rw [Int.toNat_natCast] at hj
  have hmem : ((j : Int), p) ∈ mvs x a b s ls := by
    have := mem_mvs (x := x) (a := a) (b := b) f2 f3 (by omega) ((j : Int), p)
    rw [hs] at this
    exact of_decide_eq_true this
  have hmv : movd ls j p = putL ls ((spots ls).set j p) := by
    rw [putL_set ls (spots ls) j p hj (by rw [spots_length hn3]; exact hn3), spots_self]
  have Gt : Good x a b ls ((spots ls).set j p) := by
    have := G.next K (mem_nx (m := ((j : Int), p)) (by rw [spots_self]; exact hmem))
    unfold nxM at this
    rwa [Int.toNat_natCast] at this
  refine ⟨by rw [hmv]; exact party_put h Gt, ?_⟩
  have hp0 := G.on j hj
  rw [spots_pl hj] at hp0
  unfold safeMv at hs ⊢
  simp only [Bool.and_eq_true, Bool.or_eq_true, decide_eq_true_eq, Int.toNat_natCast, movd_length] at hs ⊢
  obtain ⟨⟨⟨h1, h2⟩, h3, h4⟩, h5, h6⟩ := hs
  rw [plOf_movd, if_pos ⟨rfl, hj⟩, movd_movd]
  refine ⟨⟨⟨h1, h2⟩, hp0.1, hp0.2⟩, ?_, ?_⟩
  · unfold wr at h5 ⊢
    rw [wrap64 (by omega) (by omega), wrap64 (by omega) (by omega)] at h5
    rw [wrap64 (by omega) (by omega), wrap64 (by omega) (by omega)]
    omega
  · have := G.rest
    rwa [spots_self] at this

theorem fw_walk {x a b s : Int} {ls : List Ld} (K : Plk x a b s ls) {g : List Int} {es : Found} (T : BTold (nxP x a b s ls) g es) (hP : ∀ q ∈ es, Good x a b ls q.1) : ∀ (v : Nat) (z : List Int), mget es z = some (v : Int) → walkW x a b s (putL ls z) (fw x a b s ls es v z) = some (putL ls g)
  | 0, z, h => by
    obtain ⟨_, h1⟩ := T.par _ _ h
    rcases h1 with ⟨rfl, _⟩ | ⟨y, h2, _⟩
    · rfl
    · have := (T.par _ _ h2).1
      omega
  | v + 1, z, h => by
    obtain ⟨m, hm⟩ := closer_ex K T hP h
    have Gz : Good x a b ls z := hP _ (mget_mem h)
    have hx := K.x12
    have hmem : m ∈ mvs x a b s (putL ls z) := List.mem_of_find?_eq_some hm
    have hsafe := mem_mvs (x := x) (a := a) (b := b) (s := s) (ls := putL ls z) (Gz.toBox0.plB (by omega)) ⟨K.s1, K.s4⟩ (by omega) m
    rw [decide_eq_true hmem] at hsafe
    have hr := (safe_range hsafe.symm).2
    rw [putL_length] at hr
    rw [fw, hm]
    simp only [walkW]
    rw [if_pos hsafe.symm, ← putL_set ls z m.1.toNat m.2 hr (by rw [Gz.len]; exact K.n3)]
    exact fw_walk K T hP v _ (closer_first hm).1

theorem stp_far {x a b : Int} {ls : List Ld} {ps : List Int} {v : Int} (h : stpO x a b 1 ls ps = some v) : partyOk x a b ls 1 = true ∧ plcOk x ls.length ps = true ∧ v = (farE ls.length (spots ls) (goalT ps) : Nat) := by
  unfold stpO at h
  split at h
  · rename_i h1
    obtain ⟨h2, h3⟩ := Bool.and_eq_true_iff.mp h1
    have K := plk_of h2
    have G := good_spots h2
    obtain ⟨T1, hP⟩ := foundP_told h2
    have Gg : Good x a b ls (goalT ps) := hP _ (mget_mem h)
    obtain ⟨k, rfl⟩ := T1.nat h
    obtain ⟨w1, w2⟩ := (T1.iff _ _).mp h
    have h4 := w2 _ (straight K Gg _ _ G rfl)
    have h5 := straight_least K G w1
    exact ⟨h2, h3, by omega⟩
  · cases h

theorem fw_facts {x a b s : Int} {ls : List Ld} {ps : List Int} {W : List Ld} (h : fwO x a b s ls ps = some W) : ∃ v : Nat, stpO x a b s ls ps = some (v : Int) ∧ W.length = v ∧ v ≤ 60 ∧ partyOk x a b ls s = true ∧ plcOk x ls.length ps = true ∧ walkW x a b s ls W = some (putL ls (goalT ps)) ∧ stpO x a b s (putL ls (goalT ps)) (ls.map fun l => l.1) = some (v : Int) := by
  unfold fwO at h
  split at h
  · rename_i h1
    simp only [Bool.and_eq_true, decide_eq_true_eq] at h1
    obtain ⟨⟨h2, h3⟩, h4⟩ := h1
    have K := plk_of h2
    have G := good_spots h2
    have Gg : Good x a b ls (goalT ps) := ⟨plc_box K.n3 h3, h4⟩
    obtain ⟨T1, hP1⟩ := foundP_told h2
    obtain ⟨T2, hP2⟩ := goal_told K Gg
    have hback := told_back (fun z hz t ht => hz.next K ht) (fun z hz t ht => hz.sym K ht) T1 T2 G Gg
    split at h
    · rename_i v hv
      split at h
      · rename_i h60
        obtain ⟨n, rfl⟩ := T2.nat hv
        cases h
        rw [Int.toNat_natCast]
        refine ⟨n, ?_, fw_length K T2 hP2 n _ hv, by omega, h2, h3, ?_, ?_⟩
        · unfold stpO
          rw [h2, h3, Bool.and_self, if_pos rfl, hback]
          exact hv
        · have := fw_walk K T2 hP2 n _ hv
          rwa [spots_self] at this
        · have hpp := party_put h2 Gg
          have hpl : plcOk x (putL ls (goalT ps)).length (ls.map fun l => l.1) = true := by
            unfold plcOk
            simp only [Bool.and_eq_true, decide_eq_true_eq, List.all_eq_true, List.length_map, putL_length]
            refine ⟨trivial, fun y hy => ?_⟩
            obtain ⟨l, hl, rfl⟩ := List.mem_map.mp hy
            have := putL_on G.toBox0 l
            rw [spots_self] at this
            exact this hl
          have hgo : goalT (ls.map fun l => l.1) = spots ls := by
            unfold goalT padT spots
            rw [List.take_length, List.length_map]
          unfold stpO
          rw [hpp, hpl, Bool.and_self, if_pos rfl, found_put K Gg, hgo]
          exact hv
      · cases h
    · cases h
  · cases h

end Go.Proofs.Ythkgpblohjpcdaa.Slim

/- Beams: the loops of the law on convoys. -/
namespace Go.Proofs.Ythkgpblohjpcdaa.Slim

open Go

set_option linter.unusedSimpArgs false

set_option linter.unusedVariables false

variable {pr : Prims} {H : List Blk} {e : Option Nat}

theorem cv_eq2 (x y : Int) : eqList [0, 0] [.int .i64 x, .int .i64 y] [.int .i64 x, .int .i64 y] = some true := by
  simp [eqList, eqCell]

theorem e_l_rRow {b1 b2 : Nat} {c1 c2 : Option Nat} {ls : List Ld} (h1 : cellsAt H b1 = some (encL ls)) (h2 : cellsAt H b2 = some (encL ls)) (hn : ls.length ≤ 1048576) : call T pr f_l_rRow [slL b1 ls.length c1, slL b2 ls.length c2] ⟨H, e⟩ = some (.bool true, ⟨H, e⟩) := by
  apply Wc.eq
  rw [call_wc t_l_rRow]
  have hdd : ∀ x : Int, decide (x = x) = true := fun x => decide_eq_true rfl
  simp +contextual only [a_l_rRow, c_l_rRow, decide_true, Wp_some, Wp_none, Wp_ite, Wc_some, Wc_none, Wc_ite, Wp_thenRun, seqQ_normal, seqQ_exit, seqQ_ret, Wp_inBlock, blkQ_normal, blkQ_ret, blkQ_same, blkQ_exit, Wp_opThen, opQ_at, Wp_guardP, retQ_normal, retQ_ret, loopQ_normal, loopQ_exit, loopQ_ret, go_sem, entry, joinEsc, if_pos, reduceIte, Nat.reduceAdd, Nat.reduceLeDiff, Nat.reduceLT, Nat.reduceEqDiff]
  refine Wp_loop (fun k st => ∃ (i : Nat) (w5 w6 : AV), k + i = ls.length ∧ st = ⟨[slL b1 ls.length c1, slL b2 ls.length c2, .bool false, .int .i64 i, .bool false, w5, w6], ⟨H, none⟩⟩) ?_ ls.length _ ⟨0, _, _, rfl, rfl⟩
  rintro k _ ⟨i, w5, w6, hk, rfl⟩
  by_cases h0 : k = 0
  · have hd : ¬ i < ls.length := by omega
    simp +contextual only [w_l_rRow_1, hd, decide_false, Wp_some, Wp_none, Wp_ite, Wc_some, Wc_none, Wc_ite, Wp_thenRun, seqQ_normal, seqQ_exit, seqQ_ret, Wp_inBlock, blkQ_normal, blkQ_ret, blkQ_same, blkQ_exit, Wp_opThen, opQ_at, Wp_guardP, retQ_normal, retQ_ret, loopQ_normal, loopQ_exit, loopQ_ret, finish_one_eq, finish_one_eq0, finish_two_eq, finish_two_eq0, roots_slice_new, roots_slice_new0, roots_slice_none, roots_ptr_new, roots_ptr_new0, roots_int, roots_bool, roots_str, roots_agg, roots_tup, roots_cons, roots_nil, rename_slice, rename_slice_none, rename_ptr, rename_int, rename_bool, rename_str, rename_agg, rename_tup, rename_cons, rename_nil, keepBlks_nil, keepBlks_cons, flatAll_nil, flatAll_cons, flatBlk_cells, dedup_nil, dedup_one, dedup_two, renum_one, renum_one0, renum_two0, renum_two1, clean_none', clean_some, minEsc_none, minEsc_some, Nat.add_left_cancel_iff, Nat.le_add_right, Nat.le_refl, decide_true, go_sem, entry, joinEsc, if_pos, reduceIte, Nat.reduceAdd, Nat.reduceLeDiff, Nat.reduceLT, Nat.reduceEqDiff]
  · have hd : i < ls.length := by omega
    have hl : ls[i]? = some ls[i] := List.getElem?_eq_getElem hd
    have hw := wrap_succ (show i < 9223372036854775807 by omega)
    simp +contextual only [w_l_rRow_1, h1, h2, hd, hdd, hw, part_encL hl, cv_eq2, Option.map_some, decide_true, Wp_some, Wp_none, Wp_ite, Wc_some, Wc_none, Wc_ite, Wp_thenRun, seqQ_normal, seqQ_exit, seqQ_ret, Wp_inBlock, blkQ_normal, blkQ_ret, blkQ_same, blkQ_exit, Wp_opThen, opQ_at, Wp_guardP, retQ_normal, retQ_ret, loopQ_normal, loopQ_exit, loopQ_ret, go_sem, entry, joinEsc, if_pos, reduceIte, Nat.reduceAdd, Nat.reduceLeDiff, Nat.reduceLT, Nat.reduceEqDiff]
    exact ⟨k - 1, by omega, i + 1, _, _, by omega, rfl⟩

theorem e_l_rRow_none {p1 p2 : Option (Nat × Nat)} {s1 s2 : Nat} {c1 c2 : Option Nat} : call T pr f_l_rRow [.slice p1 s1 0 c1, .slice p2 s2 0 c2] ⟨H, e⟩ = some (.bool true, ⟨H, e⟩) := by
  apply Wc.eq
  rw [call_wc t_l_rRow]
  have h00 : ¬ ((0 : Nat) : Int) < ((0 : Nat) : Int) := by omega
  simp +contextual only [a_l_rRow, c_l_rRow, decide_true, Wp_some, Wp_none, Wp_ite, Wc_some, Wc_none, Wc_ite, Wp_thenRun, seqQ_normal, seqQ_exit, seqQ_ret, Wp_inBlock, blkQ_normal, blkQ_ret, blkQ_same, blkQ_exit, Wp_opThen, opQ_at, Wp_guardP, retQ_normal, retQ_ret, loopQ_normal, loopQ_exit, loopQ_ret, go_sem, entry, joinEsc, if_pos, reduceIte, Nat.reduceAdd, Nat.reduceLeDiff, Nat.reduceLT, Nat.reduceEqDiff]
  refine Wp_loop (fun k st => st = ⟨[.slice p1 s1 0 c1, .slice p2 s2 0 c2, .bool false, .int .i64 0, .bool false, .undef, .undef], ⟨H, none⟩⟩) ?_ 0 _ rfl
  rintro k _ rfl
  simp +contextual only [w_l_rRow_1, h00, show ¬ (0 : Int) < ((0 : Nat) : Int) by omega, decide_false, Wp_some, Wp_none, Wp_ite, Wc_some, Wc_none, Wc_ite, Wp_thenRun, seqQ_normal, seqQ_exit, seqQ_ret, Wp_inBlock, blkQ_normal, blkQ_ret, blkQ_same, blkQ_exit, Wp_opThen, opQ_at, Wp_guardP, retQ_normal, retQ_ret, loopQ_normal, loopQ_exit, loopQ_ret, finish_one_eq, finish_one_eq0, finish_two_eq, finish_two_eq0, roots_slice_new, roots_slice_new0, roots_slice_none, roots_ptr_new, roots_ptr_new0, roots_int, roots_bool, roots_str, roots_agg, roots_tup, roots_cons, roots_nil, rename_slice, rename_slice_none, rename_ptr, rename_int, rename_bool, rename_str, rename_agg, rename_tup, rename_cons, rename_nil, keepBlks_nil, keepBlks_cons, flatAll_nil, flatAll_cons, flatBlk_cells, dedup_nil, dedup_one, dedup_two, renum_one, renum_one0, renum_two0, renum_two1, clean_none', clean_some, minEsc_none, minEsc_some, Nat.add_left_cancel_iff, Nat.le_add_right, Nat.le_refl, decide_true, go_sem, entry, joinEsc, if_pos, reduceIte, Nat.reduceAdd, Nat.reduceLeDiff, Nat.reduceLT, Nat.reduceEqDiff]

section
variable {x a b : Int} {ls : List Ld}

end

end Go.Proofs.Ythkgpblohjpcdaa.Slim

/- Planks: the law FnParties, its last parts. -/
namespace Go.Proofs.Ythkgpblohjpcdaa.Slim

open Go

set_option linter.unusedSimpArgs false

set_option linter.unusedVariables false

variable {pr : Prims} {H : List Blk} {e : Option Nat}

structure PA (L : List Blk) (u q qp : Nat) (c d : Option Nat) (ls : List Ld) (ps : List Int) (x a b s : Int) : Prop where
  bx : cellsAt L u = some [.int .i64 x, .int .i64 a, .int .i64 b, slL q ls.length c, .int .i64 s]
  pq : cellsAt L q = some (encL ls)
  pp : cellsAt L qp = some (encI ps)
  n6 : ls.length ≤ 6
  p5 : ps.length ≤ 5

theorem PA.more {L : List Blk} {u q qp : Nat} {c d : Option Nat} {ls : List Ld} {ps : List Int} {x a b s : Int} (P : PA L u q qp c d ls ps x a b s) (G : List Blk) : PA (L ++ G) u q qp c d ls ps x a b s :=
  ⟨cells_mono P.bx G, cells_mono P.pq G, cells_mono P.pp G, P.n6, P.p5⟩

theorem goal_get {x : Int} {n : Nat} {ps : List Int} (h : plcOk x n ps = true) {i : Nat} (hi : i < n) : ps.length = n ∧ ps[i]? = some ((goalT ps).getD i 0) := by
  unfold plcOk at h
  simp only [Bool.and_eq_true, decide_eq_true_eq] at h
  have hl : i < ps.length := by omega
  refine ⟨h.1, ?_⟩
  unfold goalT padT
  rw [List.take_length, getD_app_left hl, List.getElem?_eq_getElem hl]
  simp [List.getD_eq_getElem?_getD, hl]

set_option maxHeartbeats 4000000 in
theorem pt_loop3 {L : List Blk} {u q qp u2 q2 : Nat} {c d : Option Nat} {ls : List Ld} {ps : List Int} {x a b s : Int} {w0 w1 w4 w5 w6 w7 w8 w9 w10 w11 w12 w13 w14 w15 w16 w17 w18 w19 w20 w21 w22 w23 w24 w25 w26 w27 w28 w29 w30 w31 w32 w33 w34 w35 w36 w37 w39 w42 w43 w44 w45 w46 w47 w48 w49 w50 w51 w52 w53 w54 w55 w56 w57 w58 w59 w60 w61 : AV} (A : PA L u q qp c d ls ps x a b s) (hok : plcOk x ls.length ps = true) (hu2 : cellsAt L u2 = some [.int .i64 x, .int .i64 a, .int .i64 b, slL q2 ls.length none, .int .i64 s]) (hq2 : cellsAt L q2 = some (encL (putL ls (goalT ps)))) :
    Wp (run T pr (.loop w_l_FnParties_3) ⟨(w0 :: w1 :: (.ptr (some (u, 0))) :: (slI qp ps.length d) :: w4 :: w5 :: w6 :: w7 :: w8 :: w9 :: w10 :: w11 :: w12 :: w13 :: w14 :: w15 :: w16 :: w17 :: w18 :: w19 :: w20 :: w21 :: w22 :: w23 :: w24 :: w25 :: w26 :: w27 :: w28 :: w29 :: w30 :: w31 :: w32 :: w33 :: w34 :: w35 :: w36 :: w37 :: (.ptr (some (u2, 0))) :: w39 :: (.slice (some (L.length, 0)) 1 0 (some 0)) :: (.int .i64 0) :: w42 :: w43 :: w44 :: w45 :: w46 :: w47 :: w48 :: w49 :: w50 :: w51 :: w52 :: w53 :: w54 :: w55 :: w56 :: w57 :: w58 :: w59 :: w60 :: w61 :: (.undef) :: (.undef) :: []), ⟨L ++ [.cells [] true], none⟩⟩)
      (fun ex st => ex = .exit 4 ∧ ∃ (G : List Blk) (bb : Nat) (c' : Option Nat) (v41 v62 v63 : AV), cellsAt (L ++ G) bb = some (encI (ls.map fun l => l.1)) ∧ st = ⟨(w0 :: w1 :: (.ptr (some (u, 0))) :: (slI qp ps.length d) :: w4 :: w5 :: w6 :: w7 :: w8 :: w9 :: w10 :: w11 :: w12 :: w13 :: w14 :: w15 :: w16 :: w17 :: w18 :: w19 :: w20 :: w21 :: w22 :: w23 :: w24 :: w25 :: w26 :: w27 :: w28 :: w29 :: w30 :: w31 :: w32 :: w33 :: w34 :: w35 :: w36 :: w37 :: (.ptr (some (u2, 0))) :: w39 :: (slI bb ls.length c') :: (v41) :: w42 :: w43 :: w44 :: w45 :: w46 :: w47 :: w48 :: w49 :: w50 :: w51 :: w52 :: w53 :: w54 :: w55 :: w56 :: w57 :: w58 :: w59 :: w60 :: w61 :: (v62) :: (v63) :: []), ⟨L ++ G, none⟩⟩) := by
  refine Wp_loop (fun r st => ∃ (j : Nat) (L' : List Blk) (bb : Nat) (c' : Option Nat) (v62 v63 : AV), j + r = ls.length ∧ Grown L L' ∧ L.length ≤ bb ∧ L'[bb]? = some (.cells (encI ((ls.map fun l => l.1).take j)) true) ∧ (c' = some 0 → j = 0) ∧
    st = ⟨(w0 :: w1 :: (.ptr (some (u, 0))) :: (slI qp ps.length d) :: w4 :: w5 :: w6 :: w7 :: w8 :: w9 :: w10 :: w11 :: w12 :: w13 :: w14 :: w15 :: w16 :: w17 :: w18 :: w19 :: w20 :: w21 :: w22 :: w23 :: w24 :: w25 :: w26 :: w27 :: w28 :: w29 :: w30 :: w31 :: w32 :: w33 :: w34 :: w35 :: w36 :: w37 :: (.ptr (some (u2, 0))) :: w39 :: (slI bb j c') :: (.int .i64 j) :: w42 :: w43 :: w44 :: w45 :: w46 :: w47 :: w48 :: w49 :: w50 :: w51 :: w52 :: w53 :: w54 :: w55 :: w56 :: w57 :: w58 :: w59 :: w60 :: w61 :: (v62) :: (v63) :: []), ⟨L', none⟩⟩) ?_ ls.length _ ⟨0, _, L.length, some 0, _, _, by omega, ⟨_, rfl⟩, Nat.le_refl _, by rw [List.getElem?_append_right (Nat.le_refl _), Nat.sub_self]; rfl, fun _ => rfl, rfl⟩
  rintro r _ ⟨j, L', bb, c', v62, v63, hj, hg, hbb, hL, hcap, rfl⟩
  obtain ⟨G, rfl⟩ := hg
  have A' := A.more G
  have hbx := A'.bx
  have hpq := A'.pq
  have hpp := A'.pp
  have hu2' := cells_mono hu2 G
  have hq2' := cells_mono hq2 G
  by_cases hr : r = 0
  · have he : j = ls.length := by omega
    subst he
    have hpl : ps.length = ls.length := by
      unfold plcOk at hok
      simp only [Bool.and_eq_true, decide_eq_true_eq] at hok
      exact hok.1
    rw [List.take_of_length_le (by simp)] at hL
    have hnl : ¬ (ls.length < ps.length) := by omega
    simp (maxSteps := 2000000) only [w_l_FnParties_3, hnl, decide_false, Wp_some, Wp_none, Wp_ite, Wc_some, Wc_none, Wc_ite, Wp_thenRun, seqQ_normal, seqQ_exit, seqQ_ret, Wp_inBlock, blkQ_normal, blkQ_ret, blkQ_same, blkQ_exit, Wp_opThen, opQ_at, Wp_guardP, retQ_normal, retQ_ret, loopQ_normal, loopQ_exit, loopQ_ret, go_sem, entry, joinEsc, if_pos, reduceIte, Nat.reduceAdd, Nat.reduceLeDiff, Nat.reduceLT, Nat.reduceEqDiff]
    exact ⟨G, bb, c', _, _, _, cellsAt_of hL, rfl⟩
  · have hjl : j < ls.length := by omega
    obtain ⟨hpl, hpj⟩ := goal_get hok hjl
    have hjp : j < ps.length := by omega
    have hw := wrap_succ (show j < 9223372036854775807 by have := A.n6; omega)
    have hg := putL_get ls (goalT ps) j hjl
    have hl : ls[j]? = some ls[j] := List.getElem?_eq_getElem hjl
    have hlen : (encI ((ls.map fun l => l.1).take j)).length = j * 1 := by simp [encI]; omega
    simp (maxSteps := 2000000) only [w_l_FnParties_3, fillParts, hjp, hjl, hbx, hpq, hpp, hu2', hq2', part_encI _ hpj, part_encL0 _ hg, part_encL0 _ hl, decide_true, Bool.not_true, Bool.false_eq_true, Wp_some, Wp_none, Wp_ite, Wc_some, Wc_none, Wc_ite, Wp_thenRun, seqQ_normal, seqQ_exit, seqQ_ret, Wp_inBlock, blkQ_normal, blkQ_ret, blkQ_same, blkQ_exit, Wp_opThen, opQ_at, Wp_guardP, retQ_normal, retQ_ret, loopQ_normal, loopQ_exit, loopQ_ret, go_sem, entry, joinEsc, if_pos, reduceIte, Nat.reduceAdd, Nat.reduceLeDiff, Nat.reduceLT, Nat.reduceEqDiff]
    refine wc_ap (n := j) (k := 1) (new := [AV.int .i64 ls[j].1]) (by rw [← List.append_assoc]; exact get_more hL _) (src_new _ 1 1 _ _ (L.length + G.length) (by rw [← List.append_assoc, ← List.length_append]; simp +contextual only [go_sem, entry, joinEsc, if_pos, reduceIte, Nat.reduceAdd, Nat.reduceLeDiff, Nat.reduceLT, Nat.reduceEqDiff]) rfl) hlen rfl (by unfold maxBytes; have := A.n6; omega) hcap ?_
    intro L2 g1 g2 g3 g4
    simp (maxSteps := 2000000) only [hw, Wp_some, Wp_none, Wp_ite, Wc_some, Wc_none, Wc_ite, Wp_thenRun, seqQ_normal, seqQ_exit, seqQ_ret, Wp_inBlock, blkQ_normal, blkQ_ret, blkQ_same, blkQ_exit, Wp_opThen, opQ_at, Wp_guardP, retQ_normal, retQ_ret, loopQ_normal, loopQ_exit, loopQ_ret, go_sem, entry, joinEsc, if_pos, reduceIte, Nat.reduceAdd, Nat.reduceLeDiff, Nat.reduceLT, Nat.reduceEqDiff]
    refine ⟨r - 1, by omega, j + 1, L2, _, none, _, _, by omega, g4 L ⟨_, rfl⟩ hbb, ?_, ?_, (fun h => by cases h), rfl⟩
    · omega
    · have hen : encI ((ls.map fun l => l.1).take (j + 1)) = encI ((ls.map fun l => l.1).take j) ++ [AV.int .i64 ls[j].1] := by
        rw [List.take_add_one, List.getElem?_map, hl, encI_append]
        rfl
      rw [hen]
      simp only [List.length_append, List.length_cons, List.length_nil] at g3 ⊢
      exact g3

def PWk (L : List Blk) (wv : AV) : Option (List Ld) → Prop
  | some W => ∃ wb wc, wv = slL wb W.length wc ∧ cellsAt L wb = some (encL W)
  | none => True

theorem PWk.more {L : List Blk} {wv : AV} {o : Option (List Ld)} (h : PWk L wv o) (G : List Blk) : PWk (L ++ G) wv o := by
  cases o with
  | none => trivial
  | some W =>
    obtain ⟨wb, wc, h1, h2⟩ := h
    exact ⟨wb, wc, h1, cells_mono h2 G⟩

set_option maxHeartbeats 4000000 in
theorem pt_20 {L : List Blk} {m0 : Mem} {u q qp : Nat} {c d : Option Nat} {ls : List Ld} {ps : List Int} {x a b s : Int} {wv : AV} {w0 w6 w7 w9 w10 w11 w12 w13 w14 w15 w16 w17 w18 w19 w20 w21 w22 w23 w24 w25 w26 w27 w28 w29 w30 w31 w32 w33 w34 w35 w36 w37 w38 w39 w42 w43 w44 w45 w46 w47 w48 w49 w50 w51 w52 w53 w54 w55 w56 w57 w58 w59 w60 w61 : AV} (A : PA L u q qp c d ls ps x a b s) (hW : PWk L wv (fwO x a b s ls ps)) (hm : m0.H.length ≤ L.length) :
    Wp (run T pr (seqTl (seqTl (seqTl (seqTl (seqTl (seqTl (seqTl (seqTl (seqTl (seqTl (seqTl (seqTl (seqTl (seqTl (seqTl (seqTl (seqTl (seqTl (seqTl (seqTl c_l_FnParties)))))))))))))))))))) ⟨(w0 :: (.bool false) :: (.ptr (some (u, 0))) :: (slI qp ps.length d) :: (wv) :: (.bool (fwO x a b s ls ps).isSome) :: w6 :: w7 :: (.int .i64 ((stpO x a b s ls ps).getD 0)) :: w9 :: w10 :: w11 :: w12 :: w13 :: w14 :: w15 :: w16 :: w17 :: w18 :: w19 :: w20 :: w21 :: w22 :: w23 :: w24 :: w25 :: w26 :: w27 :: w28 :: w29 :: w30 :: w31 :: w32 :: w33 :: w34 :: w35 :: w36 :: w37 :: w38 :: w39 :: (.undef) :: (.undef) :: w42 :: w43 :: w44 :: w45 :: w46 :: w47 :: w48 :: w49 :: w50 :: w51 :: w52 :: w53 :: w54 :: w55 :: w56 :: w57 :: w58 :: w59 :: w60 :: w61 :: (.undef) :: (.undef) :: []), ⟨L, none⟩⟩) (retQ a_l_FnParties m0 fun v m => v = .bool true) := by
  have fin : ∀ (X : List Blk) (e0 : Option Nat), finish 1 m0.H.length e0 (.bool true) ⟨L ++ X, none⟩ = some (.bool true, ⟨(L ++ X).take m0.H.length, e0⟩) := by
    intro X e0
    unfold finish
    simp [AV.under, clean]
  have fin0 := fin []
  rw [List.append_nil] at fin0
  cases ho : fwO x a b s ls ps with
  | none =>
    simp (maxSteps := 2000000) only [a_l_FnParties, c_l_FnParties, seqTl, fin0, Option.isSome_none, Bool.not_false, Wp_some, Wp_none, Wp_ite, Wc_some, Wc_none, Wc_ite, Wp_thenRun, seqQ_normal, seqQ_exit, seqQ_ret, Wp_inBlock, blkQ_normal, blkQ_ret, blkQ_same, blkQ_exit, Wp_opThen, opQ_at, Wp_guardP, retQ_normal, retQ_ret, loopQ_normal, loopQ_exit, loopQ_ret, go_sem, entry, joinEsc, if_pos, reduceIte, Nat.reduceAdd, Nat.reduceLeDiff, Nat.reduceLT, Nat.reduceEqDiff]
  | some W =>
    rw [ho] at hW
    obtain ⟨wb, wc, rfl, hwb⟩ := hW
    obtain ⟨v, f1, f2, f3, f4, f5, f6, f7⟩ := fw_facts ho
    rw [f1]
    have hn3 := (plk_of f4).n3
    have hpl : ps.length = ls.length := by
      have := f5
      unfold plcOk at this
      simp only [Bool.and_eq_true, decide_eq_true_eq] at this
      exact this.1
    have hbx := A.bx
    have hwk := e_i_WalkTo (pr := pr) (H := L) (e := none) (c := c) (cw := wc) A.pq hwb x a b s f4 (by omega) f6
    obtain ⟨R, hR⟩ : ∃ R, R = (seqTl (seqTl (seqTl (seqTl (seqTl (seqTl (seqTl (seqTl (seqTl (seqTl (seqTl (seqTl (seqTl (seqTl (seqTl (seqTl (seqTl (seqTl (seqTl (seqTl (seqTl (seqTl (seqTl (seqTl (seqTl c_l_FnParties))))))))))))))))))))))))) := ⟨_, rfl⟩
    have hc : (seqTl (seqTl (seqTl (seqTl (seqTl (seqTl (seqTl (seqTl (seqTl (seqTl (seqTl (seqTl (seqTl (seqTl (seqTl (seqTl (seqTl (seqTl (seqTl (seqTl c_l_FnParties)))))))))))))))))))) = (.seq (seqHd (seqTl (seqTl (seqTl (seqTl (seqTl (seqTl (seqTl (seqTl (seqTl (seqTl (seqTl (seqTl (seqTl (seqTl (seqTl (seqTl (seqTl (seqTl (seqTl (seqTl c_l_FnParties))))))))))))))))))))) (.seq (seqHd (seqTl (seqTl (seqTl (seqTl (seqTl (seqTl (seqTl (seqTl (seqTl (seqTl (seqTl (seqTl (seqTl (seqTl (seqTl (seqTl (seqTl (seqTl (seqTl (seqTl (seqTl c_l_FnParties)))))))))))))))))))))) (.seq (seqHd (seqTl (seqTl (seqTl (seqTl (seqTl (seqTl (seqTl (seqTl (seqTl (seqTl (seqTl (seqTl (seqTl (seqTl (seqTl (seqTl (seqTl (seqTl (seqTl (seqTl (seqTl (seqTl c_l_FnParties))))))))))))))))))))))) (.seq (seqHd (seqTl (seqTl (seqTl (seqTl (seqTl (seqTl (seqTl (seqTl (seqTl (seqTl (seqTl (seqTl (seqTl (seqTl (seqTl (seqTl (seqTl (seqTl (seqTl (seqTl (seqTl (seqTl (seqTl c_l_FnParties)))))))))))))))))))))))) (.seq (seqHd (seqTl (seqTl (seqTl (seqTl (seqTl (seqTl (seqTl (seqTl (seqTl (seqTl (seqTl (seqTl (seqTl (seqTl (seqTl (seqTl (seqTl (seqTl (seqTl (seqTl (seqTl (seqTl (seqTl (seqTl c_l_FnParties))))))))))))))))))))))))) R))))) := by rw [hR]; rfl
    rw [hc]
    have hu : AV.under (L.length + 1 + 1) (slL L.length ls.length none) = true := by simp [AV.under]; omega
    have hWn : ¬ (W.length : Int) ≠ (v : Int) := by omega
    have hWn' : ((W.length : Int) = (v : Int)) := by omega
    have hLn' : ((ls.length : Int) = (ps.length : Int)) := by omega
    simp (maxSteps := 2000000) only [c_l_FnParties, seqTl, seqHd, fillParts, hbx, hwk, hu, hWn', hLn', Option.isSome_some, Option.getD_some, Bool.not_true, Bool.false_eq_true, decide_true, decide_false, if_true, Wp_some, Wp_none, Wp_ite, Wc_some, Wc_none, Wc_ite, Wp_thenRun, seqQ_normal, seqQ_exit, seqQ_ret, Wp_inBlock, blkQ_normal, blkQ_ret, blkQ_same, blkQ_exit, Wp_opThen, opQ_at, Wp_guardP, retQ_normal, retQ_ret, loopQ_normal, loopQ_exit, loopQ_ret, go_sem, entry, joinEsc, if_pos, reduceIte, Nat.reduceAdd, Nat.reduceLeDiff, Nat.reduceLT, Nat.reduceEqDiff]
    obtain ⟨L1, hL1⟩ : ∃ L1, L1 = L ++ [.cells (encL (putL ls (goalT ps))) true, .cells [.int .i64 x, .int .i64 a, .int .i64 b, slL L.length ls.length none, .int .i64 s] true] := ⟨_, rfl⟩
    have hl1 : L1.length = L.length + 2 := by rw [hL1, List.length_append]; rfl
    have he1 : ∀ Z : Blk, L ++ [.cells (encL (putL ls (goalT ps))) true, .cells [.int .i64 x, .int .i64 a, .int .i64 b, slL L.length ls.length none, .int .i64 s] true, Z] = L1 ++ [Z] := fun Z => by rw [hL1, List.append_assoc]; rfl
    have A1 : PA L1 u q qp c d ls ps x a b s := by rw [hL1]; exact A.more _
    have hu2 : cellsAt L1 (L.length + 1) = some [.int .i64 x, .int .i64 a, .int .i64 b, slL L.length ls.length none, .int .i64 s] := by rw [hL1, cellsAt_newk]; rfl
    have hq2 : cellsAt L1 L.length = some (encL (putL ls (goalT ps))) := by rw [hL1, cellsAt_new0]; rfl
    rw [he1, ← hl1]
    refine (pt_loop3 (pr := pr) A1 f5 hu2 hq2).mono ?_
    rintro _ _ ⟨rfl, G, bb, c', v41, v62, v63, hG, rfl⟩
    have hu2' := cells_mono hu2 G
    have hq2' := cells_mono hq2 G
    have hpu := putL_length ls (goalT ps)
    have hml : (ls.map fun l => l.1).length = ls.length := List.length_map ..
    have hsi := e_i_StepsTo (pr := pr) (H := L1 ++ G) (e := none) (c := none) (cp := c') (ls := putL ls (goalT ps)) (ps := ls.map fun l => l.1) (x := x) (a := a) (b := b) (s := s) hq2' (by omega) hG
    rw [hpu, hml, f7] at hsi
    simp only [Option.getD_some, Option.isSome_some] at hsi
    have hfe : ∀ e0 : Option Nat, finish 1 m0.H.length e0 (.bool true) ⟨L1 ++ G, none⟩ = some (.bool true, ⟨(L1 ++ G).take m0.H.length, e0⟩) := by
      intro e0
      unfold finish
      simp [AV.under, clean]
    rw [hR]
    simp (maxSteps := 2000000) only [a_l_FnParties, c_l_FnParties, seqTl, hu2', hsi, hfe, decide_true, Wp_some, Wp_none, Wp_ite, Wc_some, Wc_none, Wc_ite, Wp_thenRun, seqQ_normal, seqQ_exit, seqQ_ret, Wp_inBlock, blkQ_normal, blkQ_ret, blkQ_same, blkQ_exit, Wp_opThen, opQ_at, Wp_guardP, retQ_normal, retQ_ret, loopQ_normal, loopQ_exit, loopQ_ret, go_sem, entry, joinEsc, if_pos, reduceIte, Nat.reduceAdd, Nat.reduceLeDiff, Nat.reduceLT, Nat.reduceEqDiff]

theorem farE_le {x : Int} {n : Nat} {z g : List Int} (hx : x ≤ 12) (Z : Box0 x n z) (G : Box0 x n g) : ∀ i, i ≤ n → farE i z g ≤ 12 * i
  | 0, _ => Nat.le_refl _
  | i + 1, h => by
    have ih := farE_le hx Z G i (by omega)
    have h1 := Z.on i (by omega)
    have h2 := G.on i (by omega)
    rw [farE]
    omega

set_option maxHeartbeats 4000000 in
theorem pt_loop2 {L : List Blk} {u q qp : Nat} {c d : Option Nat} {ls : List Ld} {ps : List Int} {x a b s : Int} {w0 w1 w4 w5 w6 w7 w8 w9 w10 w11 w12 w13 w14 w15 w16 w17 w18 w19 w20 w21 w22 w23 w24 w25 w26 w27 w28 w29 w30 w31 w32 w33 w34 w35 w38 w39 w40 w41 w42 w43 w44 w45 w46 w47 w48 w49 w50 w51 w52 w53 w54 w55 w56 w59 w60 w61 w62 w63 : AV} (A : PA L u q qp c d ls ps x a b s) (hok : plcOk x ls.length ps = true) (hp : partyOk x a b ls s = true) :
    Wp (run T pr (.loop w_l_FnParties_2) ⟨(w0 :: w1 :: (.ptr (some (u, 0))) :: (slI qp ps.length d) :: w4 :: w5 :: w6 :: w7 :: w8 :: w9 :: w10 :: w11 :: w12 :: w13 :: w14 :: w15 :: w16 :: w17 :: w18 :: w19 :: w20 :: w21 :: w22 :: w23 :: w24 :: w25 :: w26 :: w27 :: w28 :: w29 :: w30 :: w31 :: w32 :: w33 :: w34 :: w35 :: (.int .i64 0) :: (.int .i64 0) :: w38 :: w39 :: w40 :: w41 :: w42 :: w43 :: w44 :: w45 :: w46 :: w47 :: w48 :: w49 :: w50 :: w51 :: w52 :: w53 :: w54 :: w55 :: w56 :: (.undef) :: (.undef) :: w59 :: w60 :: w61 :: w62 :: w63 :: []), ⟨L, none⟩⟩)
      (fun ex st => ex = .exit 2 ∧ ∃ (v37 v57 v58 : AV), st = ⟨(w0 :: w1 :: (.ptr (some (u, 0))) :: (slI qp ps.length d) :: w4 :: w5 :: w6 :: w7 :: w8 :: w9 :: w10 :: w11 :: w12 :: w13 :: w14 :: w15 :: w16 :: w17 :: w18 :: w19 :: w20 :: w21 :: w22 :: w23 :: w24 :: w25 :: w26 :: w27 :: w28 :: w29 :: w30 :: w31 :: w32 :: w33 :: w34 :: w35 :: (.int .i64 (farE ls.length (spots ls) (goalT ps) : Nat)) :: (v37) :: w38 :: w39 :: w40 :: w41 :: w42 :: w43 :: w44 :: w45 :: w46 :: w47 :: w48 :: w49 :: w50 :: w51 :: w52 :: w53 :: w54 :: w55 :: w56 :: (v57) :: (v58) :: w59 :: w60 :: w61 :: w62 :: w63 :: []), ⟨L, none⟩⟩) := by
  have K := plk_of hp
  have G := good_spots hp
  have hx := K.x12
  have B := plc_box K.n3 hok
  refine Wp_loop (fun r st => ∃ (j : Nat) (v57 v58 : AV), j + r = ls.length ∧ st = ⟨(w0 :: w1 :: (.ptr (some (u, 0))) :: (slI qp ps.length d) :: w4 :: w5 :: w6 :: w7 :: w8 :: w9 :: w10 :: w11 :: w12 :: w13 :: w14 :: w15 :: w16 :: w17 :: w18 :: w19 :: w20 :: w21 :: w22 :: w23 :: w24 :: w25 :: w26 :: w27 :: w28 :: w29 :: w30 :: w31 :: w32 :: w33 :: w34 :: w35 :: (.int .i64 (farE j (spots ls) (goalT ps) : Nat)) :: (.int .i64 j) :: w38 :: w39 :: w40 :: w41 :: w42 :: w43 :: w44 :: w45 :: w46 :: w47 :: w48 :: w49 :: w50 :: w51 :: w52 :: w53 :: w54 :: w55 :: w56 :: (v57) :: (v58) :: w59 :: w60 :: w61 :: w62 :: w63 :: []), ⟨L, none⟩⟩) ?_ ls.length _ ⟨0, _, _, by omega, rfl⟩
  rintro r _ ⟨j, v57, v58, hj, rfl⟩
  have hbx := A.bx
  have hpq := A.pq
  have hpp := A.pp
  by_cases hr : r = 0
  · have he : j = ls.length := by omega
    subst he
    have hpl : ps.length = ls.length := by
      unfold plcOk at hok
      simp only [Bool.and_eq_true, decide_eq_true_eq] at hok
      exact hok.1
    have hnl : ¬ (ls.length < ps.length) := by omega
    simp (maxSteps := 2000000) only [w_l_FnParties_2, hnl, decide_false, Wp_some, Wp_none, Wp_ite, Wc_some, Wc_none, Wc_ite, Wp_thenRun, seqQ_normal, seqQ_exit, seqQ_ret, Wp_inBlock, blkQ_normal, blkQ_ret, blkQ_same, blkQ_exit, Wp_opThen, opQ_at, Wp_guardP, retQ_normal, retQ_ret, loopQ_normal, loopQ_exit, loopQ_ret, go_sem, entry, joinEsc, if_pos, reduceIte, Nat.reduceAdd, Nat.reduceLeDiff, Nat.reduceLT, Nat.reduceEqDiff]
    exact ⟨_, _, _, rfl⟩
  · have hjl : j < ls.length := by omega
    obtain ⟨hpl, hpj⟩ := goal_get hok hjl
    have hjp : j < ps.length := by omega
    have hw := wrap_succ (show j < 9223372036854775807 by have := A.n6; omega)
    have hl : ls[j]? = some ls[j] := List.getElem?_eq_getElem hjl
    have h1 := G.on j hjl
    have h2 := B.on j hjl
    have hsp : (spots ls).getD j 0 = ls[j].1 := by
      rw [spots_pl hjl]
      unfold plOf
      rw [hl]
      rfl
    have hfl := farE_le hx G.toBox0 B j (by omega)
    have hn6 := A.n6
    have hfs : farE (j + 1) (spots ls) (goalT ps) = farE j (spots ls) (goalT ps) + ((spots ls).getD j 0 - (goalT ps).getD j 0).natAbs := rfl
    rw [hsp] at hfs h1
    generalize (goalT ps).getD j 0 = g at *
    generalize farE j (spots ls) (goalT ps) = f at *
    by_cases hgt : ls[j].1 < g
    · have w1 : IntKind.i64.wrap ((f : Int) + g) = (f : Int) + g := wrap64 (by omega) (by omega)
      have w2 : IntKind.i64.wrap ((f : Int) + g - ls[j].1) = ((farE (j + 1) (spots ls) (goalT ps) : Nat) : Int) := by
        rw [wrap64 (by omega) (by omega), hfs]
        omega
      simp (maxSteps := 2000000) only [w_l_FnParties_2, hjp, hjl, hbx, hpq, hpp, part_encI _ hpj, part_encL0 _ hl, gt_iff_lt, hgt, w1, w2, hw, decide_true, Wp_some, Wp_none, Wp_ite, Wc_some, Wc_none, Wc_ite, Wp_thenRun, seqQ_normal, seqQ_exit, seqQ_ret, Wp_inBlock, blkQ_normal, blkQ_ret, blkQ_same, blkQ_exit, Wp_opThen, opQ_at, Wp_guardP, retQ_normal, retQ_ret, loopQ_normal, loopQ_exit, loopQ_ret, go_sem, entry, joinEsc, if_pos, reduceIte, Nat.reduceAdd, Nat.reduceLeDiff, Nat.reduceLT, Nat.reduceEqDiff]
      exact ⟨r - 1, by omega, j + 1, _, _, by omega, rfl⟩
    · have w1 : IntKind.i64.wrap ((f : Int) + ls[j].1) = (f : Int) + ls[j].1 := wrap64 (by omega) (by omega)
      have w2 : IntKind.i64.wrap ((f : Int) + ls[j].1 - g) = ((farE (j + 1) (spots ls) (goalT ps) : Nat) : Int) := by
        rw [wrap64 (by omega) (by omega), hfs]
        omega
      simp (maxSteps := 2000000) only [w_l_FnParties_2, hjp, hjl, hbx, hpq, hpp, part_encI _ hpj, part_encL0 _ hl, gt_iff_lt, hgt, w1, w2, hw, decide_true, decide_false, Wp_some, Wp_none, Wp_ite, Wc_some, Wc_none, Wc_ite, Wp_thenRun, seqQ_normal, seqQ_exit, seqQ_ret, Wp_inBlock, blkQ_normal, blkQ_ret, blkQ_same, blkQ_exit, Wp_opThen, opQ_at, Wp_guardP, retQ_normal, retQ_ret, loopQ_normal, loopQ_exit, loopQ_ret, go_sem, entry, joinEsc, if_pos, reduceIte, Nat.reduceAdd, Nat.reduceLeDiff, Nat.reduceLT, Nat.reduceEqDiff]
      exact ⟨r - 1, by omega, j + 1, _, _, by omega, rfl⟩

set_option maxHeartbeats 4000000 in
theorem pt_19 {L : List Blk} {m0 : Mem} {u q qp : Nat} {c d : Option Nat} {ls : List Ld} {ps : List Int} {x a b s : Int} {wv : AV} {w0 w6 w7 w10 w11 w12 w13 w14 w15 w16 w17 w18 w19 w20 w21 w22 w23 w24 w25 w26 w27 w28 w29 w30 w31 w32 w33 w34 w35 w38 w39 w42 w43 w44 w45 w46 w47 w48 w49 w50 w51 w52 w53 w54 w55 w56 w59 w60 w61 : AV} (A : PA L u q qp c d ls ps x a b s) (hW : PWk L wv (fwO x a b s ls ps)) (hm : m0.H.length ≤ L.length) :
    Wp (run T pr (seqTl (seqTl (seqTl (seqTl (seqTl (seqTl (seqTl (seqTl (seqTl (seqTl (seqTl (seqTl (seqTl (seqTl (seqTl (seqTl (seqTl (seqTl (seqTl c_l_FnParties))))))))))))))))))) ⟨(w0 :: (.bool false) :: (.ptr (some (u, 0))) :: (slI qp ps.length d) :: (wv) :: (.bool (fwO x a b s ls ps).isSome) :: w6 :: w7 :: (.int .i64 ((stpO x a b s ls ps).getD 0)) :: (.bool (stpO x a b s ls ps).isSome) :: w10 :: w11 :: w12 :: w13 :: w14 :: w15 :: w16 :: w17 :: w18 :: w19 :: w20 :: w21 :: w22 :: w23 :: w24 :: w25 :: w26 :: w27 :: w28 :: w29 :: w30 :: w31 :: w32 :: w33 :: w34 :: w35 :: (.undef) :: (.undef) :: w38 :: w39 :: (.undef) :: (.undef) :: w42 :: w43 :: w44 :: w45 :: w46 :: w47 :: w48 :: w49 :: w50 :: w51 :: w52 :: w53 :: w54 :: w55 :: w56 :: (.undef) :: (.undef) :: w59 :: w60 :: w61 :: (.undef) :: (.undef) :: []), ⟨L, none⟩⟩) (retQ a_l_FnParties m0 fun v m => v = .bool true) := by
  obtain ⟨R, hR⟩ : ∃ R, R = (seqTl (seqTl (seqTl (seqTl (seqTl (seqTl (seqTl (seqTl (seqTl (seqTl (seqTl (seqTl (seqTl (seqTl (seqTl (seqTl (seqTl (seqTl (seqTl (seqTl c_l_FnParties)))))))))))))))))))) := ⟨_, rfl⟩
  have hc : (seqTl (seqTl (seqTl (seqTl (seqTl (seqTl (seqTl (seqTl (seqTl (seqTl (seqTl (seqTl (seqTl (seqTl (seqTl (seqTl (seqTl (seqTl (seqTl c_l_FnParties))))))))))))))))))) = (.seq (seqHd (seqTl (seqTl (seqTl (seqTl (seqTl (seqTl (seqTl (seqTl (seqTl (seqTl (seqTl (seqTl (seqTl (seqTl (seqTl (seqTl (seqTl (seqTl (seqTl c_l_FnParties)))))))))))))))))))) R) := by rw [hR]; rfl
  have r := @pt_20 pr L m0 u q qp c d ls ps x a b s wv
  rw [← hR] at r
  rw [hc]
  have hbx := A.bx
  cases ho : stpO x a b s ls ps with
  | none =>
    rw [ho] at r
    simp (maxSteps := 2000000) only [c_l_FnParties, seqTl, seqHd, Option.isSome_none, Bool.false_eq_true, Wp_some, Wp_none, Wp_ite, Wc_some, Wc_none, Wc_ite, Wp_thenRun, seqQ_normal, seqQ_exit, seqQ_ret, Wp_inBlock, blkQ_normal, blkQ_ret, blkQ_same, blkQ_exit, Wp_opThen, opQ_at, Wp_guardP, retQ_normal, retQ_ret, loopQ_normal, loopQ_exit, loopQ_ret, go_sem, entry, joinEsc, if_pos, reduceIte, Nat.reduceAdd, Nat.reduceLeDiff, Nat.reduceLT, Nat.reduceEqDiff]
    exact r A hW hm
  | some v =>
    by_cases hs : s = 1
    · subst hs
      obtain ⟨g1, g2, g3⟩ := stp_far ho
      rw [ho] at r
      simp (maxSteps := 2000000) only [c_l_FnParties, seqTl, seqHd, hbx, Option.isSome_some, Option.getD_some, decide_true, Wp_some, Wp_none, Wp_ite, Wc_some, Wc_none, Wc_ite, Wp_thenRun, seqQ_normal, seqQ_exit, seqQ_ret, Wp_inBlock, blkQ_normal, blkQ_ret, blkQ_same, blkQ_exit, Wp_opThen, opQ_at, Wp_guardP, retQ_normal, retQ_ret, loopQ_normal, loopQ_exit, loopQ_ret, go_sem, entry, joinEsc, if_pos, reduceIte, Nat.reduceAdd, Nat.reduceLeDiff, Nat.reduceLT, Nat.reduceEqDiff]
      refine (pt_loop2 (pr := pr) A g2 g1).mono ?_
      rintro _ _ ⟨rfl, v37, v57, v58, rfl⟩
      rw [← g3]
      simp (maxSteps := 2000000) only [decide_true, Bool.not_true, Bool.false_eq_true, Wp_some, Wp_none, Wp_ite, Wc_some, Wc_none, Wc_ite, Wp_thenRun, seqQ_normal, seqQ_exit, seqQ_ret, Wp_inBlock, blkQ_normal, blkQ_ret, blkQ_same, blkQ_exit, Wp_opThen, opQ_at, Wp_guardP, retQ_normal, retQ_ret, loopQ_normal, loopQ_exit, loopQ_ret, go_sem, entry, joinEsc, if_pos, reduceIte, Nat.reduceAdd, Nat.reduceLeDiff, Nat.reduceLT, Nat.reduceEqDiff]
      exact r A hW hm
    · rw [ho] at r
      simp (maxSteps := 2000000) only [c_l_FnParties, seqTl, seqHd, hbx, hs, Option.isSome_some, decide_false, Bool.false_eq_true, Wp_some, Wp_none, Wp_ite, Wc_some, Wc_none, Wc_ite, Wp_thenRun, seqQ_normal, seqQ_exit, seqQ_ret, Wp_inBlock, blkQ_normal, blkQ_ret, blkQ_same, blkQ_exit, Wp_opThen, opQ_at, Wp_guardP, retQ_normal, retQ_ret, loopQ_normal, loopQ_exit, loopQ_ret, go_sem, entry, joinEsc, if_pos, reduceIte, Nat.reduceAdd, Nat.reduceLeDiff, Nat.reduceLT, Nat.reduceEqDiff]
      exact r A hW hm

end Go.Proofs.Ythkgpblohjpcdaa.Slim

/- Planks: the law FnParties, the middle parts. -/
namespace Go.Proofs.Ythkgpblohjpcdaa.Slim

open Go

set_option linter.unusedSimpArgs false

set_option linter.unusedVariables false

variable {pr : Prims} {H : List Blk} {e : Option Nat}

theorem cv_eq3 (x y z : Int) : eqList [0, 0, 0] [.int .i64 x, .int .i64 y, .int .i64 z] [.int .i64 x, .int .i64 y, .int .i64 z] = some true := by
  simp [eqList, eqCell]

theorem e_l_rParty {b1 b2 : Nat} {c1 c2 : Option Nat} {ls : List Ld} (h1 : cellsAt H b1 = some (encL ls)) (h2 : cellsAt H b2 = some (encL ls)) (hn : ls.length ≤ 1048576) (x a b s : Int) : call T pr f_l_rParty [ptV x a b (slL b1 ls.length c1) s, ptV x a b (slL b2 ls.length c2) s] ⟨H, e⟩ = some (.bool true, ⟨H, e⟩) := by
  have hr := fun X => e_l_rRow (pr := pr) (e := none) (c1 := c1) (c2 := c2) (cells_mono h1 X) (cells_mono h2 X) hn
  rw [call_eq t_l_rParty]
  simp +contextual only [a_l_rParty, c_l_rParty, hr, cv_eq3, decide_true, go_sem, entry, joinEsc, if_pos, reduceIte, Nat.reduceAdd, Nat.reduceLeDiff, Nat.reduceLT, Nat.reduceEqDiff]

theorem e_l_rParty_no : call T pr f_l_rParty [noParty, noParty] ⟨H, e⟩ = some (.bool true, ⟨H, e⟩) := by
  have hr := fun X => e_l_rRow_none (pr := pr) (H := H ++ X) (e := none) (p1 := none) (p2 := none) (s1 := 0) (s2 := 0) (c1 := none) (c2 := none)
  rw [call_eq t_l_rParty]
  simp +contextual only [a_l_rParty, c_l_rParty, hr, cv_eq3, decide_true, go_sem, entry, joinEsc, if_pos, reduceIte, Nat.reduceAdd, Nat.reduceLeDiff, Nat.reduceLT, Nat.reduceEqDiff]

theorem e_l_rCells {b1 b2 : Nat} {c1 c2 : Option Nat} {ls : List Ld} (h1 : cellsAt H b1 = some (encL ls)) (h2 : cellsAt H b2 = some (encL ls)) (hn : ls.length ≤ 1048576) : call T pr f_l_rCells [slL b1 ls.length c1, slL b2 ls.length c2] ⟨H, e⟩ = some (.bool true, ⟨H, e⟩) := by
  apply Wc.eq
  rw [call_wc t_l_rCells]
  have hdd : ∀ x : Int, decide (x = x) = true := fun x => decide_eq_true rfl
  simp +contextual only [a_l_rCells, c_l_rCells, decide_true, Wp_some, Wp_none, Wp_ite, Wc_some, Wc_none, Wc_ite, Wp_thenRun, seqQ_normal, seqQ_exit, seqQ_ret, Wp_inBlock, blkQ_normal, blkQ_ret, blkQ_same, blkQ_exit, Wp_opThen, opQ_at, Wp_guardP, retQ_normal, retQ_ret, loopQ_normal, loopQ_exit, loopQ_ret, go_sem, entry, joinEsc, if_pos, reduceIte, Nat.reduceAdd, Nat.reduceLeDiff, Nat.reduceLT, Nat.reduceEqDiff]
  refine Wp_loop (fun k st => ∃ (i : Nat) (w5 w6 : AV), k + i = ls.length ∧ st = ⟨[slL b1 ls.length c1, slL b2 ls.length c2, .bool false, .int .i64 i, .bool false, w5, w6], ⟨H, none⟩⟩) ?_ ls.length _ ⟨0, _, _, rfl, rfl⟩
  rintro k _ ⟨i, w5, w6, hk, rfl⟩
  by_cases h0 : k = 0
  · have hd : ¬ i < ls.length := by omega
    simp +contextual only [w_l_rCells_1, hd, decide_false, Wp_some, Wp_none, Wp_ite, Wc_some, Wc_none, Wc_ite, Wp_thenRun, seqQ_normal, seqQ_exit, seqQ_ret, Wp_inBlock, blkQ_normal, blkQ_ret, blkQ_same, blkQ_exit, Wp_opThen, opQ_at, Wp_guardP, retQ_normal, retQ_ret, loopQ_normal, loopQ_exit, loopQ_ret, finish_one_eq, finish_one_eq0, finish_two_eq, finish_two_eq0, roots_slice_new, roots_slice_new0, roots_slice_none, roots_ptr_new, roots_ptr_new0, roots_int, roots_bool, roots_str, roots_agg, roots_tup, roots_cons, roots_nil, rename_slice, rename_slice_none, rename_ptr, rename_int, rename_bool, rename_str, rename_agg, rename_tup, rename_cons, rename_nil, keepBlks_nil, keepBlks_cons, flatAll_nil, flatAll_cons, flatBlk_cells, dedup_nil, dedup_one, dedup_two, renum_one, renum_one0, renum_two0, renum_two1, clean_none', clean_some, minEsc_none, minEsc_some, Nat.add_left_cancel_iff, Nat.le_add_right, Nat.le_refl, decide_true, go_sem, entry, joinEsc, if_pos, reduceIte, Nat.reduceAdd, Nat.reduceLeDiff, Nat.reduceLT, Nat.reduceEqDiff]
  · have hd : i < ls.length := by omega
    have hl : ls[i]? = some ls[i] := List.getElem?_eq_getElem hd
    have hw := wrap_succ (show i < 9223372036854775807 by omega)
    simp +contextual only [w_l_rCells_1, h1, h2, hd, hdd, hw, part_encL hl, cv_eq2, Option.map_some, decide_true, Wp_some, Wp_none, Wp_ite, Wc_some, Wc_none, Wc_ite, Wp_thenRun, seqQ_normal, seqQ_exit, seqQ_ret, Wp_inBlock, blkQ_normal, blkQ_ret, blkQ_same, blkQ_exit, Wp_opThen, opQ_at, Wp_guardP, retQ_normal, retQ_ret, loopQ_normal, loopQ_exit, loopQ_ret, go_sem, entry, joinEsc, if_pos, reduceIte, Nat.reduceAdd, Nat.reduceLeDiff, Nat.reduceLT, Nat.reduceEqDiff]
    exact ⟨k - 1, by omega, i + 1, _, _, by omega, rfl⟩

theorem e_l_rCells_none {p1 p2 : Option (Nat × Nat)} {s1 s2 : Nat} {c1 c2 : Option Nat} : call T pr f_l_rCells [.slice p1 s1 0 c1, .slice p2 s2 0 c2] ⟨H, e⟩ = some (.bool true, ⟨H, e⟩) := by
  apply Wc.eq
  rw [call_wc t_l_rCells]
  have h00 : ¬ ((0 : Nat) : Int) < ((0 : Nat) : Int) := by omega
  simp +contextual only [a_l_rCells, c_l_rCells, decide_true, Wp_some, Wp_none, Wp_ite, Wc_some, Wc_none, Wc_ite, Wp_thenRun, seqQ_normal, seqQ_exit, seqQ_ret, Wp_inBlock, blkQ_normal, blkQ_ret, blkQ_same, blkQ_exit, Wp_opThen, opQ_at, Wp_guardP, retQ_normal, retQ_ret, loopQ_normal, loopQ_exit, loopQ_ret, go_sem, entry, joinEsc, if_pos, reduceIte, Nat.reduceAdd, Nat.reduceLeDiff, Nat.reduceLT, Nat.reduceEqDiff]
  refine Wp_loop (fun k st => st = ⟨[.slice p1 s1 0 c1, .slice p2 s2 0 c2, .bool false, .int .i64 0, .bool false, .undef, .undef], ⟨H, none⟩⟩) ?_ 0 _ rfl
  rintro k _ rfl
  simp +contextual only [w_l_rCells_1, h00, show ¬ (0 : Int) < ((0 : Nat) : Int) by omega, decide_false, Wp_some, Wp_none, Wp_ite, Wc_some, Wc_none, Wc_ite, Wp_thenRun, seqQ_normal, seqQ_exit, seqQ_ret, Wp_inBlock, blkQ_normal, blkQ_ret, blkQ_same, blkQ_exit, Wp_opThen, opQ_at, Wp_guardP, retQ_normal, retQ_ret, loopQ_normal, loopQ_exit, loopQ_ret, finish_one_eq, finish_one_eq0, finish_two_eq, finish_two_eq0, roots_slice_new, roots_slice_new0, roots_slice_none, roots_ptr_new, roots_ptr_new0, roots_int, roots_bool, roots_str, roots_agg, roots_tup, roots_cons, roots_nil, rename_slice, rename_slice_none, rename_ptr, rename_int, rename_bool, rename_str, rename_agg, rename_tup, rename_cons, rename_nil, keepBlks_nil, keepBlks_cons, flatAll_nil, flatAll_cons, flatBlk_cells, dedup_nil, dedup_one, dedup_two, renum_one, renum_one0, renum_two0, renum_two1, clean_none', clean_some, minEsc_none, minEsc_some, Nat.add_left_cancel_iff, Nat.le_add_right, Nat.le_refl, decide_true, go_sem, entry, joinEsc, if_pos, reduceIte, Nat.reduceAdd, Nat.reduceLeDiff, Nat.reduceLT, Nat.reduceEqDiff]

structure PB (L : List Blk) (u q um un : Nat) (c : Option Nat) (ls : List Ld) (x a b s m1 m2 : Int) (mv : AV) : Prop where
  bx : cellsAt L u = some [.int .i64 x, .int .i64 a, .int .i64 b, slL q ls.length c, .int .i64 s]
  pq : cellsAt L q = some (encL ls)
  mo : cellsAt L um = some [.int .i64 m1, .int .i64 m2]
  n6 : ls.length ≤ 6
  nx : (partyOk x a b ls s && safeMv x a b ls s m1 m2) = true → ∃ qn, cellsAt L un = some [.int .i64 x, .int .i64 a, .int .i64 b, slL qn ls.length none, .int .i64 s] ∧ cellsAt L qn = some (encL (movd ls m1.toNat m2))
  ms : partyOk x a b ls s = true → ∃ qm cm, mv = slL qm (mvs x a b s ls).length cm ∧ cellsAt L qm = some (encL (mvs x a b s ls))

theorem PB.more {L : List Blk} {u q um un : Nat} {c : Option Nat} {ls : List Ld} {x a b s m1 m2 : Int} {mv : AV} (P : PB L u q um un c ls x a b s m1 m2 mv) (G : List Blk) : PB (L ++ G) u q um un c ls x a b s m1 m2 mv := by
  refine ⟨cells_mono P.bx G, cells_mono P.pq G, cells_mono P.mo G, P.n6, fun h => ?_, fun h => ?_⟩
  · obtain ⟨qn, h1, h2⟩ := P.nx h
    exact ⟨qn, cells_mono h1 G, cells_mono h2 G⟩
  · obtain ⟨qm, cm, h1, h2⟩ := P.ms h
    exact ⟨qm, cm, h1, cells_mono h2 G⟩

set_option maxHeartbeats 4000000 in
theorem pt_18 {L : List Blk} {m0 : Mem} {u q qp u2 q2 um un : Nat} {c d c2 : Option Nat} {ls ls2 : List Ld} {ps : List Int} {x a b s x2 a2 b2 s2 m1 m2 : Int} {wv mv : AV} {w0 w6 w7 w10 w11 w16 w17 w18 w19 w20 w21 w22 w23 w24 w25 w26 w27 w28 w29 w30 w31 w32 w33 w34 w35 w38 w39 w42 w43 w44 w45 w46 w47 w48 w49 w50 w51 w52 w53 w54 w55 w56 w59 w60 w61 : AV} (A : PA L u q qp c d ls ps x a b s) (hW : PWk L wv (fwO x a b s ls ps)) (B : PB L u2 q2 um un c2 ls2 x2 a2 b2 s2 m1 m2 mv) (hm : m0.H.length ≤ L.length) :
    Wp (run T pr (seqTl (seqTl (seqTl (seqTl (seqTl (seqTl (seqTl (seqTl (seqTl (seqTl (seqTl (seqTl (seqTl (seqTl (seqTl (seqTl (seqTl (seqTl c_l_FnParties)))))))))))))))))) ⟨(w0 :: (.bool false) :: (.ptr (some (u, 0))) :: (slI qp ps.length d) :: (wv) :: (.bool (fwO x a b s ls ps).isSome) :: w6 :: w7 :: (.int .i64 ((stpO x a b s ls ps).getD 0)) :: (.bool (stpO x a b s ls ps).isSome) :: w10 :: w11 :: (.ptr (some (u2, 0))) :: (.ptr (some (um, 0))) :: (.ptr (some (un, 0))) :: (.bool (partyOk x2 a2 b2 ls2 s2 && safeMv x2 a2 b2 ls2 s2 m1 m2)) :: w16 :: w17 :: w18 :: w19 :: w20 :: w21 :: w22 :: w23 :: w24 :: w25 :: w26 :: w27 :: w28 :: w29 :: w30 :: w31 :: w32 :: w33 :: w34 :: w35 :: (.undef) :: (.undef) :: w38 :: w39 :: (.undef) :: (.undef) :: w42 :: w43 :: w44 :: w45 :: w46 :: w47 :: w48 :: w49 :: w50 :: w51 :: w52 :: w53 :: w54 :: w55 :: w56 :: (.undef) :: (.undef) :: w59 :: w60 :: w61 :: (.undef) :: (.undef) :: []), ⟨L, none⟩⟩) (retQ a_l_FnParties m0 fun v m => v = .bool true) := by
  obtain ⟨R, hR⟩ : ∃ R, R = (seqTl (seqTl (seqTl (seqTl (seqTl (seqTl (seqTl (seqTl (seqTl (seqTl (seqTl (seqTl (seqTl (seqTl (seqTl (seqTl (seqTl (seqTl (seqTl c_l_FnParties))))))))))))))))))) := ⟨_, rfl⟩
  have hc : (seqTl (seqTl (seqTl (seqTl (seqTl (seqTl (seqTl (seqTl (seqTl (seqTl (seqTl (seqTl (seqTl (seqTl (seqTl (seqTl (seqTl (seqTl c_l_FnParties)))))))))))))))))) = (.seq (seqHd (seqTl (seqTl (seqTl (seqTl (seqTl (seqTl (seqTl (seqTl (seqTl (seqTl (seqTl (seqTl (seqTl (seqTl (seqTl (seqTl (seqTl (seqTl c_l_FnParties))))))))))))))))))) R) := by rw [hR]; rfl
  have r := fun L => @pt_19 pr L m0 u q qp c d ls ps x a b s wv
  rw [← hR] at r
  rw [hc]
  have hbx := B.bx
  have hpq := B.pq
  have hmo := B.mo
  cases hok : (partyOk x2 a2 b2 ls2 s2 && safeMv x2 a2 b2 ls2 s2 m1 m2) with
  | false =>
    simp (maxSteps := 2000000) only [c_l_FnParties, seqTl, seqHd, Bool.false_eq_true, Wp_some, Wp_none, Wp_ite, Wc_some, Wc_none, Wc_ite, Wp_thenRun, seqQ_normal, seqQ_exit, seqQ_ret, Wp_inBlock, blkQ_normal, blkQ_ret, blkQ_same, blkQ_exit, Wp_opThen, opQ_at, Wp_guardP, retQ_normal, retQ_ret, loopQ_normal, loopQ_exit, loopQ_ret, go_sem, entry, joinEsc, if_pos, reduceIte, Nat.reduceAdd, Nat.reduceLeDiff, Nat.reduceLT, Nat.reduceEqDiff]
    exact r L A hW hm
  | true =>
    obtain ⟨qn, hn1, hn2⟩ := B.nx hok
    obtain ⟨g1, g2⟩ := Bool.and_eq_true_iff.mp hok
    obtain ⟨r1, r2⟩ := safe_range g2
    obtain ⟨j, rfl⟩ : ∃ j : Nat, m1 = j := ⟨m1.toNat, by omega⟩
    rw [Int.toNat_natCast] at r2 hn2
    obtain ⟨k1, k2⟩ := move_back g1 g2
    have hl : ls2[j]? = some ls2[j] := List.getElem?_eq_getElem r2
    have hpl : plOf ls2 j = ls2[j].1 := by unfold plOf; rw [hl]; rfl
    have hml : (movd ls2 j m2).length = ls2.length := movd_length _ _ _
    have hbk := e_i_MoveOne (pr := pr) (H := L) (e := none) (c := none) (ls := movd ls2 j m2) (q := qn) (j := j) hn2 x2 a2 b2 s2 (plOf ls2 j) k1 k2
    rw [movd_movd, hml, hpl] at hbk
    have hn6 := B.n6
    have hrp := fun X => e_l_rParty (pr := pr) (H := L ++ .cells (encL ls2) true :: X) (e := none) (b1 := L.length) (b2 := q2) (c1 := none) (c2 := c2) (ls := ls2) (by rw [cellsAt_new0]; rfl) (cells_mono hpq _) (by omega) x2 a2 b2 s2
    have hu : AV.under (L.length + 1 + 1) (slL L.length ls2.length none) = true := by simp [AV.under]; omega
    have hbm := cells_mono hbx
    have hnm := cells_mono hn1
    have hmm := cells_mono hmo
    have hqm := cells_mono hpq
    simp (maxSteps := 2000000) only [c_l_FnParties, seqTl, seqHd, fillParts, hbx, hpq, hmo, hn1, hbm, hnm, hmm, hqm, at02, at12, toNat0, toNat1, r2, part_encL0 _ hl, hbk, hrp, hu, Bool.not_true, Bool.false_eq_true, decide_true, decide_false, if_true, Wp_some, Wp_none, Wp_ite, Wc_some, Wc_none, Wc_ite, Wp_thenRun, seqQ_normal, seqQ_exit, seqQ_ret, Wp_inBlock, blkQ_normal, blkQ_ret, blkQ_same, blkQ_exit, Wp_opThen, opQ_at, Wp_guardP, retQ_normal, retQ_ret, loopQ_normal, loopQ_exit, loopQ_ret, go_sem, entry, joinEsc, if_pos, reduceIte, Nat.reduceAdd, Nat.reduceLeDiff, Nat.reduceLT, Nat.reduceEqDiff]
    exact r _ (A.more _) (hW.more _) (by rw [List.length_append]; omega)

end Go.Proofs.Ythkgpblohjpcdaa.Slim

/- Planks: the law FnParties. -/
namespace Go.Proofs.Ythkgpblohjpcdaa.Slim

open Go

set_option linter.unusedSimpArgs false

set_option linter.unusedVariables false

variable {pr : Prims} {H : List Blk} {e : Option Nat}

theorem cv_cmp2 (x y u v : Int) : eqList [0, 0] [.int .i64 x, .int .i64 y] [.int .i64 u, .int .i64 v] = some (decide (((x, y) : Ld) = (u, v))) := by
  have : (decide (((x, y) : Ld) = (u, v))) = (decide (x = u) && decide (y = v)) := by
    by_cases h1 : x = u <;> by_cases h2 : y = v <;> simp [h1, h2]
  rw [this]
  by_cases h1 : x = u <;> by_cases h2 : y = v <;> simp [eqList, eqCell, h1, h2]

set_option maxHeartbeats 4000000 in
theorem pt_loop1 {L : List Blk} {um qm : Nat} {cm : Option Nat} {M : List Ld} {m1 m2 : Int} {w0 w1 w2 w3 w4 w5 w6 w7 w8 w9 w10 w11 w12 w14 w15 w16 w17 w19 w20 w21 w22 w23 w24 w25 w26 w27 w28 w29 w30 w31 w34 w35 w36 w37 w38 w39 w40 w41 w42 w43 w44 w45 w46 w47 w48 w49 w50 w51 w53 w54 w55 w56 w57 w58 w59 w60 w61 w62 w63 : AV} (hmo : cellsAt L um = some [.int .i64 m1, .int .i64 m2]) (hqm : cellsAt L qm = some (encL M)) (hn : M.length ≤ 1000) :
    Wp (run T pr (.loop w_l_FnParties_1) ⟨(w0 :: w1 :: w2 :: w3 :: w4 :: w5 :: w6 :: w7 :: w8 :: w9 :: w10 :: w11 :: w12 :: (.ptr (some (um, 0))) :: w14 :: w15 :: w16 :: w17 :: (slL qm M.length cm) :: w19 :: w20 :: w21 :: w22 :: w23 :: w24 :: w25 :: w26 :: w27 :: w28 :: w29 :: w30 :: w31 :: (.bool false) :: (.int .i64 0) :: w34 :: w35 :: w36 :: w37 :: w38 :: w39 :: w40 :: w41 :: w42 :: w43 :: w44 :: w45 :: w46 :: w47 :: w48 :: w49 :: w50 :: w51 :: (.undef) :: w53 :: w54 :: w55 :: w56 :: w57 :: w58 :: w59 :: w60 :: w61 :: w62 :: w63 :: []), ⟨L, none⟩⟩)
      (fun ex st => ex = .exit 0 ∧ ∃ (v33 v52 : AV), st = ⟨(w0 :: w1 :: w2 :: w3 :: w4 :: w5 :: w6 :: w7 :: w8 :: w9 :: w10 :: w11 :: w12 :: (.ptr (some (um, 0))) :: w14 :: w15 :: w16 :: w17 :: (slL qm M.length cm) :: w19 :: w20 :: w21 :: w22 :: w23 :: w24 :: w25 :: w26 :: w27 :: w28 :: w29 :: w30 :: w31 :: (.bool (decide (((m1, m2) : Ld) ∈ M))) :: (v33) :: w34 :: w35 :: w36 :: w37 :: w38 :: w39 :: w40 :: w41 :: w42 :: w43 :: w44 :: w45 :: w46 :: w47 :: w48 :: w49 :: w50 :: w51 :: (v52) :: w53 :: w54 :: w55 :: w56 :: w57 :: w58 :: w59 :: w60 :: w61 :: w62 :: w63 :: []), ⟨L, none⟩⟩) := by
  refine Wp_loop (fun r st => ∃ (j : Nat) (f : Bool) (v52 : AV), j + r = M.length ∧ f = decide (((m1, m2) : Ld) ∈ M.take j) ∧ st = ⟨(w0 :: w1 :: w2 :: w3 :: w4 :: w5 :: w6 :: w7 :: w8 :: w9 :: w10 :: w11 :: w12 :: (.ptr (some (um, 0))) :: w14 :: w15 :: w16 :: w17 :: (slL qm M.length cm) :: w19 :: w20 :: w21 :: w22 :: w23 :: w24 :: w25 :: w26 :: w27 :: w28 :: w29 :: w30 :: w31 :: (.bool f) :: (.int .i64 j) :: w34 :: w35 :: w36 :: w37 :: w38 :: w39 :: w40 :: w41 :: w42 :: w43 :: w44 :: w45 :: w46 :: w47 :: w48 :: w49 :: w50 :: w51 :: (v52) :: w53 :: w54 :: w55 :: w56 :: w57 :: w58 :: w59 :: w60 :: w61 :: w62 :: w63 :: []), ⟨L, none⟩⟩) ?_ M.length _ ⟨0, false, _, by omega, by simp, rfl⟩
  rintro r _ ⟨j, f, v52, hj, hf, rfl⟩
  by_cases hr : r = 0
  · have he : j = M.length := by omega
    subst he
    rw [List.take_length] at hf
    simp (maxSteps := 2000000) only [w_l_FnParties_1, Nat.lt_irrefl, decide_false, Wp_some, Wp_none, Wp_ite, Wc_some, Wc_none, Wc_ite, Wp_thenRun, seqQ_normal, seqQ_exit, seqQ_ret, Wp_inBlock, blkQ_normal, blkQ_ret, blkQ_same, blkQ_exit, Wp_opThen, opQ_at, Wp_guardP, retQ_normal, retQ_ret, loopQ_normal, loopQ_exit, loopQ_ret, go_sem, entry, joinEsc, if_pos, reduceIte, Nat.reduceAdd, Nat.reduceLeDiff, Nat.reduceLT, Nat.reduceEqDiff]
    rw [← hf]
    exact ⟨_, _, rfl⟩
  · have hjl : j < M.length := by omega
    have hw := wrap_succ (show j < 9223372036854775807 by omega)
    have hl : M[j]? = some M[j] := List.getElem?_eq_getElem hjl
    have hnext : decide (((m1, m2) : Ld) ∈ M.take (j + 1)) = (f || decide (((M[j].1, M[j].2) : Ld) = (m1, m2))) := by
      rw [hf, List.take_add_one, hl]
      simp only [Option.toList_some, List.mem_append, List.mem_singleton, Bool.decide_or]
      congr 1
      exact decide_eq_decide.mpr ⟨fun h => h.symm, fun h => h.symm⟩
    cases f with
    | true =>
      simp (maxSteps := 2000000) only [w_l_FnParties_1, hjl, hw, decide_true, Bool.true_eq_false, Wp_some, Wp_none, Wp_ite, Wc_some, Wc_none, Wc_ite, Wp_thenRun, seqQ_normal, seqQ_exit, seqQ_ret, Wp_inBlock, blkQ_normal, blkQ_ret, blkQ_same, blkQ_exit, Wp_opThen, opQ_at, Wp_guardP, retQ_normal, retQ_ret, loopQ_normal, loopQ_exit, loopQ_ret, go_sem, entry, joinEsc, if_pos, reduceIte, Nat.reduceAdd, Nat.reduceLeDiff, Nat.reduceLT, Nat.reduceEqDiff]
      exact ⟨r - 1, by omega, j + 1, true, _, by omega, by rw [hnext]; rfl, rfl⟩
    | false =>
      simp (maxSteps := 2000000) only [w_l_FnParties_1, hjl, hqm, hmo, part_encL hl, cv_cmp2, hw, Option.map_some, decide_true, Bool.false_eq_true, if_false, Wp_some, Wp_none, Wp_ite, Wc_some, Wc_none, Wc_ite, Wp_thenRun, seqQ_normal, seqQ_exit, seqQ_ret, Wp_inBlock, blkQ_normal, blkQ_ret, blkQ_same, blkQ_exit, Wp_opThen, opQ_at, Wp_guardP, retQ_normal, retQ_ret, loopQ_normal, loopQ_exit, loopQ_ret, go_sem, entry, joinEsc, if_pos, reduceIte, Nat.reduceAdd, Nat.reduceLeDiff, Nat.reduceLT, Nat.reduceEqDiff]
      exact ⟨r - 1, by omega, j + 1, _, _, by omega, by rw [hnext]; simp, rfl⟩

set_option maxHeartbeats 4000000 in
theorem pt_17 {L : List Blk} {m0 : Mem} {u q qp u2 q2 um un : Nat} {c d c2 : Option Nat} {ls ls2 : List Ld} {ps : List Int} {x a b s x2 a2 b2 s2 m1 m2 : Int} {wv mv : AV} {w0 w6 w7 w10 w11 w16 w17 w20 w21 w22 w23 w24 w25 w26 w27 w28 w29 w30 w31 w34 w35 w38 w39 w42 w43 w44 w45 w46 w47 w48 w49 w50 w51 w53 w54 w55 w56 w59 w60 w61 : AV} (A : PA L u q qp c d ls ps x a b s) (hW : PWk L wv (fwO x a b s ls ps)) (B : PB L u2 q2 um un c2 ls2 x2 a2 b2 s2 m1 m2 mv) (hm : m0.H.length ≤ L.length) :
    Wp (run T pr (seqTl (seqTl (seqTl (seqTl (seqTl (seqTl (seqTl (seqTl (seqTl (seqTl (seqTl (seqTl (seqTl (seqTl (seqTl (seqTl (seqTl c_l_FnParties))))))))))))))))) ⟨(w0 :: (.bool false) :: (.ptr (some (u, 0))) :: (slI qp ps.length d) :: (wv) :: (.bool (fwO x a b s ls ps).isSome) :: w6 :: w7 :: (.int .i64 ((stpO x a b s ls ps).getD 0)) :: (.bool (stpO x a b s ls ps).isSome) :: w10 :: w11 :: (.ptr (some (u2, 0))) :: (.ptr (some (um, 0))) :: (.ptr (some (un, 0))) :: (.bool (partyOk x2 a2 b2 ls2 s2 && safeMv x2 a2 b2 ls2 s2 m1 m2)) :: w16 :: w17 :: (mv) :: (.bool (partyOk x2 a2 b2 ls2 s2)) :: w20 :: w21 :: w22 :: w23 :: w24 :: w25 :: w26 :: w27 :: w28 :: w29 :: w30 :: w31 :: (.undef) :: (.undef) :: w34 :: w35 :: (.undef) :: (.undef) :: w38 :: w39 :: (.undef) :: (.undef) :: w42 :: w43 :: w44 :: w45 :: w46 :: w47 :: w48 :: w49 :: w50 :: w51 :: (.undef) :: w53 :: w54 :: w55 :: w56 :: (.undef) :: (.undef) :: w59 :: w60 :: w61 :: (.undef) :: (.undef) :: []), ⟨L, none⟩⟩) (retQ a_l_FnParties m0 fun v m => v = .bool true) := by
  obtain ⟨R, hR⟩ : ∃ R, R = (seqTl (seqTl (seqTl (seqTl (seqTl (seqTl (seqTl (seqTl (seqTl (seqTl (seqTl (seqTl (seqTl (seqTl (seqTl (seqTl (seqTl (seqTl c_l_FnParties)))))))))))))))))) := ⟨_, rfl⟩
  have hc : (seqTl (seqTl (seqTl (seqTl (seqTl (seqTl (seqTl (seqTl (seqTl (seqTl (seqTl (seqTl (seqTl (seqTl (seqTl (seqTl (seqTl c_l_FnParties))))))))))))))))) = (.seq (seqHd (seqTl (seqTl (seqTl (seqTl (seqTl (seqTl (seqTl (seqTl (seqTl (seqTl (seqTl (seqTl (seqTl (seqTl (seqTl (seqTl (seqTl c_l_FnParties)))))))))))))))))) R) := by rw [hR]; rfl
  have r := @pt_18 pr L m0 u q qp u2 q2 um un c d c2 ls ls2 ps x a b s x2 a2 b2 s2 m1 m2 wv mv
  rw [← hR] at r
  rw [hc]
  cases hok : partyOk x2 a2 b2 ls2 s2 with
  | false =>
    rw [hok] at r
    simp (maxSteps := 2000000) only [c_l_FnParties, seqTl, seqHd, Bool.false_eq_true, Wp_some, Wp_none, Wp_ite, Wc_some, Wc_none, Wc_ite, Wp_thenRun, seqQ_normal, seqQ_exit, seqQ_ret, Wp_inBlock, blkQ_normal, blkQ_ret, blkQ_same, blkQ_exit, Wp_opThen, opQ_at, Wp_guardP, retQ_normal, retQ_ret, loopQ_normal, loopQ_exit, loopQ_ret, go_sem, entry, joinEsc, if_pos, reduceIte, Nat.reduceAdd, Nat.reduceLeDiff, Nat.reduceLT, Nat.reduceEqDiff]
    exact r A hW B hm
  | true =>
    obtain ⟨qm, cm, rfl, hqm⟩ := B.ms hok
    obtain ⟨f1, f2, f3⟩ := party_facts hok
    have hx := (plk_of hok).x12
    have hmem := mem_mvs (x := x2) (a := a2) (b := b2) f2 f3 (by omega) (m1, m2)
    have hMn : (mvs x2 a2 b2 s2 ls2).length ≤ 6 := Nat.le_trans (mvs_le x2 a2 b2 s2 ls2 _ _) (by omega)
    rw [hok] at r
    simp (maxSteps := 2000000) only [c_l_FnParties, seqTl, seqHd, Bool.true_and, Wp_some, Wp_none, Wp_ite, Wc_some, Wc_none, Wc_ite, Wp_thenRun, seqQ_normal, seqQ_exit, seqQ_ret, Wp_inBlock, blkQ_normal, blkQ_ret, blkQ_same, blkQ_exit, Wp_opThen, opQ_at, Wp_guardP, retQ_normal, retQ_ret, loopQ_normal, loopQ_exit, loopQ_ret, go_sem, entry, joinEsc, if_pos, reduceIte, Nat.reduceAdd, Nat.reduceLeDiff, Nat.reduceLT, Nat.reduceEqDiff]
    refine (pt_loop1 (pr := pr) B.mo hqm (by omega)).mono ?_
    rintro _ _ ⟨rfl, v33, v52, rfl⟩
    rw [hmem]
    simp (maxSteps := 2000000) only [beq_self_eq_true, decide_true, Bool.not_true, Bool.false_eq_true, Wp_some, Wp_none, Wp_ite, Wc_some, Wc_none, Wc_ite, Wp_thenRun, seqQ_normal, seqQ_exit, seqQ_ret, Wp_inBlock, blkQ_normal, blkQ_ret, blkQ_same, blkQ_exit, Wp_opThen, opQ_at, Wp_guardP, retQ_normal, retQ_ret, loopQ_normal, loopQ_exit, loopQ_ret, go_sem, entry, joinEsc, if_pos, reduceIte, Nat.reduceAdd, Nat.reduceLeDiff, Nat.reduceLT, Nat.reduceEqDiff]
    exact r A hW B hm

set_option maxHeartbeats 4000000 in
theorem pt_12 {L : List Blk} {m0 : Mem} {u q qp u2 q2 um un : Nat} {c d c2 : Option Nat} {ls ls2 : List Ld} {ps : List Int} {x a b s x2 a2 b2 s2 m1 m2 : Int} {wv mv av : AV} {w6 w7 w10 w11 w16 w17 w20 w21 w22 w23 w24 w25 w26 w27 w28 w29 w30 w31 w34 w35 w38 w39 w42 w43 w44 w45 w46 w47 w48 w49 w50 w51 w53 w54 w55 w56 w59 w60 w61 : AV} (hcode : CodeAt L av) (A : PA L u q qp c d ls ps x a b s) (hW : PWk L wv (fwO x a b s ls ps)) (B : PB L u2 q2 um un c2 ls2 x2 a2 b2 s2 m1 m2 mv) (hm : m0.H.length ≤ L.length) :
    Wp (run T pr (seqTl (seqTl (seqTl (seqTl (seqTl (seqTl (seqTl (seqTl (seqTl (seqTl (seqTl (seqTl c_l_FnParties)))))))))))) ⟨((av) :: (.bool false) :: (.ptr (some (u, 0))) :: (slI qp ps.length d) :: (wv) :: (.bool (fwO x a b s ls ps).isSome) :: w6 :: w7 :: (.int .i64 ((stpO x a b s ls ps).getD 0)) :: (.bool (stpO x a b s ls ps).isSome) :: w10 :: w11 :: (.ptr (some (u2, 0))) :: (.ptr (some (um, 0))) :: (.ptr (some (un, 0))) :: (.bool (partyOk x2 a2 b2 ls2 s2 && safeMv x2 a2 b2 ls2 s2 m1 m2)) :: w16 :: w17 :: (mv) :: (.bool (partyOk x2 a2 b2 ls2 s2)) :: w20 :: w21 :: w22 :: w23 :: w24 :: w25 :: w26 :: w27 :: w28 :: w29 :: w30 :: w31 :: (.undef) :: (.undef) :: w34 :: w35 :: (.undef) :: (.undef) :: w38 :: w39 :: (.undef) :: (.undef) :: w42 :: w43 :: w44 :: w45 :: w46 :: w47 :: w48 :: w49 :: w50 :: w51 :: (.undef) :: w53 :: w54 :: w55 :: w56 :: (.undef) :: (.undef) :: w59 :: w60 :: w61 :: (.undef) :: (.undef) :: []), ⟨L, none⟩⟩) (retQ a_l_FnParties m0 fun v m => v = .bool true) := by
  obtain ⟨R, hR⟩ : ∃ R, R = (seqTl (seqTl (seqTl (seqTl (seqTl (seqTl (seqTl (seqTl (seqTl (seqTl (seqTl (seqTl (seqTl (seqTl (seqTl (seqTl (seqTl c_l_FnParties))))))))))))))))) := ⟨_, rfl⟩
  have hc : (seqTl (seqTl (seqTl (seqTl (seqTl (seqTl (seqTl (seqTl (seqTl (seqTl (seqTl (seqTl c_l_FnParties)))))))))))) = (.seq (seqHd (seqTl (seqTl (seqTl (seqTl (seqTl (seqTl (seqTl (seqTl (seqTl (seqTl (seqTl (seqTl c_l_FnParties))))))))))))) (.seq (seqHd (seqTl (seqTl (seqTl (seqTl (seqTl (seqTl (seqTl (seqTl (seqTl (seqTl (seqTl (seqTl (seqTl c_l_FnParties)))))))))))))) (.seq (seqHd (seqTl (seqTl (seqTl (seqTl (seqTl (seqTl (seqTl (seqTl (seqTl (seqTl (seqTl (seqTl (seqTl (seqTl c_l_FnParties))))))))))))))) (.seq (seqHd (seqTl (seqTl (seqTl (seqTl (seqTl (seqTl (seqTl (seqTl (seqTl (seqTl (seqTl (seqTl (seqTl (seqTl (seqTl c_l_FnParties)))))))))))))))) (.seq (seqHd (seqTl (seqTl (seqTl (seqTl (seqTl (seqTl (seqTl (seqTl (seqTl (seqTl (seqTl (seqTl (seqTl (seqTl (seqTl (seqTl c_l_FnParties))))))))))))))))) R))))) := by rw [hR]; rfl
  have r := fun L => @pt_17 pr L m0 u q qp u2 q2 um un c d c2 ls ls2 ps x a b s x2 a2 b2 s2 m1 m2 wv mv
  rw [← hR] at r
  rw [hc]
  simp (maxSteps := 2000000) only [c_l_FnParties, seqTl, seqHd, Wp_some, Wp_none, Wp_ite, Wc_some, Wc_none, Wc_ite, Wp_thenRun, seqQ_normal, seqQ_exit, seqQ_ret, Wp_inBlock, blkQ_normal, blkQ_ret, blkQ_same, blkQ_exit, Wp_opThen, opQ_at, Wp_guardP, retQ_normal, retQ_ret, loopQ_normal, loopQ_exit, loopQ_ret, go_sem, entry, joinEsc, if_pos, reduceIte, Nat.reduceAdd, Nat.reduceLeDiff, Nat.reduceLT, Nat.reduceEqDiff]
  refine (wc_DrawWalkTo hcode).mono ?_
  rintro v m ⟨ls3, ws, c3, d3, x3, a3, b3, s3, rfl, hn3, hw3, rfl⟩
  have hu : AV.under (L.length + 2 + 1) (slL L.length ls3.length c3) = true := by simp [AV.under]; omega
  have hp3 : ∀ X, cellsAt (L ++ .cells (encL ls3) true :: .cells (encL ws) true :: X) L.length = some (encL ls3) := fun X => by rw [cellsAt_new0]; rfl
  have hq3 : ∀ X, cellsAt (L ++ .cells (encL ls3) true :: .cells (encL ws) true :: X) (L.length + 1) = some (encL ws) := fun X => by rw [cellsAt_newk]; rfl
  have i1 := fun X => e_i_IsWalkOn (pr := pr) (e := none) (c := c3) (cw := d3) (hp3 X) (hq3 X) (by omega) (by omega) x3 a3 b3 s3
  have i2 := fun X => e_s_IsWalkOn (pr := pr) (e := none) (c := c3) (cw := d3) (hp3 X) (hq3 X) (by omega) x3 a3 b3 s3
  cases hok : (partyOk x3 a3 b3 ls3 s3 && walkOk x3 a3 b3 s3 ls3 ws) with
  | false =>
    have j1 := fun X => e_i_WalkTo_no (pr := pr) (e := none) (c := c3) (cw := d3) (hp3 X) (hq3 X) (by omega) (by omega) x3 a3 b3 s3 hok
    have j2 := fun X => e_s_WalkTo_no (pr := pr) (e := none) (c := c3) (cw := d3) (hp3 X) (hq3 X) (by omega) x3 a3 b3 s3 hok
    rw [hok] at i1 i2
    have j3 := fun X : List Blk => e_l_rParty_no (pr := pr) (H := X) (e := none)
    obtain ⟨ok3, hok3⟩ : ∃ ok3, ok3 = partyOk x3 a3 b3 ls3 s3 := ⟨_, rfl⟩
    rw [← hok3] at i1 i2
    cases ok3 <;> simp (maxSteps := 2000000) only [fillParts, hu, i1, i2, j1, j2, j3, under_sliceN, beq_self_eq_true, decide_true, decide_false, Bool.not_true, Bool.not_false, Bool.false_eq_true, if_true, Wp_some, Wp_none, Wp_ite, Wc_some, Wc_none, Wc_ite, Wp_thenRun, seqQ_normal, seqQ_exit, seqQ_ret, Wp_inBlock, blkQ_normal, blkQ_ret, blkQ_same, blkQ_exit, Wp_opThen, opQ_at, Wp_guardP, retQ_normal, retQ_ret, loopQ_normal, loopQ_exit, loopQ_ret, go_sem, entry, joinEsc, if_pos, reduceIte, Nat.reduceAdd, Nat.reduceLeDiff, Nat.reduceLT, Nat.reduceEqDiff]
    · exact r _ (A.more _) (hW.more _) (B.more _) (by rw [List.length_append]; omega)
    · exact r _ (A.more _) (hW.more _) (B.more _) (by rw [List.length_append]; omega)
  | true =>
    obtain ⟨g1, g2⟩ := Bool.and_eq_true_iff.mp hok
    have g3 := g2
    unfold walkOk at g2
    obtain ⟨h60, hsome⟩ := Bool.and_eq_true_iff.mp g2
    have h60 := of_decide_eq_true h60
    obtain ⟨r3, hr3⟩ := Option.isSome_iff_exists.mp hsome
    have hlen := walkW_length _ _ _ hr3
    have j1 := fun X => e_i_WalkTo (pr := pr) (e := none) (c := c3) (cw := d3) (hp3 X) (hq3 X) x3 a3 b3 s3 g1 h60 hr3
    have j2 := fun X => e_s_WalkTo (pr := pr) (e := none) (c := c3) (cw := d3) (hp3 X) (hq3 X) x3 a3 b3 s3 g1 h60 hr3
    have j3 := fun L b1 b2 h1 h2 => e_l_rParty (pr := pr) (H := L) (e := none) (b1 := b1) (b2 := b2) (c1 := none) (c2 := none) (ls := r3) h1 h2 (by omega) x3 a3 b3 s3
    rw [hlen] at j3
    rw [hok, g1] at i1 i2
    have hu3 : AV.under (L.length + 4 + 1) (slL (L.length + 3) ls3.length none) = true := by simp [AV.under]
    have hu5 : AV.under (L.length + 6 + 1) (slL (L.length + 5) ls3.length none) = true := by simp [AV.under]
    simp (maxSteps := 2000000) +contextual only [fillParts, hu, hu3, hu5, i1, i2, j1, j2, j3, beq_self_eq_true, decide_true, decide_false, Bool.not_true, Bool.not_false, Bool.false_eq_true, if_true, Wp_some, Wp_none, Wp_ite, Wc_some, Wc_none, Wc_ite, Wp_thenRun, seqQ_normal, seqQ_exit, seqQ_ret, Wp_inBlock, blkQ_normal, blkQ_ret, blkQ_same, blkQ_exit, Wp_opThen, opQ_at, Wp_guardP, retQ_normal, retQ_ret, loopQ_normal, loopQ_exit, loopQ_ret, go_sem, entry, joinEsc, if_pos, reduceIte, Nat.reduceAdd, Nat.reduceLeDiff, Nat.reduceLT, Nat.reduceEqDiff]
    exact r _ (A.more _) (hW.more _) (B.more _) (by rw [List.length_append]; omega)

theorem pt_12b {L : List Blk} {m0 : Mem} {u q qp u2 q2 um un : Nat} {c d c2 : Option Nat} {ls ls2 : List Ld} {ps : List Int} {x a b s x2 a2 b2 s2 m1 m2 : Int} {two three : Bool} {wv mv av : AV} {w6 w7 w10 w11 w16 w17 w20 w21 w22 w23 w24 w25 w26 w27 w28 w29 w30 w31 w34 w35 w38 w39 w42 w43 w44 w45 w46 w47 w48 w49 w50 w51 w53 w54 w55 w56 w59 w60 w61 : AV} (hcode : CodeAt L av) (A : PA L u q qp c d ls ps x a b s) (hW : PWk L wv (fwO x a b s ls ps)) (B : PB L u2 q2 um un c2 ls2 x2 a2 b2 s2 m1 m2 mv) (hm : m0.H.length ≤ L.length) (h2 : (partyOk x2 a2 b2 ls2 s2 && safeMv x2 a2 b2 ls2 s2 m1 m2) = two) (h3 : partyOk x2 a2 b2 ls2 s2 = three) :
    Wp (run T pr (seqTl (seqTl (seqTl (seqTl (seqTl (seqTl (seqTl (seqTl (seqTl (seqTl (seqTl (seqTl c_l_FnParties)))))))))))) ⟨((av) :: (.bool false) :: (.ptr (some (u, 0))) :: (slI qp ps.length d) :: (wv) :: (.bool (fwO x a b s ls ps).isSome) :: w6 :: w7 :: (.int .i64 ((stpO x a b s ls ps).getD 0)) :: (.bool (stpO x a b s ls ps).isSome) :: w10 :: w11 :: (.ptr (some (u2, 0))) :: (.ptr (some (um, 0))) :: (.ptr (some (un, 0))) :: (.bool two) :: w16 :: w17 :: (mv) :: (.bool three) :: w20 :: w21 :: w22 :: w23 :: w24 :: w25 :: w26 :: w27 :: w28 :: w29 :: w30 :: w31 :: (.undef) :: (.undef) :: w34 :: w35 :: (.undef) :: (.undef) :: w38 :: w39 :: (.undef) :: (.undef) :: w42 :: w43 :: w44 :: w45 :: w46 :: w47 :: w48 :: w49 :: w50 :: w51 :: (.undef) :: w53 :: w54 :: w55 :: w56 :: (.undef) :: (.undef) :: w59 :: w60 :: w61 :: (.undef) :: (.undef) :: []), ⟨L, none⟩⟩) (retQ a_l_FnParties m0 fun v m => v = .bool true) := by
  subst h2 h3
  exact pt_12 hcode A hW B hm

set_option maxHeartbeats 8000000 in
theorem pt_7 {L : List Blk} {m0 : Mem} {u q qp : Nat} {c d : Option Nat} {ls : List Ld} {ps : List Int} {x a b s : Int} {wv av : AV} {w6 w7 w10 w11 w12 w13 w14 w15 w16 w17 w18 w19 w20 w21 w22 w23 w24 w25 w26 w27 w28 w29 w30 w31 w34 w35 w38 w39 w42 w43 w44 w45 w46 w47 w48 w49 w50 w51 w53 w54 w55 w56 w59 w60 w61 : AV} (hcode : CodeAt L av) (A : PA L u q qp c d ls ps x a b s) (hW : PWk L wv (fwO x a b s ls ps)) (hm : m0.H.length ≤ L.length) :
    Wp (run T pr (seqTl (seqTl (seqTl (seqTl (seqTl (seqTl (seqTl c_l_FnParties))))))) ⟨((av) :: (.bool false) :: (.ptr (some (u, 0))) :: (slI qp ps.length d) :: (wv) :: (.bool (fwO x a b s ls ps).isSome) :: w6 :: w7 :: (.int .i64 ((stpO x a b s ls ps).getD 0)) :: (.bool (stpO x a b s ls ps).isSome) :: w10 :: w11 :: w12 :: w13 :: w14 :: w15 :: w16 :: w17 :: w18 :: w19 :: w20 :: w21 :: w22 :: w23 :: w24 :: w25 :: w26 :: w27 :: w28 :: w29 :: w30 :: w31 :: (.undef) :: (.undef) :: w34 :: w35 :: (.undef) :: (.undef) :: w38 :: w39 :: (.undef) :: (.undef) :: w42 :: w43 :: w44 :: w45 :: w46 :: w47 :: w48 :: w49 :: w50 :: w51 :: (.undef) :: w53 :: w54 :: w55 :: w56 :: (.undef) :: (.undef) :: w59 :: w60 :: w61 :: (.undef) :: (.undef) :: []), ⟨L, none⟩⟩) (retQ a_l_FnParties m0 fun v m => v = .bool true) := by
  obtain ⟨R, hR⟩ : ∃ R, R = (seqTl (seqTl (seqTl (seqTl (seqTl (seqTl (seqTl (seqTl (seqTl (seqTl (seqTl (seqTl c_l_FnParties)))))))))))) := ⟨_, rfl⟩
  have hc : (seqTl (seqTl (seqTl (seqTl (seqTl (seqTl (seqTl c_l_FnParties))))))) = (.seq (seqHd (seqTl (seqTl (seqTl (seqTl (seqTl (seqTl (seqTl c_l_FnParties)))))))) (.seq (seqHd (seqTl (seqTl (seqTl (seqTl (seqTl (seqTl (seqTl (seqTl c_l_FnParties))))))))) (.seq (seqHd (seqTl (seqTl (seqTl (seqTl (seqTl (seqTl (seqTl (seqTl (seqTl c_l_FnParties)))))))))) (.seq (seqHd (seqTl (seqTl (seqTl (seqTl (seqTl (seqTl (seqTl (seqTl (seqTl (seqTl c_l_FnParties))))))))))) (.seq (seqHd (seqTl (seqTl (seqTl (seqTl (seqTl (seqTl (seqTl (seqTl (seqTl (seqTl (seqTl c_l_FnParties)))))))))))) R))))) := by rw [hR]; rfl
  rw [hc]
  simp (maxSteps := 2000000) only [c_l_FnParties, seqTl, seqHd, Wp_some, Wp_none, Wp_ite, Wc_some, Wc_none, Wc_ite, Wp_thenRun, seqQ_normal, seqQ_exit, seqQ_ret, Wp_inBlock, blkQ_normal, blkQ_ret, blkQ_same, blkQ_exit, Wp_opThen, opQ_at, Wp_guardP, retQ_normal, retQ_ret, loopQ_normal, loopQ_exit, loopQ_ret, go_sem, entry, joinEsc, if_pos, reduceIte, Nat.reduceAdd, Nat.reduceLeDiff, Nat.reduceLT, Nat.reduceEqDiff]
  refine (wc_DrawMoveOne hcode).mono ?_
  rintro v m ⟨ls2, c2, x2, a2, b2, s2, m1, m2, rfl, hn2, rfl⟩
  have hu : AV.under (L.length + 1 + 1) (slL L.length ls2.length c2) = true := by simp [AV.under]; omega
  have hp2 : ∀ X, cellsAt (L ++ .cells (encL ls2) true :: X) L.length = some (encL ls2) := fun X => by rw [cellsAt_new0]; rfl
  have hip := fun X => e_i_IsParty (pr := pr) (e := none) (c := c2) (hp2 X) (by omega) x2 a2 b2 s2
  have r := fun L => @pt_12b pr L m0 u q qp
  rw [← hR] at r
  obtain ⟨BX, hBX⟩ : ∃ BX : Blk, BX = .cells [.int .i64 x2, .int .i64 a2, .int .i64 b2, slL L.length ls2.length c2, .int .i64 s2] true := ⟨_, rfl⟩
  obtain ⟨BM, hBM⟩ : ∃ BM : Blk, BM = .cells [.int .i64 m1, .int .i64 m2] true := ⟨_, rfl⟩
  cases hok : partyOk x2 a2 b2 ls2 s2 with
  | false =>
    have hno : (partyOk x2 a2 b2 ls2 s2 && safeMv x2 a2 b2 ls2 s2 m1 m2) = false := by rw [hok]; rfl
    have i1 := fun X => e_i_MoveOne_no (pr := pr) (e := none) (c := c2) (hp2 X) (by omega) x2 a2 b2 s2 m1 m2 hno
    have i2 := fun X => e_s_MoveOne_no (pr := pr) (e := none) (c := c2) (hp2 X) (by omega) x2 a2 b2 s2 m1 m2 hno
    have i3 := fun X => e_i_SafeMoves_no (pr := pr) (e := none) (c := c2) (hp2 X) (by omega) x2 a2 b2 s2 hok
    have i4 := fun X => e_s_SafeMoves_no (pr := pr) (e := none) (c := c2) (hp2 X) (by omega) x2 a2 b2 s2 hok
    have j3 := fun X : List Blk => e_l_rParty_no (pr := pr) (H := X) (e := none)
    have j4 := fun (X : List Blk) p1 p2 s1 s2 c1 c2 => e_l_rCells_none (pr := pr) (H := X) (e := none) (p1 := p1) (p2 := p2) (s1 := s1) (s2 := s2) (c1 := c1) (c2 := c2)
    rw [hok] at hip
    simp (maxSteps := 2000000) only [fillParts, hu, hip, i1, i2, i3, i4, j3, j4, under_sliceN, beq_self_eq_true, decide_true, decide_false, Bool.not_true, Bool.not_false, Bool.false_eq_true, if_true, Wp_some, Wp_none, Wp_ite, Wc_some, Wc_none, Wc_ite, Wp_thenRun, seqQ_normal, seqQ_exit, seqQ_ret, Wp_inBlock, blkQ_normal, blkQ_ret, blkQ_same, blkQ_exit, Wp_opThen, opQ_at, Wp_guardP, retQ_normal, retQ_ret, loopQ_normal, loopQ_exit, loopQ_ret, go_sem, entry, joinEsc, if_pos, reduceIte, Nat.reduceAdd, Nat.reduceLeDiff, Nat.reduceLT, Nat.reduceEqDiff]
    have B : ∀ (mv : AV) (X : List Blk), PB (L ++ (.cells (encL ls2) true :: BX :: BM :: X)) (L.length + 1) L.length (L.length + 2) (L.length + 3) c2 ls2 x2 a2 b2 s2 m1 m2 mv := fun mv X =>
      ⟨by rw [cellsAt_newk, hBX]; rfl, hp2 _, by rw [cellsAt_newk, hBM]; rfl, hn2, (fun h => by rw [hno] at h; cases h), (fun h => by rw [hok] at h; cases h)⟩
    rw [← hBX, ← hBM]
    exact r _ (hcode.more _) (A.more _) (hW.more _) (B _ _) (by rw [List.length_append]; omega) hno hok
  | true =>
    have hn3 := (plk_of hok).n3
    obtain ⟨k1, i3⟩ : ∃ k1 : List Blk → Option Nat, ∀ X, call T pr f_i_SafeMoves [ptV x2 a2 b2 (slL L.length ls2.length c2) s2] ⟨L ++ .cells (encL ls2) true :: X, none⟩ = some (.tup [slL (L ++ .cells (encL ls2) true :: X).length (mvs x2 a2 b2 s2 ls2).length (k1 X), .bool true], ⟨(L ++ .cells (encL ls2) true :: X) ++ [.cells (encL (mvs x2 a2 b2 s2 ls2)) true], none⟩) :=
      ⟨fun X => (e_i_SafeMoves (pr := pr) (e := none) (c := c2) (hp2 X) x2 a2 b2 s2 hok).choose, fun X => (e_i_SafeMoves (pr := pr) (e := none) (c := c2) (hp2 X) x2 a2 b2 s2 hok).choose_spec⟩
    obtain ⟨k2, i4⟩ : ∃ k2 : List Blk → Option Nat, ∀ X, call T pr f_s_SafeMoves [ptV x2 a2 b2 (slL L.length ls2.length c2) s2] ⟨L ++ .cells (encL ls2) true :: X, none⟩ = some (.tup [slL (L ++ .cells (encL ls2) true :: X).length (mvs x2 a2 b2 s2 ls2).length (k2 X), .bool true], ⟨(L ++ .cells (encL ls2) true :: X) ++ [.cells (encL (mvs x2 a2 b2 s2 ls2)) true], none⟩) :=
      ⟨fun X => (e_s_SafeMoves (pr := pr) (e := none) (c := c2) (hp2 X) x2 a2 b2 s2 hok).choose, fun X => (e_s_SafeMoves (pr := pr) (e := none) (c := c2) (hp2 X) x2 a2 b2 s2 hok).choose_spec⟩
    obtain ⟨M, hM⟩ : ∃ M, M = mvs x2 a2 b2 s2 ls2 := ⟨_, rfl⟩
    have hMn : M.length ≤ 6 := by rw [hM]; exact Nat.le_trans (mvs_le x2 a2 b2 s2 ls2 _ _) (by omega)
    rw [← hM] at i3 i4
    have j4 := fun L b1 b2 c1 c2 h1 h2 => e_l_rCells (pr := pr) (H := L) (e := none) (b1 := b1) (b2 := b2) (c1 := c1) (c2 := c2) (ls := M) h1 h2 (by omega)
    rw [hok] at hip
    cases hsafe : safeMv x2 a2 b2 ls2 s2 m1 m2 with
    | false =>
      have hno : (partyOk x2 a2 b2 ls2 s2 && safeMv x2 a2 b2 ls2 s2 m1 m2) = false := by rw [hok, hsafe]; rfl
      have i1 := fun X => e_i_MoveOne_no (pr := pr) (e := none) (c := c2) (hp2 X) (by omega) x2 a2 b2 s2 m1 m2 hno
      have i2 := fun X => e_s_MoveOne_no (pr := pr) (e := none) (c := c2) (hp2 X) (by omega) x2 a2 b2 s2 m1 m2 hno
      have j3 := fun X : List Blk => e_l_rParty_no (pr := pr) (H := X) (e := none)
      simp (maxSteps := 2000000) +contextual only [fillParts, hu, hip, i1, i2, i3, i4, j3, j4, under_sliceN, beq_self_eq_true, decide_true, decide_false, Bool.not_true, Bool.not_false, Bool.false_eq_true, if_true, Wp_some, Wp_none, Wp_ite, Wc_some, Wc_none, Wc_ite, Wp_thenRun, seqQ_normal, seqQ_exit, seqQ_ret, Wp_inBlock, blkQ_normal, blkQ_ret, blkQ_same, blkQ_exit, Wp_opThen, opQ_at, Wp_guardP, retQ_normal, retQ_ret, loopQ_normal, loopQ_exit, loopQ_ret, go_sem, entry, joinEsc, if_pos, reduceIte, Nat.reduceAdd, Nat.reduceLeDiff, Nat.reduceLT, Nat.reduceEqDiff]
      rw [← hBX, ← hBM]
      have B : ∀ (k : Option Nat) (X0 X1 : Blk) (X : List Blk), PB (L ++ (.cells (encL ls2) true :: BX :: BM :: X0 :: X1 :: .cells (encL M) true :: X)) (L.length + 1) L.length (L.length + 2) (L.length + 3) c2 ls2 x2 a2 b2 s2 m1 m2 (slL (L.length + 5) M.length k) := fun k X0 X1 X =>
        ⟨by rw [cellsAt_newk, hBX]; rfl, hp2 _, by rw [cellsAt_newk, hBM]; rfl, hn2, (fun h => by rw [hno] at h; cases h), (fun _ => ⟨L.length + 5, k, by rw [hM], by rw [cellsAt_newk, hM]; rfl⟩)⟩
      exact r _ (hcode.more _) (A.more _) (hW.more _) (B _ _ _ _) (by rw [List.length_append]; omega) hno hok
    | true =>
      obtain ⟨r1, r2⟩ := safe_range hsafe
      obtain ⟨j, rfl⟩ : ∃ j : Nat, m1 = j := ⟨m1.toNat, by omega⟩
      rw [Int.toNat_natCast] at r2
      have i1 := fun X => e_i_MoveOne (pr := pr) (e := none) (c := c2) (hp2 X) x2 a2 b2 s2 m2 (j := j) hok hsafe
      have i2 := fun X => e_s_MoveOne (pr := pr) (e := none) (c := c2) (hp2 X) x2 a2 b2 s2 m2 (j := j) hok hsafe
      have hml : (movd ls2 j m2).length = ls2.length := movd_length _ _ _
      obtain ⟨r3, hr3⟩ : ∃ r3, r3 = movd ls2 j m2 := ⟨_, rfl⟩
      rw [← hr3] at i1 i2 hml
      have j3 := fun L y1 y2 h1 h2 => e_l_rParty (pr := pr) (H := L) (e := none) (b1 := y1) (b2 := y2) (c1 := none) (c2 := none) (ls := r3) h1 h2 (by omega) x2 a2 b2 s2
      rw [hml] at j3
      have hu3 : AV.under (L.length + 4 + 1) (slL (L.length + 3) ls2.length none) = true := by simp [AV.under]
      have hu5 : AV.under (L.length + 6 + 1) (slL (L.length + 5) ls2.length none) = true := by simp [AV.under]
      simp (maxSteps := 2000000) +contextual only [fillParts, hu, hu3, hu5, hip, i1, i2, i3, i4, j3, j4, beq_self_eq_true, decide_true, decide_false, Bool.not_true, Bool.not_false, Bool.false_eq_true, if_true, Wp_some, Wp_none, Wp_ite, Wc_some, Wc_none, Wc_ite, Wp_thenRun, seqQ_normal, seqQ_exit, seqQ_ret, Wp_inBlock, blkQ_normal, blkQ_ret, blkQ_same, blkQ_exit, Wp_opThen, opQ_at, Wp_guardP, retQ_normal, retQ_ret, loopQ_normal, loopQ_exit, loopQ_ret, go_sem, entry, joinEsc, if_pos, reduceIte, Nat.reduceAdd, Nat.reduceLeDiff, Nat.reduceLT, Nat.reduceEqDiff]
      rw [← hBX, ← hBM]
      have B : ∀ (k : Option Nat) (X1 X2 : Blk) (X : List Blk), PB (L ++ (.cells (encL ls2) true :: BX :: BM :: .cells (encL r3) true :: .cells [.int .i64 x2, .int .i64 a2, .int .i64 b2, slL (L.length + 3) ls2.length none, .int .i64 s2] true :: X1 :: X2 :: .cells (encL M) true :: X)) (L.length + 1) L.length (L.length + 2) (L.length + 4) c2 ls2 x2 a2 b2 s2 j m2 (slL (L.length + 7) M.length k) := fun k X1 X2 X =>
        ⟨by rw [cellsAt_newk, hBX]; rfl, hp2 _, by rw [cellsAt_newk, hBM]; rfl, hn2, (fun _ => ⟨L.length + 3, by rw [cellsAt_newk]; rfl, by rw [cellsAt_newk, hr3, Int.toNat_natCast]; rfl⟩), (fun _ => ⟨L.length + 7, k, by rw [hM], by rw [cellsAt_newk, hM]; rfl⟩)⟩
      exact r _ (hcode.more _) (A.more _) (hW.more _) (B _ _ _ _) (by rw [List.length_append]; omega) (by rw [hok, hsafe]; rfl) hok

end Go.Proofs.Ythkgpblohjpcdaa.Slim

/- Planks: the law FnParties, whole. -/
namespace Go.Proofs.Ythkgpblohjpcdaa.Slim

open Go

set_option linter.unusedSimpArgs false

set_option linter.unusedVariables false

variable {pr : Prims} {H : List Blk} {e : Option Nat}

set_option maxHeartbeats 8000000 in
theorem pt_3 {L : List Blk} {m0 : Mem} {u q qp : Nat} {c d : Option Nat} {ls : List Ld} {ps : List Int} {x a b s : Int} {av : AV} {w4 w5 w6 w7 w8 w9 w10 w11 w12 w13 w14 w15 w16 w17 w18 w19 w20 w21 w22 w23 w24 w25 w26 w27 w28 w29 w30 w31 w34 w35 w38 w39 w42 w43 w44 w45 w46 w47 w48 w49 w50 w51 w53 w54 w55 w56 w59 w60 w61 : AV} (hcode : CodeAt L av) (A : PA L u q qp c d ls ps x a b s) (hm : m0.H.length ≤ L.length) :
    Wp (run T pr (seqTl (seqTl (seqTl c_l_FnParties))) ⟨((av) :: (.bool false) :: (.ptr (some (u, 0))) :: (slI qp ps.length d) :: w4 :: w5 :: w6 :: w7 :: w8 :: w9 :: w10 :: w11 :: w12 :: w13 :: w14 :: w15 :: w16 :: w17 :: w18 :: w19 :: w20 :: w21 :: w22 :: w23 :: w24 :: w25 :: w26 :: w27 :: w28 :: w29 :: w30 :: w31 :: (.undef) :: (.undef) :: w34 :: w35 :: (.undef) :: (.undef) :: w38 :: w39 :: (.undef) :: (.undef) :: w42 :: w43 :: w44 :: w45 :: w46 :: w47 :: w48 :: w49 :: w50 :: w51 :: (.undef) :: w53 :: w54 :: w55 :: w56 :: (.undef) :: (.undef) :: w59 :: w60 :: w61 :: (.undef) :: (.undef) :: []), ⟨L, none⟩⟩) (retQ a_l_FnParties m0 fun v m => v = .bool true) := by
  obtain ⟨R, hR⟩ : ∃ R, R = (seqTl (seqTl (seqTl (seqTl (seqTl (seqTl (seqTl c_l_FnParties))))))) := ⟨_, rfl⟩
  have hc : (seqTl (seqTl (seqTl c_l_FnParties))) = (.seq (seqHd (seqTl (seqTl (seqTl c_l_FnParties)))) (.seq (seqHd (seqTl (seqTl (seqTl (seqTl c_l_FnParties))))) (.seq (seqHd (seqTl (seqTl (seqTl (seqTl (seqTl c_l_FnParties)))))) (.seq (seqHd (seqTl (seqTl (seqTl (seqTl (seqTl (seqTl c_l_FnParties))))))) R)))) := by rw [hR]; rfl
  have r := fun L wv => @pt_7 pr L m0 u q qp c d ls ps x a b s wv av
  rw [← hR] at r
  rw [hc]
  have hn6 := A.n6
  have hp5 := A.p5
  have hbx := A.bx
  have hbm := cells_mono hbx
  have i0 := fun X => wc_i_FirstWalkTo (pr := pr) (H := L ++ X) (e := none) (c := c) (cp := d) (x := x) (a := a) (b := b) (s := s) (cells_mono A.pq X) (by omega) (cells_mono A.pp X)
  have i00 := wc_i_FirstWalkTo (pr := pr) (H := L) (e := none) (c := c) (cp := d) (x := x) (a := a) (b := b) (s := s) A.pq (by omega) A.pp
  have s0 := fun X => wc_s_FirstWalkTo (pr := pr) (H := L ++ X) (e := none) (c := c) (cp := d) (x := x) (a := a) (b := b) (s := s) (cells_mono A.pq X) (by omega) (cells_mono A.pp X) (by omega)
  have s00 := wc_s_FirstWalkTo (pr := pr) (H := L) (e := none) (c := c) (cp := d) (x := x) (a := a) (b := b) (s := s) A.pq (by omega) A.pp (by omega)
  have i5 := fun X => e_i_StepsTo (pr := pr) (H := L ++ X) (e := none) (c := c) (cp := d) (x := x) (a := a) (b := b) (s := s) (cells_mono A.pq X) (by omega) (cells_mono A.pp X)
  have i6 := fun X => e_s_StepsTo (pr := pr) (H := L ++ X) (e := none) (c := c) (cp := d) (x := x) (a := a) (b := b) (s := s) (cells_mono A.pq X) (by omega) (cells_mono A.pp X) (by omega)
  obtain ⟨st, hst⟩ : ∃ st, st = (stpO x a b s ls ps).getD 0 := ⟨_, rfl⟩
  obtain ⟨one, hone⟩ : ∃ one, one = (stpO x a b s ls ps).isSome := ⟨_, rfl⟩
  rw [← hst, ← hone] at i5 i6
  cases ho : fwO x a b s ls ps with
  | none =>
    rw [ho] at i00 s00
    simp only [fwPost, List.append_nil] at i00 s00
    have i1 := Wc.eq i00
    have i2 := Wc.eq s00
    have j4 := fun (X : List Blk) p1 p2 s1 s2 c1 c2 => e_l_rCells_none (pr := pr) (H := X) (e := none) (p1 := p1) (p2 := p2) (s1 := s1) (s2 := s2) (c1 := c1) (c2 := c2)
    simp (maxSteps := 2000000) only [c_l_FnParties, seqTl, seqHd, hbx, hbm, i1, i2, i5, i6, j4, beq_self_eq_true, decide_true, decide_false, Bool.not_true, Bool.not_false, Bool.false_eq_true, Wp_some, Wp_none, Wp_ite, Wc_some, Wc_none, Wc_ite, Wp_thenRun, seqQ_normal, seqQ_exit, seqQ_ret, Wp_inBlock, blkQ_normal, blkQ_ret, blkQ_same, blkQ_exit, Wp_opThen, opQ_at, Wp_guardP, retQ_normal, retQ_ret, loopQ_normal, loopQ_exit, loopQ_ret, go_sem, entry, joinEsc, if_pos, reduceIte, Nat.reduceAdd, Nat.reduceLeDiff, Nat.reduceLT, Nat.reduceEqDiff]
    rw [hst, hone]
    have := fun w6 w7 w10 w11 w12 w13 w14 w15 w16 w17 w18 w19 w20 w21 w22 w23 w24 w25 w26 w27 w28 w29 w30 w31 w34 w35 w38 w39 w42 w43 w44 w45 w46 w47 w48 w49 w50 w51 w53 w54 w55 w56 w59 w60 w61 => r (L ++ [.cells [] true]) (.slice none 0 0 none) (w6 := w6) (w7 := w7) (w10 := w10) (w11 := w11) (w12 := w12) (w13 := w13) (w14 := w14) (w15 := w15) (w16 := w16) (w17 := w17) (w18 := w18) (w19 := w19) (w20 := w20) (w21 := w21) (w22 := w22) (w23 := w23) (w24 := w24) (w25 := w25) (w26 := w26) (w27 := w27) (w28 := w28) (w29 := w29) (w30 := w30) (w31 := w31) (w34 := w34) (w35 := w35) (w38 := w38) (w39 := w39) (w42 := w42) (w43 := w43) (w44 := w44) (w45 := w45) (w46 := w46) (w47 := w47) (w48 := w48) (w49 := w49) (w50 := w50) (w51 := w51) (w53 := w53) (w54 := w54) (w55 := w55) (w56 := w56) (w59 := w59) (w60 := w60) (w61 := w61) (hcode.more _) (A.more _) (by rw [ho]; trivial) (by rw [List.length_append]; omega)
    rw [ho] at this
    exact this _ _ _ _ _ _ _ _ _ _ _ _ _ _ _ _ _ _ _ _ _ _ _ _ _ _ _ _ _ _ _ _ _ _ _ _ _ _ _ _ _ _ _ _ _
  | some W =>
    obtain ⟨v, f1, f2, f3, f4, f5, f6, f7⟩ := fw_facts ho
    rw [ho] at i00 s0
    simp only [fwPost] at i00 s0
    obtain ⟨v1, m1, i1, cap1, rfl, rfl⟩ := i00
    obtain ⟨v2, m2, i2, cap2, rfl, rfl⟩ := s0 [.cells (encL W) true]
    simp only [List.length_append, List.length_cons, List.length_nil, Nat.zero_add, List.append_assoc, List.cons_append, List.nil_append] at i2
    have j4 := fun L b1 b2 c1 c2 h1 h2 => e_l_rCells (pr := pr) (H := L) (e := none) (b1 := b1) (b2 := b2) (c1 := c1) (c2 := c2) (ls := W) h1 h2 (by omega)
    have hone1 : one = true := by rw [hone, f1]; rfl
    rw [hone1] at i5 i6
    simp (maxSteps := 2000000) +contextual only [c_l_FnParties, seqTl, seqHd, hbx, hbm, i1, i2, i5, i6, j4, beq_self_eq_true, decide_true, decide_false, Bool.not_true, Bool.not_false, Bool.false_eq_true, Wp_some, Wp_none, Wp_ite, Wc_some, Wc_none, Wc_ite, Wp_thenRun, seqQ_normal, seqQ_exit, seqQ_ret, Wp_inBlock, blkQ_normal, blkQ_ret, blkQ_same, blkQ_exit, Wp_opThen, opQ_at, Wp_guardP, retQ_normal, retQ_ret, loopQ_normal, loopQ_exit, loopQ_ret, go_sem, entry, joinEsc, if_pos, reduceIte, Nat.reduceAdd, Nat.reduceLeDiff, Nat.reduceLT, Nat.reduceEqDiff]
    rw [hst]
    have := fun w6 w7 w10 w11 w12 w13 w14 w15 w16 w17 w18 w19 w20 w21 w22 w23 w24 w25 w26 w27 w28 w29 w30 w31 w34 w35 w38 w39 w42 w43 w44 w45 w46 w47 w48 w49 w50 w51 w53 w54 w55 w56 w59 w60 w61 => r (L ++ [.cells (encL W) true, .cells (encL W) true]) (slL L.length W.length cap1) (w6 := w6) (w7 := w7) (w10 := w10) (w11 := w11) (w12 := w12) (w13 := w13) (w14 := w14) (w15 := w15) (w16 := w16) (w17 := w17) (w18 := w18) (w19 := w19) (w20 := w20) (w21 := w21) (w22 := w22) (w23 := w23) (w24 := w24) (w25 := w25) (w26 := w26) (w27 := w27) (w28 := w28) (w29 := w29) (w30 := w30) (w31 := w31) (w34 := w34) (w35 := w35) (w38 := w38) (w39 := w39) (w42 := w42) (w43 := w43) (w44 := w44) (w45 := w45) (w46 := w46) (w47 := w47) (w48 := w48) (w49 := w49) (w50 := w50) (w51 := w51) (w53 := w53) (w54 := w54) (w55 := w55) (w56 := w56) (w59 := w59) (w60 := w60) (w61 := w61) (hcode.more _) (A.more _) (by rw [ho]; exact ⟨_, _, rfl, by rw [cellsAt_new0]; rfl⟩) (by rw [List.length_append]; omega)
    rw [ho, ← hone, hone1] at this
    exact this _ _ _ _ _ _ _ _ _ _ _ _ _ _ _ _ _ _ _ _ _ _ _ _ _ _ _ _ _ _ _ _ _ _ _ _ _ _ _ _ _ _ _ _ _

set_option maxHeartbeats 8000000 in
theorem wc_FnParties {p0 : Option (Nat × Nat)} {s0 n0 : Nat} {c0 : Option Nat} (hc0 : n0 ≤ 65536 → CodeAt H (.slice p0 s0 n0 c0)) : Wc (call T pr f_l_FnParties [.slice p0 s0 n0 c0] ⟨H, none⟩) (fun v m => v = .bool true) := by
  rw [call_wc t_l_FnParties]
  by_cases hb : 65536 < n0
  · have hb' : decide ((65536 : Int) < ((n0 : Nat) : Int)) = true := decide_eq_true (by omega)
    simp +contextual only [a_l_FnParties, c_l_FnParties, e_l_rBig, hb', Wp_some, Wp_none, Wp_ite, Wc_some, Wc_none, Wc_ite, Wp_thenRun, seqQ_normal, seqQ_exit, seqQ_ret, Wp_inBlock, blkQ_normal, blkQ_ret, blkQ_same, blkQ_exit, Wp_opThen, opQ_at, Wp_guardP, retQ_normal, retQ_ret, loopQ_normal, loopQ_exit, loopQ_ret, finish_one_eq, finish_one_eq0, finish_two_eq, finish_two_eq0, roots_slice_new, roots_slice_new0, roots_slice_none, roots_ptr_new, roots_ptr_new0, roots_int, roots_bool, roots_str, roots_agg, roots_tup, roots_cons, roots_nil, rename_slice, rename_slice_none, rename_ptr, rename_int, rename_bool, rename_str, rename_agg, rename_tup, rename_cons, rename_nil, keepBlks_nil, keepBlks_cons, flatAll_nil, flatAll_cons, flatBlk_cells, dedup_nil, dedup_one, dedup_two, renum_one, renum_one0, renum_two0, renum_two1, clean_none', clean_some, minEsc_none, minEsc_some, Nat.add_left_cancel_iff, Nat.le_add_right, Nat.le_refl, decide_true, go_sem, entry, joinEsc, if_pos, reduceIte, Nat.reduceAdd, Nat.reduceLeDiff, Nat.reduceLT, Nat.reduceEqDiff]
  · have hb' : decide ((65536 : Int) < ((n0 : Nat) : Int)) = false := decide_eq_false (by omega)
    have hc := hc0 (by omega)
    obtain ⟨R, hR⟩ : ∃ R, R = (seqTl (seqTl (seqTl c_l_FnParties))) := ⟨_, rfl⟩
    have hcut : c_l_FnParties = (.seq (seqHd c_l_FnParties) (.seq (seqHd (seqTl c_l_FnParties)) (.seq (seqHd (seqTl (seqTl c_l_FnParties))) R))) := by rw [hR]; rfl
    show Wp (run T pr c_l_FnParties _) _
    rw [hcut]
    simp (maxSteps := 2000000) only [a_l_FnParties, c_l_FnParties, seqTl, seqHd, e_l_rBig, hb', Bool.false_eq_true, if_false, Wp_some, Wp_none, Wp_ite, Wc_some, Wc_none, Wc_ite, Wp_thenRun, seqQ_normal, seqQ_exit, seqQ_ret, Wp_inBlock, blkQ_normal, blkQ_ret, blkQ_same, blkQ_exit, Wp_opThen, opQ_at, Wp_guardP, retQ_normal, retQ_ret, loopQ_normal, loopQ_exit, loopQ_ret, go_sem, entry, joinEsc, if_pos, reduceIte, Nat.reduceAdd, Nat.reduceLeDiff, Nat.reduceLT, Nat.reduceEqDiff]
    refine (wc_DrawFirstWalkTo hc).mono ?_
    rintro v m ⟨ls, ps, c, d, x, a, b, s, rfl, hn, hp, rfl⟩
    have hu : AV.under (H.length + 2 + 1) (slL H.length ls.length c) = true := by simp [AV.under]; omega
    simp (maxSteps := 2000000) only [fillParts, hu, if_true, Wp_some, Wp_none, Wp_ite, Wc_some, Wc_none, Wc_ite, Wp_thenRun, seqQ_normal, seqQ_exit, seqQ_ret, Wp_inBlock, blkQ_normal, blkQ_ret, blkQ_same, blkQ_exit, Wp_opThen, opQ_at, Wp_guardP, retQ_normal, retQ_ret, loopQ_normal, loopQ_exit, loopQ_ret, go_sem, entry, joinEsc, if_pos, reduceIte, Nat.reduceAdd, Nat.reduceLeDiff, Nat.reduceLT, Nat.reduceEqDiff]
    rw [hR]
    exact pt_3 (m0 := ⟨H, none⟩) (hc.more _) (qp := H.length + 1) (q := H.length) (c := c) (d := d) (ls := ls) (ps := ps) (x := x) (a := a) (b := b) (s := s) ⟨by rw [cellsAt_newk]; rfl, by rw [cellsAt_new0]; rfl, by rw [cellsAt_newk]; rfl, hn, hp⟩ (by rw [List.length_append]; exact Nat.le_add_right _ _)

theorem law_Parties {av : AV} {zs : List Int} (h : ArgB H av zs) : ∃ m', call T pr f_l_FnParties [av] ⟨H, none⟩ = some (.bool true, m') := by
  obtain ⟨p, sz, n, c, rfl, hc⟩ := h.form
  obtain ⟨v, m, h1, rfl⟩ := wc_FnParties (pr := pr) hc
  exact ⟨m, h1⟩

end Go.Proofs.Ythkgpblohjpcdaa.Slim
