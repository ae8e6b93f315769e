/- Planks: what the law FnPlanks asks, plainly; the law. -/
import Derived.Test.YthkgpblohjpcdaaSlimZ12
/- Planks: what the law FnPlanks asks, plainly; the law. -/
namespace Go.Proofs.Ythkgpblohjpcdaa.Slim

open Go

set_option linter.unusedSimpArgs false

set_option linter.unusedVariables false

variable {pr : Prims} {H : List Blk} {e : Option Nat}

theorem spots_pl {ls : List Ld} {j : Nat} (hj : j < ls.length) : (spots ls).getD j 0 = plOf ls j := by
  have hl : ls[j]? = some ls[j] := List.getElem?_eq_getElem hj
  unfold plOf spots
  rw [getD_app_left (by simpa using hj), hl]
  simp [List.getD_eq_getElem?_getD, hj]

/-- all places of one are alike by the stride (see a_l_FnPlanks) -/
theorem far_alike {x a b s : Int} {ls : List Ld} (h : partyOk x a b ls s = true) {j : Nat} (hj : j < ls.length) {y : Int} (hy : y = plOf ls j ∨ y ∈ onesF (foundP x a b s ls) j) : 0 ≤ y ∧ y ≤ 12 ∧ ∃ m : Int, y = plOf ls j + s * m := by
  have K := plk_of h
  have G := good_spots h
  have hx := K.x12
  obtain ⟨T1, hP⟩ := foundP_told h
  rcases hy with rfl | hy
  · have := G.on j hj
    rw [spots_pl hj] at this
    exact ⟨this.1, by omega, 0, by simp⟩
  · obtain ⟨q, hq, rfl⟩ := List.mem_map.mp hy
    have := (hP q hq).on j hj
    obtain ⟨k, hk⟩ := T1.nat (mget_of_mem T1.nd (v := q.2) hq)
    have hw := T1.way k q.1 (by rw [← hk]; exact mget_of_mem T1.nd (v := q.2) hq)
    obtain ⟨m, hm⟩ := hw.alike K G j hj
    rw [spots_pl hj] at hm
    exact ⟨this.1, by omega, m, hm⟩

theorem far_facts {x a b s : Int} {ls : List Ld} (h : partyOk x a b ls s = true) {j : Nat} (hj : j < ls.length) :
    0 ≤ (farZ x a b s ls j).1 ∧ (farZ x a b s ls j).1 ≤ plOf ls j ∧ plOf ls j ≤ (farZ x a b s ls j).2 ∧ (farZ x a b s ls j).2 ≤ 12 ∧ (plOf ls j - (farZ x a b s ls j).1).tmod s = 0 ∧ ((farZ x a b s ls j).2 - plOf ls j).tmod s = 0 := by
  have h1 := far_alike h hj (y := (farZ x a b s ls j).1) (by
    rcases minL_mem (onesF (foundP x a b s ls) j) (plOf ls j) with h | h
    · exact .inl h
    · exact .inr h)
  have h2 := far_alike h hj (y := (farZ x a b s ls j).2) (by
    rcases maxL_mem (onesF (foundP x a b s ls) j) (plOf ls j) with h | h
    · exact .inl h
    · exact .inr h)
  obtain ⟨a1, a2, m, hm⟩ := h1
  obtain ⟨b1, b2, n, hn⟩ := h2
  have c1 : (farZ x a b s ls j).1 ≤ plOf ls j := (minL_le _ _).1
  have c2 : plOf ls j ≤ (farZ x a b s ls j).2 := (maxL_ge _ _).1
  refine ⟨a1, c1, c2, b2, ?_, ?_⟩
  · have : plOf ls j - (farZ x a b s ls j).1 = s * (-m) := by rw [hm, Int.mul_neg]; omega
    rw [this, Int.mul_tmod_right]
  · have : (farZ x a b s ls j).2 - plOf ls j = s * n := by rw [hn]; omega
    rw [this, Int.mul_tmod_right]

theorem meetF_some {es : Found} {n : Nat} : ∀ i, 0 ≤ (meetF es n i).1 → ∃ k, k < i ∧ (meetF es n i).2 = (k : Int) ∧ mget es (goalT (allT n k)) = some (meetF es n i).1
  | 0, h => by simp [meetF] at h
  | i + 1, h => by
    have old : 0 ≤ (meetF es n i).1 → ∃ k, k < i + 1 ∧ (meetF es n i).2 = (k : Int) ∧ mget es (goalT (allT n k)) = some (meetF es n i).1 := by
      intro h
      obtain ⟨k, h1, h2, h3⟩ := meetF_some i h
      exact ⟨k, by omega, h2, h3⟩
    rw [meetF] at h ⊢
    cases hg : mget es (goalT (allT n i)) with
    | none =>
      rw [hg] at h
      exact old h
    | some v =>
      rw [hg] at h
      simp only at h ⊢
      split
      · exact ⟨i, by omega, rfl, hg⟩
      · rename_i hc
        rw [if_neg hc] at h
        exact old h

theorem meet_facts {x a b s : Int} {ls : List Ld} (h : 0 ≤ (meetZ x a b s ls).1) : partyOk x a b ls s = true ∧ ∃ k : Nat, (meetZ x a b s ls).2 = (k : Int) ∧ stpO x a b s ls (allT ls.length k) = some (meetZ x a b s ls).1 := by
  unfold meetZ at h ⊢
  cases h1 : partyOk x a b ls s with
  | false =>
    rw [h1] at h
    simp at h
  | true =>
    rw [h1] at h
    simp only [if_true] at h ⊢
    obtain ⟨k, hk, h2, h3⟩ := meetF_some _ h
    have hx := (plk_of h1).x1
    have hok : plcOk x ls.length (allT ls.length k) = true := by
      have := allT_ok (d := x.toNat) (n := ls.length) (i := k) (by omega)
      rwa [show ((x.toNat : Nat) : Int) = x by omega] at this
    refine ⟨trivial, k, h2, ?_⟩
    unfold stpO
    rw [h1, hok, ← h3]
    rfl

theorem count_facts {x a b s : Int} {ls : List Ld} (h : partyOk x a b ls s = true) : 1 ≤ cntP x a b s ls ∧ cntP x a b s ls ≤ (restN ls a b x.toNat : Int) ∧ (1 < s ∨ cntP x a b s ls = (restN ls a b x.toNat : Int)) := by
  have K := plk_of h
  have G := good_spots h
  obtain ⟨T1, hP⟩ := foundP_told h
  unfold cntP
  rw [if_pos h]
  have hm := mget_mem T1.src
  have hx := K.x1
  have hs := K.s1
  have he : ((x.toNat : Nat) : Int) = x := by omega
  obtain ⟨d, hd⟩ : ∃ d : Nat, d = x.toNat := ⟨_, rfl⟩
  rw [← hd] at he ⊢
  subst he
  have h1 := found_le K T1.nd hP
  have h0 : 0 < (foundP (d : Int) a b s ls).length := List.length_pos_of_mem hm
  refine ⟨by omega, by omega, ?_⟩
  by_cases h2 : 1 < s
  · exact .inl h2
  · have hs1 : s = 1 := by omega
    subst hs1
    have := found_all K T1 G hP
    exact .inr (by omega)

theorem encI_snoc (n k j : Nat) : encI (allT j k) ++ [AV.int .i64 (k : Int)] = encI (allT (j + 1) k) := by
  unfold allT encI
  rw [List.replicate_succ', List.map_append]
  rfl

set_option maxHeartbeats 4000000 in
/-- the loop that writes one place for each -/
theorem pk_loop {L : List Blk} {u q : Nat} {c : Option Nat} {ls : List Ld} {x a b s : Int} {k : Nat} {w0 w1 w3 w4 w5 w6 w7 w8 w9 w10 w11 w13 w14 w15 w16 w17 w18 w19 w20 w21 w22 w23 w24 w25 w28 w29 w30 w31 w32 w33 w34 w35 w36 w37 w38 w39 : AV} (hn : ls.length ≤ 100) (hu : cellsAt L u = some [.int .i64 x, .int .i64 a, .int .i64 b, slL q ls.length c, .int .i64 s]) :
    Wp (run T pr (.loop w_l_FnPlanks_1) ⟨(w0 :: w1 :: (.ptr (some (u, 0))) :: w3 :: w4 :: w5 :: w6 :: w7 :: w8 :: w9 :: w10 :: w11 :: (.int .i64 k) :: w13 :: w14 :: w15 :: w16 :: w17 :: w18 :: w19 :: w20 :: w21 :: w22 :: w23 :: w24 :: w25 :: (.slice (some (L.length, 0)) 1 0 (some 0)) :: (.int .i64 0) :: w28 :: w29 :: w30 :: w31 :: w32 :: w33 :: w34 :: w35 :: w36 :: w37 :: (w38) :: w39 :: []), ⟨L ++ [.cells [] true], none⟩⟩)
      (fun ex st => ex = .exit 0 ∧ ∃ (G : List Blk) (bb : Nat) (c' : Option Nat) (v27 v38 : AV), (L ++ G)[bb]? = some (.cells (encI (allT ls.length k)) true) ∧ st = ⟨(w0 :: w1 :: (.ptr (some (u, 0))) :: w3 :: w4 :: w5 :: w6 :: w7 :: w8 :: w9 :: w10 :: w11 :: (.int .i64 k) :: w13 :: w14 :: w15 :: w16 :: w17 :: w18 :: w19 :: w20 :: w21 :: w22 :: w23 :: w24 :: w25 :: (slI bb ls.length c') :: (v27) :: w28 :: w29 :: w30 :: w31 :: w32 :: w33 :: w34 :: w35 :: w36 :: w37 :: (v38) :: w39 :: []), ⟨L ++ G, none⟩⟩) := by
  refine Wp_loop (fun r st => ∃ (j : Nat) (L' : List Blk) (bb : Nat) (c' : Option Nat) (v38 : AV), j + r = ls.length ∧ Grown L L' ∧ L.length ≤ bb ∧ L'[bb]? = some (.cells (encI (allT j k)) true) ∧ (c' = some 0 → j = 0) ∧
    st = ⟨(w0 :: w1 :: (.ptr (some (u, 0))) :: w3 :: w4 :: w5 :: w6 :: w7 :: w8 :: w9 :: w10 :: w11 :: (.int .i64 k) :: w13 :: w14 :: w15 :: w16 :: w17 :: w18 :: w19 :: w20 :: w21 :: w22 :: w23 :: w24 :: w25 :: (slI bb j c') :: (.int .i64 j) :: w28 :: w29 :: w30 :: w31 :: w32 :: w33 :: w34 :: w35 :: w36 :: w37 :: (v38) :: w39 :: []), ⟨L', none⟩⟩) ?_ ls.length _ ⟨0, _, L.length, some 0, _, by omega, ⟨_, rfl⟩, Nat.le_refl _, by rw [List.getElem?_append_right (Nat.le_refl _), Nat.sub_self]; rfl, fun _ => rfl, rfl⟩
  rintro r _ ⟨j, L', bb, c', v38, hj, hg, hbb, hL, hcap, rfl⟩
  obtain ⟨G, rfl⟩ := hg
  have hum := cells_mono hu G
  by_cases hr : r = 0
  · have he : j = ls.length := by omega
    subst he
    simp (maxSteps := 2000000) only [w_l_FnPlanks_1, hum, Nat.lt_irrefl, decide_false, Wp_some, Wp_none, Wp_ite, Wc_some, Wc_none, Wc_ite, Wp_thenRun, seqQ_normal, seqQ_exit, seqQ_ret, Wp_inBlock, blkQ_normal, blkQ_ret, blkQ_same, blkQ_exit, Wp_opThen, opQ_at, Wp_guardP, retQ_normal, retQ_ret, loopQ_normal, loopQ_exit, loopQ_ret, go_sem, entry, joinEsc, if_pos, reduceIte, Nat.reduceAdd, Nat.reduceLeDiff, Nat.reduceLT, Nat.reduceEqDiff]
    exact ⟨G, bb, c', _, _, hL, rfl⟩
  · have hjl : j < ls.length := by omega
    have hw := wrap_succ (show j < 9223372036854775807 by omega)
    have hlen : (encI (allT j k)).length = j * 1 := by simp [encI, allT]
    simp (maxSteps := 2000000) only [w_l_FnPlanks_1, hum, hjl, fillParts, decide_true, Wp_some, Wp_none, Wp_ite, Wc_some, Wc_none, Wc_ite, Wp_thenRun, seqQ_normal, seqQ_exit, seqQ_ret, Wp_inBlock, blkQ_normal, blkQ_ret, blkQ_same, blkQ_exit, Wp_opThen, opQ_at, Wp_guardP, retQ_normal, retQ_ret, loopQ_normal, loopQ_exit, loopQ_ret, go_sem, entry, joinEsc, if_pos, reduceIte, Nat.reduceAdd, Nat.reduceLeDiff, Nat.reduceLT, Nat.reduceEqDiff]
    refine wc_ap (n := j) (k := 1) (new := [AV.int .i64 k]) (by rw [← List.append_assoc]; exact get_more hL _) (src_new _ 1 1 _ _ (L.length + G.length) (by rw [← List.append_assoc, ← List.length_append]; simp +contextual only [go_sem, entry, joinEsc, if_pos, reduceIte, Nat.reduceAdd, Nat.reduceLeDiff, Nat.reduceLT, Nat.reduceEqDiff]) rfl) hlen rfl (by unfold maxBytes; omega) hcap ?_
    intro L2 g1 g2 g3 g4
    simp (maxSteps := 2000000) only [hw, Wp_some, Wp_none, Wp_ite, Wc_some, Wc_none, Wc_ite, Wp_thenRun, seqQ_normal, seqQ_exit, seqQ_ret, Wp_inBlock, blkQ_normal, blkQ_ret, blkQ_same, blkQ_exit, Wp_opThen, opQ_at, Wp_guardP, retQ_normal, retQ_ret, loopQ_normal, loopQ_exit, loopQ_ret, go_sem, entry, joinEsc, if_pos, reduceIte, Nat.reduceAdd, Nat.reduceLeDiff, Nat.reduceLT, Nat.reduceEqDiff]
    refine ⟨r - 1, by omega, j + 1, L2, _, none, _, by omega, g4 L ⟨_, rfl⟩ hbb, ?_, ?_, (fun h => by cases h), rfl⟩
    · omega
    · have hen := encI_snoc 0 k j
      rw [← hen]
      simp only [List.length_append, List.length_cons, List.length_nil] at g3 ⊢
      exact g3

set_option maxHeartbeats 4000000 in
theorem pk_14 {L : List Blk} {m0 : Mem} {u q : Nat} {c : Option Nat} {ls : List Ld} {x a b s cn rs : Int} {ok : Bool} {w0 w1 w5 w6 w8 w9 w10 w11 w12 w13 w14 w15 w16 w17 w18 w19 w20 w21 w22 w23 w24 w25 w26 w27 w28 w29 w30 w31 w32 w33 w34 w35 w36 w37 w38 w39 : AV} (hu : cellsAt L u = some [.int .i64 x, .int .i64 a, .int .i64 b, slL q ls.length c, .int .i64 s]) (hm : m0.H.length ≤ L.length) (f3 : ok = true → 1 ≤ cn ∧ cn ≤ rs ∧ (1 < s ∨ cn = rs)) :
    Wp (run T pr (seqTl (seqTl (seqTl (seqTl (seqTl (seqTl (seqTl (seqTl (seqTl (seqTl (seqTl (seqTl (seqTl (seqTl c_l_FnPlanks)))))))))))))) ⟨(w0 :: w1 :: (.ptr (some (u, 0))) :: (.int .i64 cn) :: (.bool ok) :: w5 :: w6 :: (.int .i64 rs) :: w8 :: w9 :: w10 :: w11 :: w12 :: w13 :: w14 :: w15 :: w16 :: w17 :: w18 :: w19 :: w20 :: w21 :: w22 :: w23 :: w24 :: w25 :: w26 :: w27 :: w28 :: w29 :: w30 :: w31 :: w32 :: w33 :: w34 :: w35 :: w36 :: w37 :: w38 :: w39 :: []), ⟨L, none⟩⟩) (retQ a_l_FnPlanks m0 fun v m => v = .bool true) := by
  have fin : ∀ (e0 : Option Nat), finish 1 m0.H.length e0 (.bool true) ⟨L, none⟩ = some (.bool true, ⟨L.take m0.H.length, e0⟩) := by
    intro e0
    unfold finish
    simp [AV.under, clean]
  cases ok with
  | false =>
    simp (maxSteps := 2000000) only [a_l_FnPlanks, c_l_FnPlanks, seqTl, hu, fin, Bool.not_false, Wp_some, Wp_none, Wp_ite, Wc_some, Wc_none, Wc_ite, Wp_thenRun, seqQ_normal, seqQ_exit, seqQ_ret, Wp_inBlock, blkQ_normal, blkQ_ret, blkQ_same, blkQ_exit, Wp_opThen, opQ_at, Wp_guardP, retQ_normal, retQ_ret, loopQ_normal, loopQ_exit, loopQ_ret, go_sem, entry, joinEsc, if_pos, reduceIte, Nat.reduceAdd, Nat.reduceLeDiff, Nat.reduceLT, Nat.reduceEqDiff]
  | true =>
    obtain ⟨h1, h2, h3⟩ := f3 rfl
    by_cases hs : 1 < s
    · simp (maxSteps := 2000000) only [a_l_FnPlanks, c_l_FnPlanks, seqTl, hu, h1, h2, hs, ge_iff_le, gt_iff_lt, fin, Bool.not_true, decide_true, Wp_some, Wp_none, Wp_ite, Wc_some, Wc_none, Wc_ite, Wp_thenRun, seqQ_normal, seqQ_exit, seqQ_ret, Wp_inBlock, blkQ_normal, blkQ_ret, blkQ_same, blkQ_exit, Wp_opThen, opQ_at, Wp_guardP, retQ_normal, retQ_ret, loopQ_normal, loopQ_exit, loopQ_ret, go_sem, entry, joinEsc, if_pos, reduceIte, Nat.reduceAdd, Nat.reduceLeDiff, Nat.reduceLT, Nat.reduceEqDiff]
    · have h4 : cn = rs := by omega
      subst h4
      simp (maxSteps := 2000000) only [a_l_FnPlanks, c_l_FnPlanks, seqTl, hu, h1, h2, hs, ge_iff_le, gt_iff_lt, fin, Bool.not_true, decide_true, decide_false, Wp_some, Wp_none, Wp_ite, Wc_some, Wc_none, Wc_ite, Wp_thenRun, seqQ_normal, seqQ_exit, seqQ_ret, Wp_inBlock, blkQ_normal, blkQ_ret, blkQ_same, blkQ_exit, Wp_opThen, opQ_at, Wp_guardP, retQ_normal, retQ_ret, loopQ_normal, loopQ_exit, loopQ_ret, go_sem, entry, joinEsc, if_pos, reduceIte, Nat.reduceAdd, Nat.reduceLeDiff, Nat.reduceLT, Nat.reduceEqDiff]

set_option maxHeartbeats 4000000 in
theorem pk_13 {L : List Blk} {m0 : Mem} {u q : Nat} {c : Option Nat} {ls : List Ld} {x a b s cn rs st pl : Int} {ok tw : Bool} {w0 w1 w5 w6 w8 w9 w10 w14 w15 w16 w17 w18 w19 w20 w21 w22 w23 w24 w25 w26 w27 w28 w29 w30 w31 w32 w33 w34 w35 w36 w37 w38 w39 : AV} (hn : ls.length ≤ 100) (hu : cellsAt L u = some [.int .i64 x, .int .i64 a, .int .i64 b, slL q ls.length c, .int .i64 s]) (hq : cellsAt L q = some (encL ls)) (hm : m0.H.length ≤ L.length) (f3 : ok = true → 1 ≤ cn ∧ cn ≤ rs ∧ (1 < s ∨ cn = rs)) (f2 : tw = true → ∃ k : Nat, pl = (k : Int) ∧ stpO x a b s ls (allT ls.length k) = some st) :
    Wp (run T pr (seqTl (seqTl (seqTl (seqTl (seqTl (seqTl (seqTl (seqTl (seqTl (seqTl (seqTl (seqTl (seqTl c_l_FnPlanks))))))))))))) ⟨(w0 :: w1 :: (.ptr (some (u, 0))) :: (.int .i64 cn) :: (.bool ok) :: w5 :: w6 :: (.int .i64 rs) :: w8 :: w9 :: w10 :: (.int .i64 st) :: (.int .i64 pl) :: (.bool tw) :: w14 :: w15 :: w16 :: w17 :: w18 :: w19 :: w20 :: w21 :: w22 :: w23 :: w24 :: w25 :: w26 :: w27 :: w28 :: w29 :: w30 :: w31 :: w32 :: w33 :: w34 :: w35 :: w36 :: w37 :: w38 :: w39 :: []), ⟨L, none⟩⟩) (retQ a_l_FnPlanks m0 fun v m => v = .bool true) := by
  obtain ⟨R, hR⟩ : ∃ R, R = (seqTl (seqTl (seqTl (seqTl (seqTl (seqTl (seqTl (seqTl (seqTl (seqTl (seqTl (seqTl (seqTl (seqTl c_l_FnPlanks)))))))))))))) := ⟨_, rfl⟩
  have hc : (seqTl (seqTl (seqTl (seqTl (seqTl (seqTl (seqTl (seqTl (seqTl (seqTl (seqTl (seqTl (seqTl c_l_FnPlanks))))))))))))) = (.seq (seqHd (seqTl (seqTl (seqTl (seqTl (seqTl (seqTl (seqTl (seqTl (seqTl (seqTl (seqTl (seqTl (seqTl c_l_FnPlanks)))))))))))))) R) := by rw [hR]; rfl
  have r := fun (L : List Blk) => @pk_14 pr L m0 u q c ls x a b s cn rs ok
  rw [← hR] at r
  rw [hc]
  cases tw with
  | false =>
    simp (maxSteps := 2000000) only [c_l_FnPlanks, seqTl, seqHd, Wp_some, Wp_none, Wp_ite, Wc_some, Wc_none, Wc_ite, Wp_thenRun, seqQ_normal, seqQ_exit, seqQ_ret, Wp_inBlock, blkQ_normal, blkQ_ret, blkQ_same, blkQ_exit, Wp_opThen, opQ_at, Wp_guardP, retQ_normal, retQ_ret, loopQ_normal, loopQ_exit, loopQ_ret, go_sem, entry, joinEsc, if_pos, reduceIte, Nat.reduceAdd, Nat.reduceLeDiff, Nat.reduceLT, Nat.reduceEqDiff]
    exact r L hu hm f3
  | true =>
    obtain ⟨k, rfl, hst⟩ := f2 rfl
    simp (maxSteps := 2000000) only [c_l_FnPlanks, seqTl, seqHd, fillParts, Wp_some, Wp_none, Wp_ite, Wc_some, Wc_none, Wc_ite, Wp_thenRun, seqQ_normal, seqQ_exit, seqQ_ret, Wp_inBlock, blkQ_normal, blkQ_ret, blkQ_same, blkQ_exit, Wp_opThen, opQ_at, Wp_guardP, retQ_normal, retQ_ret, loopQ_normal, loopQ_exit, loopQ_ret, go_sem, entry, joinEsc, if_pos, reduceIte, Nat.reduceAdd, Nat.reduceLeDiff, Nat.reduceLT, Nat.reduceEqDiff]
    refine (pk_loop (pr := pr) (k := k) hn hu).mono ?_
    rintro _ _ ⟨rfl, G, bb, c', v27, v38, hG, rfl⟩
    have hum := cells_mono hu G
    have hqm := cells_mono hq G
    have hal := allT_len ls.length k
    have hsi := e_i_StepsTo (pr := pr) (H := L ++ G) (e := none) (c := c) (cp := c') (ps := allT ls.length k) (x := x) (a := a) (b := b) (s := s) hqm (by omega) (cellsAt_of hG)
    rw [hal, hst] at hsi
    simp only [Option.getD_some, Option.isSome_some] at hsi
    simp (maxSteps := 2000000) only [hum, hsi, decide_true, Bool.not_true, Bool.false_eq_true, Wp_some, Wp_none, Wp_ite, Wc_some, Wc_none, Wc_ite, Wp_thenRun, seqQ_normal, seqQ_exit, seqQ_ret, Wp_inBlock, blkQ_normal, blkQ_ret, blkQ_same, blkQ_exit, Wp_opThen, opQ_at, Wp_guardP, retQ_normal, retQ_ret, loopQ_normal, loopQ_exit, loopQ_ret, go_sem, entry, joinEsc, if_pos, reduceIte, Nat.reduceAdd, Nat.reduceLeDiff, Nat.reduceLT, Nat.reduceEqDiff]
    exact r (L ++ G) hum (by rw [List.length_append]; omega) f3

set_option maxHeartbeats 4000000 in
theorem pk_10 {L : List Blk} {m0 : Mem} {u q u2 q2 : Nat} {c c2 : Option Nat} {ls ls2 : List Ld} {x a b s cn rs st pl x2 a2 b2 s2 i2 : Int} {ok tw : Bool} {w0 w5 w6 w8 w9 w10 w14 w15 w16 w19 w20 w21 w22 w23 w24 w25 w26 w27 w28 w29 w30 w31 w32 w33 w34 w35 w36 w37 w38 w39 : AV} (hn : ls.length ≤ 100) (hu : ∀ X, cellsAt (L ++ X) u = some [.int .i64 x, .int .i64 a, .int .i64 b, slL q ls.length c, .int .i64 s]) (hq : ∀ X, cellsAt (L ++ X) q = some (encL ls)) (hn2 : ls2.length ≤ 100) (hu2 : ∀ X, cellsAt (L ++ X) u2 = some [.int .i64 x2, .int .i64 a2, .int .i64 b2, slL q2 ls2.length c2, .int .i64 s2]) (hq2 : ∀ X, cellsAt (L ++ X) q2 = some (encL ls2)) (hm : m0.H.length ≤ L.length) (f3 : ok = true → 1 ≤ cn ∧ cn ≤ rs ∧ (1 < s ∨ cn = rs)) (f2 : tw = true → ∃ k : Nat, pl = (k : Int) ∧ stpO x a b s ls (allT ls.length k) = some st) :
    Wp (run T pr (seqTl (seqTl (seqTl (seqTl (seqTl (seqTl (seqTl (seqTl (seqTl (seqTl c_l_FnPlanks)))))))))) ⟨(w0 :: (.bool false) :: (.ptr (some (u, 0))) :: (.int .i64 cn) :: (.bool ok) :: w5 :: w6 :: (.int .i64 rs) :: w8 :: w9 :: w10 :: (.int .i64 st) :: (.int .i64 pl) :: (.bool tw) :: w14 :: w15 :: w16 :: (.ptr (some (u2, 0))) :: (.int .i64 i2) :: w19 :: w20 :: w21 :: w22 :: w23 :: w24 :: w25 :: w26 :: w27 :: w28 :: w29 :: w30 :: w31 :: w32 :: w33 :: w34 :: w35 :: w36 :: w37 :: w38 :: w39 :: []), ⟨L, none⟩⟩) (retQ a_l_FnPlanks m0 fun v m => v = .bool true) := by
  obtain ⟨R, hR⟩ : ∃ R, R = (seqTl (seqTl (seqTl (seqTl (seqTl (seqTl (seqTl (seqTl (seqTl (seqTl (seqTl (seqTl (seqTl c_l_FnPlanks))))))))))))) := ⟨_, rfl⟩
  have hc : (seqTl (seqTl (seqTl (seqTl (seqTl (seqTl (seqTl (seqTl (seqTl (seqTl c_l_FnPlanks)))))))))) = (.seq (seqHd (seqTl (seqTl (seqTl (seqTl (seqTl (seqTl (seqTl (seqTl (seqTl (seqTl c_l_FnPlanks))))))))))) (.seq (seqHd (seqTl (seqTl (seqTl (seqTl (seqTl (seqTl (seqTl (seqTl (seqTl (seqTl (seqTl c_l_FnPlanks)))))))))))) (.seq (seqHd (seqTl (seqTl (seqTl (seqTl (seqTl (seqTl (seqTl (seqTl (seqTl (seqTl (seqTl (seqTl c_l_FnPlanks))))))))))))) R))) := by rw [hR]; rfl
  have hu0 := hu []
  have hq0 := hq []
  have hu20 := hu2 []
  have hq20 := hq2 []
  simp only [List.append_nil] at hu0 hq0 hu20 hq20
  have r := @pk_13 pr L m0 u q c ls x a b s cn rs st pl ok tw
  rw [← hR] at r
  rw [hc]
  have hi := e_i_FarthestOut (pr := pr) (H := L) (e := none) (c := c2) (x := x2) (a := a2) (b := b2) (s := s2) i2 hq20 (by omega)
  have hs := e_s_FarthestOut (pr := pr) (H := L) (e := none) (c := c2) (x := x2) (a := a2) (b := b2) (s := s2) i2 hq20 (by omega)
  unfold farV at hi hs
  cases hok : (partyOk x2 a2 b2 ls2 s2 && oneOk ls2 i2) with
  | false =>
    rw [hok] at hi hs
    simp only [Bool.false_eq_true, if_false] at hi hs
    simp (maxSteps := 2000000) only [c_l_FnPlanks, seqTl, seqHd, hu20, hi, hs, decide_true, beq_self_eq_true, Bool.not_true, Bool.false_eq_true, Wp_some, Wp_none, Wp_ite, Wc_some, Wc_none, Wc_ite, Wp_thenRun, seqQ_normal, seqQ_exit, seqQ_ret, Wp_inBlock, blkQ_normal, blkQ_ret, blkQ_same, blkQ_exit, Wp_opThen, opQ_at, Wp_guardP, retQ_normal, retQ_ret, loopQ_normal, loopQ_exit, loopQ_ret, go_sem, entry, joinEsc, if_pos, reduceIte, Nat.reduceAdd, Nat.reduceLeDiff, Nat.reduceLT, Nat.reduceEqDiff]
    exact r hn hu0 hq0 hm f3 f2
  | true =>
    rw [hok] at hi hs
    simp only [if_true] at hi hs
    obtain ⟨g1, g2⟩ := Bool.and_eq_true_iff.mp hok
    unfold oneOk at g2
    simp only [Bool.and_eq_true, decide_eq_true_eq] at g2
    obtain ⟨j, rfl⟩ : ∃ j : Nat, i2 = j := ⟨i2.toNat, by omega⟩
    have hj : j < ls2.length := by omega
    rw [Int.toNat_natCast] at hi hs
    obtain ⟨k1, k2, k3, k4, k5, k6⟩ := far_facts g1 hj
    have hs2 := (plk_of g1).s1
    have hl : ls2[j]? = some ls2[j] := List.getElem?_eq_getElem hj
    have hpl : plOf ls2 j = ls2[j].1 := by unfold plOf; rw [hl]; rfl
    rw [hpl] at k2 k3 k5 k6
    generalize farZ x2 a2 b2 s2 ls2 j = fz at *
    obtain ⟨lo, hi'⟩ := fz
    simp only at k1 k2 k3 k4 k5 k6 hi hs
    have w1 : IntKind.i64.wrap (ls2[j].1 - lo) = ls2[j].1 - lo := wrap64 (by omega) (by omega)
    have w2 : IntKind.i64.wrap (hi' - ls2[j].1) = hi' - ls2[j].1 := wrap64 (by omega) (by omega)
    have n1 : ¬ (lo > ls2[j].1) := by omega
    have n2 : ¬ (hi' < ls2[j].1) := by omega
    have n3 : ¬ (s2 = 0) := by omega
    simp (maxSteps := 2000000) only [c_l_FnPlanks, seqTl, seqHd, hu20, hq20, hi, hs, hj, part_encL0 _ hl, w1, w2, n1, n2, n3, k5, k6, gt_iff_lt, decide_true, decide_false, beq_self_eq_true, Bool.not_true, Bool.not_false, Bool.false_eq_true, Wp_some, Wp_none, Wp_ite, Wc_some, Wc_none, Wc_ite, Wp_thenRun, seqQ_normal, seqQ_exit, seqQ_ret, Wp_inBlock, blkQ_normal, blkQ_ret, blkQ_same, blkQ_exit, Wp_opThen, opQ_at, Wp_guardP, retQ_normal, retQ_ret, loopQ_normal, loopQ_exit, loopQ_ret, go_sem, entry, joinEsc, if_pos, reduceIte, Nat.reduceAdd, Nat.reduceLeDiff, Nat.reduceLT, Nat.reduceEqDiff]
    exact r hn hu0 hq0 hm f3 f2

set_option maxHeartbeats 8000000 in
theorem wc_FnPlanks {p0 : Option (Nat × Nat)} {s0 n0 : Nat} {c0 : Option Nat} (hc0 : n0 ≤ 65536 → CodeAt H (.slice p0 s0 n0 c0)) : Wc (call T pr f_l_FnPlanks [.slice p0 s0 n0 c0] ⟨H, none⟩) (fun v m => v = .bool true) := by
  rw [call_wc t_l_FnPlanks]
  by_cases hb : 65536 < n0
  · have hb' : decide ((65536 : Int) < ((n0 : Nat) : Int)) = true := decide_eq_true (by omega)
    simp +contextual only [a_l_FnPlanks, c_l_FnPlanks, e_l_rBig, hb', Wp_some, Wp_none, Wp_ite, Wc_some, Wc_none, Wc_ite, Wp_thenRun, seqQ_normal, seqQ_exit, seqQ_ret, Wp_inBlock, blkQ_normal, blkQ_ret, blkQ_same, blkQ_exit, Wp_opThen, opQ_at, Wp_guardP, retQ_normal, retQ_ret, loopQ_normal, loopQ_exit, loopQ_ret, finish_one_eq, finish_one_eq0, finish_two_eq, finish_two_eq0, roots_slice_new, roots_slice_new0, roots_slice_none, roots_ptr_new, roots_ptr_new0, roots_int, roots_bool, roots_str, roots_agg, roots_tup, roots_cons, roots_nil, rename_slice, rename_slice_none, rename_ptr, rename_int, rename_bool, rename_str, rename_agg, rename_tup, rename_cons, rename_nil, keepBlks_nil, keepBlks_cons, flatAll_nil, flatAll_cons, flatBlk_cells, dedup_nil, dedup_one, dedup_two, renum_one, renum_one0, renum_two0, renum_two1, clean_none', clean_some, minEsc_none, minEsc_some, Nat.add_left_cancel_iff, Nat.le_add_right, Nat.le_refl, decide_true, go_sem, entry, joinEsc, if_pos, reduceIte, Nat.reduceAdd, Nat.reduceLeDiff, Nat.reduceLT, Nat.reduceEqDiff]
  · have hb' : decide ((65536 : Int) < ((n0 : Nat) : Int)) = false := decide_eq_false (by omega)
    have hc := hc0 (by omega)
    have bxx : ∀ x : Bool, (!decide (x = x)) = false := fun x => by simp
    have hbb : ∀ x : Bool, (!(x == x)) = false := fun x => by simp
    have hdd : ∀ x : Int, decide (x = x) = true := fun x => decide_eq_true rfl
    obtain ⟨R, hR⟩ : ∃ R, R = (seqTl (seqTl (seqTl (seqTl (seqTl (seqTl (seqTl (seqTl (seqTl (seqTl c_l_FnPlanks)))))))))) := ⟨_, rfl⟩
    have hcut : c_l_FnPlanks = (.seq (seqHd c_l_FnPlanks) (.seq (seqHd (seqTl c_l_FnPlanks)) (.seq (seqHd (seqTl (seqTl c_l_FnPlanks))) (.seq (seqHd (seqTl (seqTl (seqTl c_l_FnPlanks)))) (.seq (seqHd (seqTl (seqTl (seqTl (seqTl c_l_FnPlanks))))) (.seq (seqHd (seqTl (seqTl (seqTl (seqTl (seqTl c_l_FnPlanks)))))) (.seq (seqHd (seqTl (seqTl (seqTl (seqTl (seqTl (seqTl c_l_FnPlanks))))))) (.seq (seqHd (seqTl (seqTl (seqTl (seqTl (seqTl (seqTl (seqTl c_l_FnPlanks)))))))) (.seq (seqHd (seqTl (seqTl (seqTl (seqTl (seqTl (seqTl (seqTl (seqTl c_l_FnPlanks))))))))) (.seq (seqHd (seqTl (seqTl (seqTl (seqTl (seqTl (seqTl (seqTl (seqTl (seqTl c_l_FnPlanks)))))))))) R)))))))))) := by rw [hR]; rfl
    show Wp (run T pr c_l_FnPlanks _) _
    rw [hcut]
    simp (maxSteps := 2000000) only [a_l_FnPlanks, c_l_FnPlanks, seqTl, seqHd, e_l_rBig, hb', Bool.false_eq_true, if_false, Wp_some, Wp_none, Wp_ite, Wc_some, Wc_none, Wc_ite, Wp_thenRun, seqQ_normal, seqQ_exit, seqQ_ret, Wp_inBlock, blkQ_normal, blkQ_ret, blkQ_same, blkQ_exit, Wp_opThen, opQ_at, Wp_guardP, retQ_normal, retQ_ret, loopQ_normal, loopQ_exit, loopQ_ret, go_sem, entry, joinEsc, if_pos, reduceIte, Nat.reduceAdd, Nat.reduceLeDiff, Nat.reduceLT, Nat.reduceEqDiff]
    refine (wc_DrawCountPlaces hc).mono ?_
    rintro v m ⟨ls, c, x, a, b, s, rfl, hn, rfl⟩
    have hn' : ls.length ≤ 9223372036854775806 := by omega
    have hls : ∀ X, cellsAt (H ++ .cells (encL ls) true :: X) H.length = some (encL ls) := fun X => by rw [cellsAt_new0]; rfl
    have i1 := fun X => e_i_CountPlaces (pr := pr) (e := none) (c := c) (hls X) hn' x a b s
    have i2 := fun X => e_s_CountPlaces (pr := pr) (e := none) (c := c) (hls X) hn' x a b s
    have i3 := fun X => e_i_IsParty (pr := pr) (e := none) (c := c) (hls X) hn' x a b s
    have i4 := fun X => e_i_RestingPlaces (pr := pr) (e := none) (c := c) (hls X) hn' x a b s
    have i5 := fun X => e_s_RestingPlaces (pr := pr) (e := none) (c := c) (hls X) hn' x a b s
    have i6 := fun X => e_i_MeetSteps (pr := pr) (e := none) (c := c) (x := x) (a := a) (b := b) (s := s) (hls X) hn'
    have i7 := fun X => e_s_MeetSteps (pr := pr) (e := none) (c := c) (x := x) (a := a) (b := b) (s := s) (hls X) hn'
    have f1 := count_facts (x := x) (a := a) (b := b) (s := s) (ls := ls)
    obtain ⟨st, hst⟩ : ∃ st, st = if (meetZ x a b s ls).1 < 0 then 0 else (meetZ x a b s ls).1 := ⟨_, rfl⟩
    obtain ⟨pl, hpl⟩ : ∃ pl, pl = (meetZ x a b s ls).2 := ⟨_, rfl⟩
    obtain ⟨tw, htw⟩ : ∃ tw, tw = decide (0 ≤ (meetZ x a b s ls).1) := ⟨_, rfl⟩
    have f2 : tw = true → partyOk x a b ls s = true ∧ ∃ k : Nat, pl = (k : Int) ∧ stpO x a b s ls (allT ls.length k) = some st := by
      intro h
      rw [htw] at h
      have h := of_decide_eq_true h
      obtain ⟨g1, k, g2, g3⟩ := meet_facts h
      refine ⟨g1, k, by rw [hpl, g2], ?_⟩
      rw [g3, hst, if_neg (by omega)]
    rw [← hst, ← hpl, ← htw] at i6 i7
    obtain ⟨rs, hrs⟩ : ∃ rs, rs = if partyOk x a b ls s = true then ((restN ls a b x.toNat : Nat) : Int) else 0 := ⟨_, rfl⟩
    rw [← hrs] at i4 i5
    have f3 : partyOk x a b ls s = true → 1 ≤ cntP x a b s ls ∧ cntP x a b s ls ≤ rs ∧ (1 < s ∨ cntP x a b s ls = rs) := by
      intro h
      rw [hrs, if_pos h]
      exact f1 h
    obtain ⟨ok, hok⟩ : ∃ ok, ok = partyOk x a b ls s := ⟨_, rfl⟩
    rw [← hok] at i1 i2 i3 i4 i5 f2 f3
    obtain ⟨cn, hcn⟩ : ∃ cn, cn = cntP x a b s ls := ⟨_, rfl⟩
    rw [← hcn] at i1 i2 f3
    clear f1 hrs hcn
    have hu1 : AV.under (H.length + 1 + 1) (slL H.length ls.length c) = true := by simp [AV.under]; omega
    obtain ⟨A, hA⟩ : ∃ A : Blk, A = .cells [.int .i64 x, .int .i64 a, .int .i64 b, slL H.length ls.length c, .int .i64 s] true := ⟨_, rfl⟩
    have hbranch : ok = false ∧ tw = false ∨ ok = true := by
      cases ok with
      | true => exact .inr rfl
      | false =>
        cases htt : tw with
        | false => exact .inl ⟨rfl, rfl⟩
        | true => cases (f2 htt).1
    have r : ∀ (ls2 : List Ld) (c2 : Option Nat) (x2 a2 b2 s2 i2 : Int) (w5 w6 w8 w9 w10 w14 w15 w16 w19 w20 w21 w22 w23 w24 w25 w26 w27 w28 w29 w30 w31 w32 w33 w34 w35 w36 w37 w38 w39 : AV), ls2.length ≤ 6 → Wp (run T pr R ⟨((.slice p0 s0 n0 c0) :: (.bool false) :: (.ptr (some (H.length + 1, 0))) :: (.int .i64 cn) :: (.bool ok) :: w5 :: w6 :: (.int .i64 rs) :: w8 :: w9 :: w10 :: (.int .i64 st) :: (.int .i64 pl) :: (.bool tw) :: w14 :: w15 :: w16 :: (.ptr (some (H.length + 3, 0))) :: (.int .i64 i2) :: w19 :: w20 :: w21 :: w22 :: w23 :: w24 :: w25 :: w26 :: w27 :: w28 :: w29 :: w30 :: w31 :: w32 :: w33 :: w34 :: w35 :: w36 :: w37 :: w38 :: w39 :: []), ⟨H ++ [.cells (encL ls) true, A, .cells (encL ls2) true, .cells [.int .i64 x2, .int .i64 a2, .int .i64 b2, slL (H.length + 2) ls2.length c2, .int .i64 s2] true], none⟩⟩) (retQ a_l_FnPlanks ⟨H, none⟩ fun v m => v = .bool true) := by
      intro ls2 c2 x2 a2 b2 s2 i2 w5 w6 w8 w9 w10 w14 w15 w16 w19 w20 w21 w22 w23 w24 w25 w26 w27 w28 w29 w30 w31 w32 w33 w34 w35 w36 w37 w38 w39 hn2
      rw [hR]
      refine pk_10 (ls := ls) (ls2 := ls2) (q := H.length) (q2 := H.length + 2) (c := c) (c2 := c2) (x := x) (a := a) (b := b) (s := s) (x2 := x2) (a2 := a2) (b2 := b2) (s2 := s2) (by omega) (fun X => ?_) (fun X => ?_) (by omega) (fun X => ?_) (fun X => ?_) (by rw [List.length_append]; exact Nat.le_add_right _ _) f3 (fun h => (f2 h).2)
      · rw [List.append_assoc, cellsAt_newk, hA]
        rfl
      · rw [List.append_assoc, cellsAt_new0]
        rfl
      · rw [List.append_assoc, cellsAt_newk]
        rfl
      · rw [List.append_assoc, cellsAt_newk]
        rfl
    rcases hbranch with ⟨rfl, rfl⟩ | rfl
    · simp (maxSteps := 2000000) only [fillParts, hu1, i1, i2, i3, i4, i5, i6, i7, bxx, hbb, hdd, decide_true, beq_self_eq_true, Bool.not_true, Bool.false_eq_true, if_false, if_true, Wp_some, Wp_none, Wp_ite, Wc_some, Wc_none, Wc_ite, Wp_thenRun, seqQ_normal, seqQ_exit, seqQ_ret, Wp_inBlock, blkQ_normal, blkQ_ret, blkQ_same, blkQ_exit, Wp_opThen, opQ_at, Wp_guardP, retQ_normal, retQ_ret, loopQ_normal, loopQ_exit, loopQ_ret, go_sem, entry, joinEsc, if_pos, reduceIte, Nat.reduceAdd, Nat.reduceLeDiff, Nat.reduceLT, Nat.reduceEqDiff]
      rw [← hA]
      refine (wc_DrawFarthestOut (hc.more _)).mono ?_
      rintro v m ⟨ls2, c2, x2, a2, b2, s2, i2, rfl, hn2, rfl⟩
      have hu2 : AV.under (H.length + 3 + 1) (slL (H.length + 2) ls2.length c2) = true := by simp [AV.under]
      simp (maxSteps := 2000000) only [fillParts, hu2, if_true, Wp_some, Wp_none, Wp_ite, Wc_some, Wc_none, Wc_ite, Wp_thenRun, seqQ_normal, seqQ_exit, seqQ_ret, Wp_inBlock, blkQ_normal, blkQ_ret, blkQ_same, blkQ_exit, Wp_opThen, opQ_at, Wp_guardP, retQ_normal, retQ_ret, loopQ_normal, loopQ_exit, loopQ_ret, go_sem, entry, joinEsc, if_pos, reduceIte, Nat.reduceAdd, Nat.reduceLeDiff, Nat.reduceLT, Nat.reduceEqDiff]
      exact r ls2 c2 x2 a2 b2 s2 i2 _ _ _ _ _ _ _ _ _ _ _ _ _ _ _ _ _ _ _ _ _ _ _ _ _ _ _ _ _ hn2
    · cases tw with
      | false =>
        simp (maxSteps := 2000000) only [fillParts, hu1, i1, i2, i3, i4, i5, i6, i7, bxx, hbb, hdd, decide_true, beq_self_eq_true, Bool.not_true, Bool.false_eq_true, if_false, if_true, Wp_some, Wp_none, Wp_ite, Wc_some, Wc_none, Wc_ite, Wp_thenRun, seqQ_normal, seqQ_exit, seqQ_ret, Wp_inBlock, blkQ_normal, blkQ_ret, blkQ_same, blkQ_exit, Wp_opThen, opQ_at, Wp_guardP, retQ_normal, retQ_ret, loopQ_normal, loopQ_exit, loopQ_ret, go_sem, entry, joinEsc, if_pos, reduceIte, Nat.reduceAdd, Nat.reduceLeDiff, Nat.reduceLT, Nat.reduceEqDiff]
        rw [← hA]
        refine (wc_DrawFarthestOut (hc.more _)).mono ?_
        rintro v m ⟨ls2, c2, x2, a2, b2, s2, i2, rfl, hn2, rfl⟩
        have hu2 : AV.under (H.length + 3 + 1) (slL (H.length + 2) ls2.length c2) = true := by simp [AV.under]
        simp (maxSteps := 2000000) only [fillParts, hu2, if_true, Wp_some, Wp_none, Wp_ite, Wc_some, Wc_none, Wc_ite, Wp_thenRun, seqQ_normal, seqQ_exit, seqQ_ret, Wp_inBlock, blkQ_normal, blkQ_ret, blkQ_same, blkQ_exit, Wp_opThen, opQ_at, Wp_guardP, retQ_normal, retQ_ret, loopQ_normal, loopQ_exit, loopQ_ret, go_sem, entry, joinEsc, if_pos, reduceIte, Nat.reduceAdd, Nat.reduceLeDiff, Nat.reduceLT, Nat.reduceEqDiff]
        exact r ls2 c2 x2 a2 b2 s2 i2 _ _ _ _ _ _ _ _ _ _ _ _ _ _ _ _ _ _ _ _ _ _ _ _ _ _ _ _ _ hn2
      | true =>
        simp (maxSteps := 2000000) only [fillParts, hu1, i1, i2, i3, i4, i5, i6, i7, bxx, hbb, hdd, decide_true, beq_self_eq_true, Bool.not_true, Bool.false_eq_true, if_false, if_true, Wp_some, Wp_none, Wp_ite, Wc_some, Wc_none, Wc_ite, Wp_thenRun, seqQ_normal, seqQ_exit, seqQ_ret, Wp_inBlock, blkQ_normal, blkQ_ret, blkQ_same, blkQ_exit, Wp_opThen, opQ_at, Wp_guardP, retQ_normal, retQ_ret, loopQ_normal, loopQ_exit, loopQ_ret, go_sem, entry, joinEsc, if_pos, reduceIte, Nat.reduceAdd, Nat.reduceLeDiff, Nat.reduceLT, Nat.reduceEqDiff]
        rw [← hA]
        refine (wc_DrawFarthestOut (hc.more _)).mono ?_
        rintro v m ⟨ls2, c2, x2, a2, b2, s2, i2, rfl, hn2, rfl⟩
        have hu2 : AV.under (H.length + 3 + 1) (slL (H.length + 2) ls2.length c2) = true := by simp [AV.under]
        simp (maxSteps := 2000000) only [fillParts, hu2, if_true, Wp_some, Wp_none, Wp_ite, Wc_some, Wc_none, Wc_ite, Wp_thenRun, seqQ_normal, seqQ_exit, seqQ_ret, Wp_inBlock, blkQ_normal, blkQ_ret, blkQ_same, blkQ_exit, Wp_opThen, opQ_at, Wp_guardP, retQ_normal, retQ_ret, loopQ_normal, loopQ_exit, loopQ_ret, go_sem, entry, joinEsc, if_pos, reduceIte, Nat.reduceAdd, Nat.reduceLeDiff, Nat.reduceLT, Nat.reduceEqDiff]
        exact r ls2 c2 x2 a2 b2 s2 i2 _ _ _ _ _ _ _ _ _ _ _ _ _ _ _ _ _ _ _ _ _ _ _ _ _ _ _ _ _ hn2

theorem law_Planks {av : AV} {zs : List Int} (h : ArgB H av zs) : ∃ m', call T pr f_l_FnPlanks [av] ⟨H, none⟩ = some (.bool true, m') := by
  obtain ⟨p, sz, n, c, rfl, hc⟩ := h.form
  obtain ⟨v, m, h1, rfl⟩ := wc_FnPlanks (pr := pr) hc
  exact ⟨m, h1⟩

end Go.Proofs.Ythkgpblohjpcdaa.Slim
