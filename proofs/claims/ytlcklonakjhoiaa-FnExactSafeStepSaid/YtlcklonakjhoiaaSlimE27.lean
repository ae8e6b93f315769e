/- Rafts: the law of the next safe steps. -/
import Derived.Test.YtlcklonakjhoiaaSlimE26
namespace Go.Proofs.Ytlcklonakjhoiaa.Slim

open Go

set_option linter.unusedSimpArgs false

set_option linter.unusedVariables false

variable {pr : Prims} {H : List Blk} {e : Option Nat}

theorem code_lt {ls : List Ld} {os : List Int} (hn8 : ls.length ≤ 8) (h : rises ls.length (-1) os = true) : codeN 0 os < 2 ^ ls.length ∧ bitsF 0 os = ((codeN 0 os : Nat) : Int) := by
  obtain ⟨h1, h2⟩ := bitsF_code (n := ls.length) hn8 os (-1) 0 (by omega) (by omega) (by decide) h
  exact ⟨h2, h1⟩

theorem e_i_SafeStep_no {q q' : Nat} {c c' : Option Nat} {ls : List Ld} {os : List Int} (hq : cellsAt H q = some (encL ls)) (hls : ls.length ≤ 1048576) (hq' : cellsAt H q' = some (encI os)) (hn : os.length ≤ 9223372036854775806) (a b o : Int) (h : canS a b o ls os = false) :
    call T pr f_i_SafeStep [rfV a b o, slL q ls.length c, slI q' os.length c'] ⟨H, e⟩ = some (.tup [.slice none 0 0 none, .bool false], ⟨H, e⟩) := by
  rw [call_eq t_i_SafeStep]
  cases h1 : rises ls.length (-1) os with
  | false => simp +contextual only [a_i_SafeStep, c_i_SafeStep, e_i_bitsOf (cells_mono hq' _) hn hls, h1, finish_two_nb, go_sem, entry, joinEsc, if_pos, reduceIte, Nat.reduceAdd, Nat.reduceLeDiff, Nat.reduceLT, Nat.reduceEqDiff]
  | true =>
    cases h2 : cargoOk a b o ls with
    | false => simp +contextual only [a_i_SafeStep, c_i_SafeStep, e_i_bitsOf (cells_mono hq' _) hn hls, h1, e_i_areCargo (cells_mono hq _), h2, finish_two_nb, go_sem, entry, joinEsc, if_pos, reduceIte, Nat.reduceAdd, Nat.reduceLeDiff, Nat.reduceLT, Nat.reduceEqDiff]
    | true =>
      have hn8 := cargo_le h2
      obtain ⟨k1, k2⟩ := code_lt hn8 h1
      unfold canS setOk at h
      rw [h1, h2, Bool.and_self, Bool.true_and] at h
      simp +contextual only [a_i_SafeStep, c_i_SafeStep, e_i_bitsOf (cells_mono hq' _) hn hls, h1, e_i_areCargo (cells_mono hq _), h2, k2, e_i_Raft_isSafe (cells_mono hq _) (show ls.length ≤ 9223372036854775806 by omega), h, finish_two_nb, go_sem, entry, joinEsc, if_pos, reduceIte, Nat.reduceAdd, Nat.reduceLeDiff, Nat.reduceLT, Nat.reduceEqDiff]

theorem e_s_SafeStep_no {q q' : Nat} {c c' : Option Nat} {ls : List Ld} {os : List Int} (hq : cellsAt H q = some (encL ls)) (hq' : cellsAt H q' = some (encI os)) (hn : os.length ≤ 9223372036854775806) (a b o : Int) (h : canS a b o ls os = false) :
    call T pr f_s_SafeStep [rfV a b o, slL q ls.length c, slI q' os.length c'] ⟨H, e⟩ = some (.tup [slI H.length 0 (some 0), .bool false], ⟨H ++ [.cells [] true], e⟩) := by
  rw [call_eq t_s_SafeStep]
  have hf1 : ∀ (B : Blk) (e0 : Option Nat), finish 2 H.length e0 (.tup [slI (H.length + 1) 0 (some 0), .bool false]) ⟨H ++ [B, .cells [] true], none⟩ = some (.tup [slI H.length 0 (some 0), .bool false], ⟨H ++ [.cells [] true], e0⟩) := fun B e0 => finish_two_sb false e0 rfl rfl
  cases h1 : setOk a b o ls os with
  | false => simp +contextual only [a_s_SafeStep, c_s_SafeStep, e_s_l10Code (cells_mono hq _) (cells_mono hq' _) hn, h1, fillParts, hf1, go_sem, entry, joinEsc, if_pos, reduceIte, Nat.reduceAdd, Nat.reduceLeDiff, Nat.reduceLT, Nat.reduceEqDiff]
  | true =>
    have hn8 := cargo_le (Bool.and_eq_true_iff.mp h1).1
    unfold canS at h
    rw [h1, Bool.true_and] at h
    simp +contextual only [a_s_SafeStep, c_s_SafeStep, e_s_l10Code (cells_mono hq _) (cells_mono hq' _) hn, h1, e_s_l10Safe (cells_mono hq _) (show ls.length ≤ 9223372036854775806 by omega), h, fillParts, hf1, go_sem, entry, joinEsc, if_pos, reduceIte, Nat.reduceAdd, Nat.reduceLeDiff, Nat.reduceLT, Nat.reduceEqDiff]

theorem e_i_SafeStep {q q' : Nat} {c c' : Option Nat} {ls : List Ld} {os : List Int} (hq : cellsAt H q = some (encL ls)) (hq' : cellsAt H q' = some (encI os)) (hn : os.length ≤ 9223372036854775806) (a b o : Int) (h : canS a b o ls os = true) :
    ∃ cap, call T pr f_i_SafeStep [rfV a b o, slL q ls.length c, slI q' os.length c'] ⟨H, e⟩ = some (.tup [slI H.length (ssW a b o ls os).length cap, .bool true], ⟨H ++ [.cells (encI (ssW a b o ls os)) true], e⟩) := by
  unfold canS at h
  obtain ⟨h12, h3⟩ := Bool.and_eq_true_iff.mp h
  unfold setOk at h12
  obtain ⟨h2, h1⟩ := Bool.and_eq_true_iff.mp h12
  have hn8 := cargo_le h2
  obtain ⟨k1, k2⟩ := code_lt hn8 h1
  have hs : stepsW (waysW a b o ls) ls.length (codeN 0 os) = ssW a b o ls os := rfl
  obtain ⟨cp, hst⟩ := e_i_stepsFrom (pr := pr) (e := none) (H := H ++ [.cells [.int .i64 a, .int .i64 b, .int .i64 o] true, .cells (encI (waysW a b o ls)) true]) (q := q) (w := H.length + 1) (c := c) (cw := some (2 ^ ls.length)) hn8 rfl k1 (by simp [cellsAt, List.getElem?_append_right]) (waysW_length a b o ls)
  simp only [hs, List.length_append, List.length_cons, List.length_nil, Nat.zero_add, List.append_assoc, List.cons_append, List.nil_append, Nat.reduceAdd] at hst
  refine ⟨cp, ?_⟩
  have hf : ∀ (B B' : Blk) (cap : Option Nat) (e0 : Option Nat), finish 2 H.length e0 (.tup [slI (H.length + 2) (ssW a b o ls os).length cap, .bool true]) ⟨H ++ [B, B', .cells (encI (ssW a b o ls os)) true], none⟩ = some (.tup [slI H.length (ssW a b o ls os).length cap, .bool true], ⟨H ++ [.cells (encI (ssW a b o ls os)) true], e0⟩) :=
    fun B B' cap e0 => finish_two_sb true e0 rfl (under_encI _ _)
  rw [call_eq t_i_SafeStep]
  simp +contextual only [a_i_SafeStep, c_i_SafeStep, e_i_bitsOf (cells_mono hq' _) hn (show ls.length ≤ 1048576 by omega), h1, e_i_areCargo (cells_mono hq _), h2, k2, e_i_Raft_isSafe (cells_mono hq _) (show ls.length ≤ 9223372036854775806 by omega), h3, e_i_Raft_waysOf (cells_mono hq _) hn8, hst, hf, go_sem, entry, joinEsc, if_pos, reduceIte, Nat.reduceAdd, Nat.reduceLeDiff, Nat.reduceLT, Nat.reduceEqDiff]

theorem e_s_SafeStep {q q' : Nat} {c c' : Option Nat} {ls : List Ld} {os : List Int} (hq : cellsAt H q = some (encL ls)) (hq' : cellsAt H q' = some (encI os)) (hn : os.length ≤ 9223372036854775806) (a b o : Int) (h : canS a b o ls os = true) :
    ∃ cap, call T pr f_s_SafeStep [rfV a b o, slL q ls.length c, slI q' os.length c'] ⟨H, e⟩ = some (.tup [slI H.length (ssW a b o ls os).length cap, .bool true], ⟨H ++ [.cells (encI (ssW a b o ls os)) true], e⟩) := by
  unfold canS at h
  obtain ⟨h12, h3⟩ := Bool.and_eq_true_iff.mp h
  have h12' := h12
  unfold setOk at h12'
  obtain ⟨h2, h1⟩ := Bool.and_eq_true_iff.mp h12'
  have hn8 := cargo_le h2
  obtain ⟨k1, k2⟩ := code_lt hn8 h1
  have hs : (List.map (fun (i : Nat) => (i : Int)) ((List.range' 0 ls.length).filter (okStep (waysW a b o ls) (codeN 0 os)))) = ssW a b o ls os := by unfold ssW stepsW; rw [List.range_eq_range']
  obtain ⟨j', cap', G', z12, z13, m1, hl⟩ := loop_s_SafeStep (pr := pr) (H := H ++ [Blk.cells [.int .i64 a, .int .i64 b, .int .i64 o] true]) (a0 := rfV a b o) (a2 := slI q' os.length c') (a3 := .ptr (some (H.length, 0))) (a4 := .slice none 0 0 none) (a5 := .bool false) (a8 := .bool true) (y11 := .bool false) (q := q) (w := H.length + 2) (c := c) (cw := some (2 ^ ls.length)) hn8 rfl k1
    (waysW_length a b o ls) ls.length 0 [] 0 (some 0) [.cells [] true, .cells (encI (waysW a b o ls)) true] .undef .undef (by simp [cellsAt, List.getElem?_append_right]) (by simp) rfl (Nat.zero_le _) rfl (fun _ => rfl)
  have h0 : ((0 : Nat) : Int) = 0 := rfl
  rw [h0, List.nil_append, hs] at hl
  rw [List.nil_append, hs] at m1
  refine ⟨cap', ?_⟩
  simp only [List.length_append, List.length_cons, List.length_nil, Nat.zero_add, Nat.add_zero, List.append_assoc, List.cons_append, List.nil_append, Nat.reduceAdd, Nat.add_assoc] at hl
  have hf : ∀ (B : Blk) (e0 : Option Nat), finish 2 H.length e0 (.tup [slI (H.length + (1 + j')) (ssW a b o ls os).length cap', .bool true]) ⟨H ++ (B :: G'), none⟩ = some (.tup [slI H.length (ssW a b o ls os).length cap', .bool true], ⟨H ++ [.cells (encI (ssW a b o ls os)) true], e0⟩) :=
    fun B e0 => finish_two_sb true e0 (by rw [show 1 + j' = j' + 1 by omega]; exact m1) (under_encI _ _)
  rw [call_eq t_s_SafeStep]
  simp +contextual only [a_s_SafeStep, c_s_SafeStep, e_s_l10Code (cells_mono hq _) (cells_mono hq' _) hn, h12, e_s_l10Safe (cells_mono hq _) (show ls.length ≤ 9223372036854775806 by omega), h3, e_s_l10Ways (cells_mono hq _) hn8, fillParts, hl, hf, go_sem, entry, joinEsc, if_pos, reduceIte, Nat.reduceAdd, Nat.reduceLeDiff, Nat.reduceLT, Nat.reduceEqDiff]

theorem law_SafeStep {av av' : AV} {ls : List Ld} {os : List Int} (ha : ArgL H av ls) (hb : ArgI H av' os) (a b o : Int) : ∃ m', call T pr f_l_FnExactSafeStep [rfV a b o, av, av'] ⟨H, none⟩ = some (.bool true, m') := by
  refine ⟨⟨H, none⟩, ?_⟩
  have hsz : ∀ G e', call T pr f_l_szLoadS [av, .int .i64 1048576] ⟨G, e'⟩ = some (.int .i64 (if ls.length ≤ 1048576 then 1048576 - ls.length else -1), ⟨G, e'⟩) := by
    obtain ⟨p, sz, c, rfl, h2, h3⟩ := ha
    exact fun G e' => e_l_szLoadS ls.length p sz c h2
  have hlen : ∃ p sz c, av' = .slice p sz os.length c := by
    obtain ⟨p, sz, c, h1, _⟩ := hb
    exact ⟨p, sz, c, h1⟩
  rw [call_eq t_l_FnExactSafeStep]
  by_cases hm : os.length ≤ 1048576
  · have hm' : os.length ≤ 9223372036854775806 := by omega
    have hgt : decide ((os.length : Int) > 1048576) = false := decide_eq_false (by omega)
    have hgt' : decide ((1048576 : Int) < (os.length : Int)) = false := decide_eq_false (by omega)
    have hcopyI := fun G => e_l_toIntS (pr := pr) (e := none) (hb.more G) hm
    obtain ⟨p, sz, c, rfl⟩ := hlen
    by_cases hn : ls.length ≤ 1048576
    · have hn' : ls.length ≤ 9223372036854775806 := by omega
      have hneg : ¬ (1048576 - (ls.length : Int) < 0) := by omega
      have hcopy := fun G => e_l_toLoadS (pr := pr) (e := none) (ha.more G) hn
      have hmark : ∀ L b c, L[b]? = some (.cells (encL ls) true) → call T pr f_l_markLoadS [slL b ls.length c, .int .i64 1] ⟨L, none⟩ = some (.int .i64 ((1 + ls.length * 2 : Nat) : Int), ⟨L.set b (.cells (encL (markedL 1 ls.length)) true), none⟩) :=
        fun L b c h => e_l_markLoadS h (by omega) 1 (by omega)
      have hmark2 : ∀ L b c, L[b]? = some (.cells (encI os) true) → call T pr f_l_markIntS [slI b os.length c, .int .i64 ((1 + ls.length * 2 : Nat) : Int)] ⟨L, none⟩ = some (.int .i64 ((1 + ls.length * 2 + os.length : Nat) : Int), ⟨L.set b (.cells (encI (markedI (1 + ls.length * 2) os.length)) true), none⟩) :=
        fun L b c h => e_l_markIntS h (by omega) (1 + ls.length * 2) (by omega)
      have hk0 : ¬ (((1 + ls.length * 2 + os.length : Nat) : Int) < 0) := by omega
      have h10 : ¬ ((1 : Int) < 0) := by omega
      cases hcan : canS a b o ls os with
      | false =>
        have hs := fun L q c hq q' c' hq' => e_s_SafeStep_no (pr := pr) (H := L) (e := none) (q := q) (c := c) (ls := ls) (q' := q') (c' := c') (os := os) hq hq' hm' a b o hcan
        have hi := fun L q c hq q' c' hq' => e_i_SafeStep_no (pr := pr) (H := L) (e := none) (q := q) (c := c) (ls := ls) (q' := q') (c' := c') (os := os) hq hn hq' hm' a b o hcan
        simp +contextual only [a_l_FnExactSafeStep, c_l_FnExactSafeStep, hsz, hn, hm, hgt, hgt', hneg, decide_false, decide_true, e_l_toRaft, hcopy, hcopyI, hs, hi, e_l_eqIntS_none, e_l_markIntS_none, e_l_heldIntS_none, hmark, hmark2, hk0, h10, e_l_eqLoadS, e_l_eqIntS, hn', hm', beq_self_eq_true, go_sem, entry, joinEsc, if_pos, reduceIte, Nat.reduceAdd, Nat.reduceLeDiff, Nat.reduceLT, Nat.reduceEqDiff]
      | true =>
        have hl := ssW_le a b o ls os
        have hc8 := cargo_le (Bool.and_eq_true_iff.mp (Bool.and_eq_true_iff.mp hcan).1).1
        have hs := fun L q c hq q' c' hq' => hid_tup (e_s_SafeStep (pr := pr) (H := L) (e := none) (q := q) (c := c) (ls := ls) (q' := q') (c' := c') (os := os) hq hq' hm' a b o hcan)
        have hi := fun L q c hq q' c' hq' => hid_tup (e_i_SafeStep (pr := pr) (H := L) (e := none) (q := q) (c := c) (ls := ls) (q' := q') (c' := c') (os := os) hq hq' hm' a b o hcan)
        generalize ssW a b o ls os = rs at *
        have ho' : rs.length ≤ 9223372036854775806 := by omega
        have hmi : ∀ L b c, L[b]? = some (.cells (encI rs) true) → call T pr f_l_markIntS [slI b rs.length c, .int .i64 1] ⟨L, none⟩ = some (.int .i64 ((1 + rs.length : Nat) : Int), ⟨L.set b (.cells (encI (markedI 1 rs.length)) true), none⟩) :=
          fun L b c h => e_l_markIntS h (by omega) 1 (by omega)
        have hhe : ∀ L b c, cellsAt L b = some (encI (markedI 1 rs.length)) → call T pr f_l_heldIntS [slI b rs.length c, .int .i64 1] ⟨L, none⟩ = some (.int .i64 ((1 + rs.length : Nat) : Int), ⟨L, none⟩) :=
          fun L b c h => e_l_heldIntS (k := 1) h (by omega) (by omega)
        have hk1 : ¬ (((1 + rs.length : Nat) : Int) < 0) := by omega
        simp +contextual only [a_l_FnExactSafeStep, c_l_FnExactSafeStep, hsz, hn, hm, hgt, hgt', hneg, decide_false, decide_true, e_l_toRaft, hcopy, hcopyI, hs, hi, e_l_eqIntS, ho', hm', hmi, hhe, hk1, hmark, hmark2, hk0, h10, e_l_eqLoadS, hn', beq_self_eq_true, go_sem, entry, joinEsc, if_pos, reduceIte, Nat.reduceAdd, Nat.reduceLeDiff, Nat.reduceLT, Nat.reduceEqDiff]
    · simp +contextual only [a_l_FnExactSafeStep, c_l_FnExactSafeStep, hsz, hn, hgt, hgt', decide_true, show ((-1 : Int) < 0) by omega, go_sem, entry, joinEsc, if_pos, reduceIte, Nat.reduceAdd, Nat.reduceLeDiff, Nat.reduceLT, Nat.reduceEqDiff]
  · have hgt : decide ((os.length : Int) > 1048576) = true := decide_eq_true (by omega)
    have hgt' : decide ((1048576 : Int) < (os.length : Int)) = true := decide_eq_true (by omega)
    obtain ⟨p, sz, c, rfl⟩ := hlen
    simp +contextual only [a_l_FnExactSafeStep, c_l_FnExactSafeStep, hgt, hgt', go_sem, entry, joinEsc, if_pos, reduceIte, Nat.reduceAdd, Nat.reduceLeDiff, Nat.reduceLT, Nat.reduceEqDiff]

end Go.Proofs.Ytlcklonakjhoiaa.Slim
