/- Rafts: the law of the first safe order. -/
import Derived.Test.YtlcklonakjhoiaaSlimE21
namespace Go.Proofs.Ytlcklonakjhoiaa.Slim

open Go

set_option linter.unusedSimpArgs false

set_option linter.unusedVariables false

variable {pr : Prims} {H : List Blk} {e : Option Nat}

theorem soW_length (a b o : Int) (ls : List Ld) : (soW a b o ls).length = ls.length := orderW_length _ _ _ _

theorem law_SafeOrder {av : AV} {ls : List Ld} (ha : ArgL H av ls) (a b o : Int) : ∃ m', call T pr f_l_FnExactSafeOrder [rfV a b o, av] ⟨H, none⟩ = some (.bool true, m') := by
  refine ⟨⟨H, none⟩, ?_⟩
  have hsz : ∀ G e', call T pr f_l_szLoadS [av, .int .i64 1048576] ⟨G, e'⟩ = some (.int .i64 (if ls.length ≤ 1048576 then 1048576 - ls.length else -1), ⟨G, e'⟩) := by
    obtain ⟨p, sz, c, rfl, h2, h3⟩ := ha
    exact fun G e' => e_l_szLoadS ls.length p sz c h2
  rw [call_eq t_l_FnExactSafeOrder]
  by_cases hn : ls.length ≤ 1048576
  · have hn' : ls.length ≤ 9223372036854775806 := by omega
    have hneg : ¬ (1048576 - (ls.length : Int) < 0) := by omega
    have hcopy := fun G => e_l_toLoadS (pr := pr) (e := none) (ha.more G) hn
    have hmark : ∀ L b c, L[b]? = some (.cells (encL ls) true) → call T pr f_l_markLoadS [slL b ls.length c, .int .i64 1] ⟨L, none⟩ = some (.int .i64 ((1 + ls.length * 2 : Nat) : Int), ⟨L.set b (.cells (encL (markedL 1 ls.length)) true), none⟩) :=
      fun L b c h => e_l_markLoadS h (by omega) 1 (by omega)
    have hk0 : ¬ (((1 + ls.length * 2 : Nat) : Int) < 0) := by omega
    have h10 : ¬ ((1 : Int) < 0) := by omega
    cases hcan : canW a b o ls with
    | false =>
      have hs := fun L q c hq => e_s_SafeOrder_no (pr := pr) (H := L) (e := none) (q := q) (c := c) (ls := ls) hq a b o hcan
      have hi := fun L q c hq => e_i_SafeOrder_no (pr := pr) (H := L) (e := none) (q := q) (c := c) (ls := ls) hq a b o hcan
      simp +contextual only [a_l_FnExactSafeOrder, c_l_FnExactSafeOrder, hsz, hn, hneg, decide_false, decide_true, e_l_toRaft, hcopy, hs, hi, e_l_eqIntS_none, e_l_markIntS_none, e_l_heldIntS_none, hmark, hk0, h10, e_l_eqLoadS, hn', beq_self_eq_true, go_sem, entry, joinEsc, if_pos, reduceIte, Nat.reduceAdd, Nat.reduceLeDiff, Nat.reduceLT, Nat.reduceEqDiff]
    | true =>
      have hl := soW_length a b o ls
      have hc8 := cargo_le (Bool.and_eq_true_iff.mp hcan).1
      have hs := fun L q c hq => hid_tup (e_s_SafeOrder (pr := pr) (H := L) (e := none) (q := q) (c := c) (ls := ls) hq a b o hcan)
      have hi := fun L q c hq => hid_tup (e_i_SafeOrder (pr := pr) (H := L) (e := none) (q := q) (c := c) (ls := ls) hq a b o hcan)
      generalize soW a b o ls = os at *
      have ho' : os.length ≤ 9223372036854775806 := by omega
      have hmi : ∀ L b c, L[b]? = some (.cells (encI os) true) → call T pr f_l_markIntS [slI b os.length c, .int .i64 1] ⟨L, none⟩ = some (.int .i64 ((1 + os.length : Nat) : Int), ⟨L.set b (.cells (encI (markedI 1 os.length)) true), none⟩) :=
        fun L b c h => e_l_markIntS h (by omega) 1 (by omega)
      have hhe : ∀ L b c, cellsAt L b = some (encI (markedI 1 os.length)) → call T pr f_l_heldIntS [slI b os.length c, .int .i64 1] ⟨L, none⟩ = some (.int .i64 ((1 + os.length : Nat) : Int), ⟨L, none⟩) :=
        fun L b c h => e_l_heldIntS (k := 1) h (by omega) (by omega)
      have hk1 : ¬ (((1 + os.length : Nat) : Int) < 0) := by omega
      simp +contextual only [a_l_FnExactSafeOrder, c_l_FnExactSafeOrder, hsz, hn, hneg, decide_false, decide_true, e_l_toRaft, hcopy, hs, hi, e_l_eqIntS, ho', hmi, hhe, hk1, hmark, hk0, h10, e_l_eqLoadS, hn', beq_self_eq_true, go_sem, entry, joinEsc, if_pos, reduceIte, Nat.reduceAdd, Nat.reduceLeDiff, Nat.reduceLT, Nat.reduceEqDiff]
  · simp +contextual only [a_l_FnExactSafeOrder, c_l_FnExactSafeOrder, hsz, hn, decide_true, show ((-1 : Int) < 0) by omega, go_sem, entry, joinEsc, if_pos, reduceIte, Nat.reduceAdd, Nat.reduceLeDiff, Nat.reduceLT, Nat.reduceEqDiff]

end Go.Proofs.Ytlcklonakjhoiaa.Slim
