/- Rafts: the unloading's law. -/
import Derived.Test.YtlcklonakjhoiaaSlimE24
namespace Go.Proofs.Ytlcklonakjhoiaa.Slim

open Go

set_option linter.unusedSimpArgs false

set_option linter.unusedVariables false

variable {pr : Prims} {H : List Blk} {e : Option Nat}

theorem backW_length (a b o : Int) (ls : List Ld) : (backW a b o ls).length = 2 ^ ls.length := backL_length _ _ _

/-- can all be taken? -/
def canU (a b o : Int) (ls : List Ld) : Bool := cargoOk a b o ls && (backW a b o ls).getD (2 ^ ls.length - 1) false

/-- the first order in which all can be taken -/
def uoW (a b o : Int) (ls : List Ld) : List Int := unloadL (backW a b o ls) ls.length ls.length (2 ^ ls.length - 1)

theorem uoW_length (a b o : Int) (ls : List Ld) : (uoW a b o ls).length = ls.length := unloadL_length _ _ _ _

theorem backF {a b o : Int} {ls : List Ld} (sz : Nat) : part false (encB (backW a b o ls)) (2 ^ ls.length - 1) sz = some (.bool ((backW a b o ls).getD (2 ^ ls.length - 1) false)) :=
  part_encB sz (by rw [backW_length]; have := Nat.two_pow_pos ls.length; omega)

theorem e_i_UnloadOrder {q : Nat} {c : Option Nat} {ls : List Ld} (hq : cellsAt H q = some (encL ls)) (a b o : Int) : ∃ cap, call T pr f_i_UnloadOrder [rfV a b o, slL q ls.length c] ⟨H, e⟩ =
    some (if canU a b o ls = true then (.tup [slI H.length (uoW a b o ls).length cap, .bool true], ⟨H ++ [.cells (encI (uoW a b o ls)) true], e⟩) else (.tup [.slice none 0 0 none, .bool false], ⟨H, e⟩)) := by
  rw [call_eq t_i_UnloadOrder]
  unfold canU
  cases h1 : cargoOk a b o ls with
  | false =>
    refine ⟨none, ?_⟩
    rw [Bool.false_and, if_neg (by simp)]
    simp +contextual only [a_i_UnloadOrder, c_i_UnloadOrder, e_i_areCargo (cells_mono hq _), h1, finish_two_nb, go_sem, entry, joinEsc, if_pos, reduceIte, Nat.reduceAdd, Nat.reduceLeDiff, Nat.reduceLT, Nat.reduceEqDiff]
  | true =>
    have hn8 := cargo_le h1
    rw [Bool.true_and]
    obtain ⟨p1, p2, p3⟩ := pow_facts ls.length (by omega)
    have hlen := backW_length a b o ls
    have hbF := backF (a := a) (b := b) (o := o) (ls := ls) 1
    have hgood := fun c (hc : c < 2 ^ ls.length) => back_good (safe := fun c => safeW a b o ls (c : Int)) (n := ls.length) rfl hn8 hc
    have hbw : backL (fun c => safeW a b o ls (c : Int)) ls.length (2 ^ ls.length) = backW a b o ls := rfl
    simp only [hbw] at hgood
    have hnu := (nu_facts ls.length (by omega) (2 ^ ls.length - 1) (by omega)).2.1 (by omega)
    have huo : uoW a b o ls = unloadL (backW a b o ls) ls.length ls.length (2 ^ ls.length - 1) := rfl
    have hu : cellsAt (H ++ [Blk.cells [.int .i64 a, .int .i64 b, .int .i64 o] true]) H.length = some [.int .i64 a, .int .i64 b, .int .i64 o] := by simp [cellsAt, List.getElem?_append_right]
    generalize hF : 2 ^ ls.length = F at *
    have hx : ((F - 1 : Nat) : Int) = (F : Int) - 1 := by omega
    have w1 : IntKind.i64.wrap ((F : Int) - 1) = ((F - 1 : Nat) : Int) := by rw [hx]; exact wrap64 (by omega) (by omega)
    have w2 : IntKind.i64.wrap (((F - 1 : Nat) : Int) + 1) = (F : Int) := by rw [hx, show (F : Int) - 1 + 1 = F by omega]; exact wrap64 (by omega) (by omega)
    have hmb : (F : Int) * ((1 : Nat) : Int) ≤ ((maxBytes : Nat) : Int) := by unfold maxBytes; omega
    have h0 : ((0 : Nat) : Int) = 0 := rfl
    have hFl : F - 1 < F := by omega
    obtain ⟨z7, z8, z15, z16, z17, z18, z19, z20, hl⟩ := loop_i_UnloadOrder_2 (pr := pr) (a0 := rfV a b o) (a3 := .slice none 0 0 none) (a4 := .bool false) (a5 := .int .i64 ((F - 1 : Nat) : Int)) (b9 := .undef) (b10 := .undef) (b11 := .undef) (b12 := .bool false) (b21 := .undef) (b22 := .undef) (b23 := .undef) (b24 := .undef) (b25 := .undef) (b26 := .undef) (c := c) rfl hn8 hF.symm (cells_mono hq [Blk.cells [.int .i64 a, .int .i64 b, .int .i64 o] true]) hu F 0 .undef .undef .undef .undef .undef .undef .undef .undef (by omega)
    rw [backL, List.nil_append, ← zeros_encB, List.append_assoc, List.append_assoc, h0, hbw] at hl
    simp only [List.length_append, List.length_cons, List.length_nil, Nat.zero_add, List.cons_append, List.nil_append] at hl
    cases h2 : (backW a b o ls).getD (F - 1) false with
    | false =>
      refine ⟨none, ?_⟩
      rw [h2] at hbF
      rw [if_neg (by simp)]
      simp +contextual only [a_i_UnloadOrder, c_i_UnloadOrder, e_i_areCargo (cells_mono hq _), h1, shl_nat, p1, w1, w2, hmb, hl, hFl, hbF, finish_two_nb, go_sem, entry, joinEsc, if_pos, reduceIte, Nat.reduceAdd, Nat.reduceLeDiff, Nat.reduceLT, Nat.reduceEqDiff]
    | true =>
      rw [h2] at hbF
      obtain ⟨j', cap', G', v10, v11, v22, v23, v24, v25, v26, k1, hl2⟩ := loop_i_UnloadOrder_4 (pr := pr) (H := H ++ [Blk.cells [.int .i64 a, .int .i64 b, .int .i64 o] true, .cells (encB (backW a b o ls)) true]) (a0 := rfV a b o) (a2 := .ptr (some (H.length, 0))) (a3 := .slice none 0 0 none) (a4 := .bool false) (a5 := .int .i64 ((F - 1 : Nat) : Int)) (a7 := z7) (a8 := z8) (b12 := .bool false) (b13 := .int .i64 F) (b14 := .int .i64 F) (b15 := z15) (b16 := z16) (b17 := z17) (b18 := z18) (b19 := z19) (b20 := z20) (b21 := .bool false) (q := q) (w := H.length + 1) (c := c) (cw := some F) hn8 hF.symm
        (by simp [cellsAt, List.getElem?_append_right]) hlen hgood ls.length (F - 1) [] 0 (some 0) [.cells [] true] .undef .undef .undef .undef .undef .undef rfl hnu hFl h2 rfl (fun _ => rfl)
      rw [List.nil_append, ← huo] at hl2 k1
      refine ⟨cap', ?_⟩
      rw [if_pos rfl]
      simp only [List.length_append, List.length_cons, List.length_nil, Nat.zero_add, Nat.add_zero, List.append_assoc, List.cons_append, List.nil_append, Nat.reduceAdd, Nat.add_assoc] at hl2
      have hf : ∀ (B B' : Blk) (e0 : Option Nat), finish 2 H.length e0 (.tup [slI (H.length + (2 + j')) (uoW a b o ls).length cap', .bool true]) ⟨H ++ (B :: B' :: G'), none⟩ = some (.tup [slI H.length (uoW a b o ls).length cap', .bool true], ⟨H ++ [.cells (encI (uoW a b o ls)) true], e0⟩) :=
        fun B B' e0 => finish_two_sb true e0 (by rw [show 2 + j' = j' + 1 + 1 by omega]; exact k1) (under_encI _ _)
      simp +contextual only [a_i_UnloadOrder, c_i_UnloadOrder, e_i_areCargo (cells_mono hq _), h1, shl_nat, p1, w1, w2, hmb, hl, hFl, hbF, fillParts, hl2, hf, go_sem, entry, joinEsc, if_pos, reduceIte, Nat.reduceAdd, Nat.reduceLeDiff, Nat.reduceLT, Nat.reduceEqDiff]

theorem e_s_UnloadOrder {q : Nat} {c : Option Nat} {ls : List Ld} (hq : cellsAt H q = some (encL ls)) (a b o : Int) : ∃ cap, call T pr f_s_UnloadOrder [rfV a b o, slL q ls.length c] ⟨H, e⟩ =
    some (if canU a b o ls = true then (.tup [slI H.length (uoW a b o ls).length cap, .bool true], ⟨H ++ [.cells (encI (uoW a b o ls)) true], e⟩) else (.tup [slI H.length 0 (some 0), .bool false], ⟨H ++ [.cells [] true], e⟩)) := by
  rw [call_eq t_s_UnloadOrder]
  unfold canU
  have hf1 : ∀ (B : Blk) (e0 : Option Nat), finish 2 H.length e0 (.tup [slI (H.length + 1) 0 (some 0), .bool false]) ⟨H ++ [B, .cells [] true], none⟩ = some (.tup [slI H.length 0 (some 0), .bool false], ⟨H ++ [.cells [] true], e0⟩) := fun B e0 => finish_two_sb false e0 rfl rfl
  have hf2 : ∀ (B B' : Blk) (e0 : Option Nat), finish 2 H.length e0 (.tup [slI (H.length + 1) 0 (some 0), .bool false]) ⟨H ++ [B, .cells [] true, B'], none⟩ = some (.tup [slI H.length 0 (some 0), .bool false], ⟨H ++ [.cells [] true], e0⟩) := fun B B' e0 => finish_two_sb false e0 rfl rfl
  cases h1 : cargoOk a b o ls with
  | false =>
    refine ⟨none, ?_⟩
    rw [Bool.false_and, if_neg (by simp)]
    simp +contextual only [a_s_UnloadOrder, c_s_UnloadOrder, e_s_l10Cargo (cells_mono hq _), h1, fillParts, hf1, go_sem, entry, joinEsc, if_pos, reduceIte, Nat.reduceAdd, Nat.reduceLeDiff, Nat.reduceLT, Nat.reduceEqDiff]
  | true =>
    have hn8 := cargo_le h1
    rw [Bool.true_and]
    obtain ⟨p1, p2, p3⟩ := pow_facts ls.length (by omega)
    have hlen := backW_length a b o ls
    have hbF := backF (a := a) (b := b) (o := o) (ls := ls) 1
    have hgood := fun c (hc : c < 2 ^ ls.length) => back_good (safe := fun c => safeW a b o ls (c : Int)) (n := ls.length) rfl hn8 hc
    have hbw : backL (fun c => safeW a b o ls (c : Int)) ls.length (2 ^ ls.length) = backW a b o ls := rfl
    simp only [hbw] at hgood
    have hnu := (nu_facts ls.length (by omega) (2 ^ ls.length - 1) (by omega)).2.1 (by omega)
    have huo : uoW a b o ls = unloadL (backW a b o ls) ls.length ls.length (2 ^ ls.length - 1) := rfl
    have hback := fun G => e_s_l10Back (pr := pr) (e := none) (c := c) (cells_mono hq G) hn8 a b o
    generalize hF : 2 ^ ls.length = F at *
    have hx : ((F - 1 : Nat) : Int) = (F : Int) - 1 := by omega
    have w1 : IntKind.i64.wrap ((F : Int) - 1) = ((F - 1 : Nat) : Int) := by rw [hx]; exact wrap64 (by omega) (by omega)
    have hFl : F - 1 < F := by omega
    cases h2 : (backW a b o ls).getD (F - 1) false with
    | false =>
      refine ⟨none, ?_⟩
      rw [h2] at hbF
      rw [if_neg (by simp)]
      simp +contextual only [a_s_UnloadOrder, c_s_UnloadOrder, e_s_l10Cargo (cells_mono hq _), h1, fillParts, shl_nat, p1, w1, hback, hFl, hbF, hf2, go_sem, entry, joinEsc, if_pos, reduceIte, Nat.reduceAdd, Nat.reduceLeDiff, Nat.reduceLT, Nat.reduceEqDiff]
    | true =>
      rw [h2] at hbF
      obtain ⟨j', cap', G', v7, v8, v11, v12, k1, hl2⟩ := loop_s_UnloadOrder_2 (pr := pr) (H := H ++ [Blk.cells [.int .i64 a, .int .i64 b, .int .i64 o] true]) (a0 := rfV a b o) (a2 := .ptr (some (H.length, 0))) (a3 := .slice none 0 0 none) (a4 := .bool false) (b9 := .bool false) (b10 := .bool false) (q := q) (w := H.length + 2) (c := c) (cw := some F) hn8 hF.symm
        hlen hgood ls.length (F - 1) [] 0 (some 0) [.cells [] true, .cells (encB (backW a b o ls)) true] .undef .undef .undef (by simp [cellsAt, List.getElem?_append_right]) (by simp) rfl hnu hFl h2 rfl (fun _ => rfl)
      rw [List.nil_append, ← huo] at hl2 k1
      refine ⟨cap', ?_⟩
      rw [if_pos rfl]
      simp only [List.length_append, List.length_cons, List.length_nil, Nat.zero_add, Nat.add_zero, List.append_assoc, List.cons_append, List.nil_append, Nat.reduceAdd, Nat.add_assoc] at hl2
      have hf : ∀ (B : Blk) (e0 : Option Nat), finish 2 H.length e0 (.tup [slI (H.length + (1 + j')) (uoW a b o ls).length cap', .bool true]) ⟨H ++ (B :: G'), none⟩ = some (.tup [slI H.length (uoW a b o ls).length cap', .bool true], ⟨H ++ [.cells (encI (uoW a b o ls)) true], e0⟩) :=
        fun B e0 => finish_two_sb true e0 (by rw [show 1 + j' = j' + 1 by omega]; exact k1) (under_encI _ _)
      simp +contextual only [a_s_UnloadOrder, c_s_UnloadOrder, e_s_l10Cargo (cells_mono hq _), h1, fillParts, shl_nat, p1, w1, hback, hFl, hbF, hl2, hf, go_sem, entry, joinEsc, if_pos, reduceIte, Nat.reduceAdd, Nat.reduceLeDiff, Nat.reduceLT, Nat.reduceEqDiff]

theorem law_UnloadOrder {av : AV} {ls : List Ld} (ha : ArgL H av ls) (a b o : Int) : ∃ m', call T pr f_l_FnExactUnloadOrder [rfV a b o, av] ⟨H, none⟩ = some (.bool true, m') := by
  refine ⟨⟨H, none⟩, ?_⟩
  have hsz : ∀ G e', call T pr f_l_szLoadS [av, .int .i64 1048576] ⟨G, e'⟩ = some (.int .i64 (if ls.length ≤ 1048576 then 1048576 - ls.length else -1), ⟨G, e'⟩) := by
    obtain ⟨p, sz, c, rfl, h2, h3⟩ := ha
    exact fun G e' => e_l_szLoadS ls.length p sz c h2
  rw [call_eq t_l_FnExactUnloadOrder]
  by_cases hn : ls.length ≤ 1048576
  · have hn' : ls.length ≤ 9223372036854775806 := by omega
    have hneg : ¬ (1048576 - (ls.length : Int) < 0) := by omega
    have hcopy := fun G => e_l_toLoadS (pr := pr) (e := none) (ha.more G) hn
    have hmark : ∀ L b c, L[b]? = some (.cells (encL ls) true) → call T pr f_l_markLoadS [slL b ls.length c, .int .i64 1] ⟨L, none⟩ = some (.int .i64 ((1 + ls.length * 2 : Nat) : Int), ⟨L.set b (.cells (encL (markedL 1 ls.length)) true), none⟩) :=
      fun L b c h => e_l_markLoadS h (by omega) 1 (by omega)
    have hk0 : ¬ (((1 + ls.length * 2 : Nat) : Int) < 0) := by omega
    have h10 : ¬ ((1 : Int) < 0) := by omega
    have hs0 := fun L q c hq => e_s_UnloadOrder (pr := pr) (H := L) (e := none) (q := q) (c := c) (ls := ls) hq a b o
    have hi0 := fun L q c hq => e_i_UnloadOrder (pr := pr) (H := L) (e := none) (q := q) (c := c) (ls := ls) hq a b o
    cases hcan : canU a b o ls with
    | false =>
      simp only [hcan, Bool.false_eq_true, if_false] at hs0 hi0
      have hs : ∀ L q c, cellsAt L q = some (encL ls) → _ := fun L q c hq => (hs0 L q c hq).choose_spec
      have hi : ∀ L q c, cellsAt L q = some (encL ls) → _ := fun L q c hq => (hi0 L q c hq).choose_spec
      simp +contextual only [a_l_FnExactUnloadOrder, c_l_FnExactUnloadOrder, hsz, hn, hneg, decide_false, decide_true, e_l_toRaft, hcopy, hs, hi, e_l_eqIntS_none, e_l_markIntS_none, e_l_heldIntS_none, hmark, hk0, h10, e_l_eqLoadS, hn', beq_self_eq_true, go_sem, entry, joinEsc, if_pos, reduceIte, Nat.reduceAdd, Nat.reduceLeDiff, Nat.reduceLT, Nat.reduceEqDiff]
    | true =>
      have hl := uoW_length a b o ls
      have hc8 := cargo_le (Bool.and_eq_true_iff.mp hcan).1
      simp only [hcan, if_true] at hs0 hi0
      have hs := fun L q c hq => hid_tup (hs0 L q c hq)
      have hi := fun L q c hq => hid_tup (hi0 L q c hq)
      generalize uoW a b o ls = os at *
      have ho' : os.length ≤ 9223372036854775806 := by omega
      have hmi : ∀ L b c, L[b]? = some (.cells (encI os) true) → call T pr f_l_markIntS [slI b os.length c, .int .i64 1] ⟨L, none⟩ = some (.int .i64 ((1 + os.length : Nat) : Int), ⟨L.set b (.cells (encI (markedI 1 os.length)) true), none⟩) :=
        fun L b c h => e_l_markIntS h (by omega) 1 (by omega)
      have hhe : ∀ L b c, cellsAt L b = some (encI (markedI 1 os.length)) → call T pr f_l_heldIntS [slI b os.length c, .int .i64 1] ⟨L, none⟩ = some (.int .i64 ((1 + os.length : Nat) : Int), ⟨L, none⟩) :=
        fun L b c h => e_l_heldIntS (k := 1) h (by omega) (by omega)
      have hk1 : ¬ (((1 + os.length : Nat) : Int) < 0) := by omega
      simp +contextual only [a_l_FnExactUnloadOrder, c_l_FnExactUnloadOrder, hsz, hn, hneg, decide_false, decide_true, e_l_toRaft, hcopy, hs, hi, e_l_eqIntS, ho', hmi, hhe, hk1, hmark, hk0, h10, e_l_eqLoadS, hn', beq_self_eq_true, go_sem, entry, joinEsc, if_pos, reduceIte, Nat.reduceAdd, Nat.reduceLeDiff, Nat.reduceLT, Nat.reduceEqDiff]
  · simp +contextual only [a_l_FnExactUnloadOrder, c_l_FnExactUnloadOrder, hsz, hn, decide_true, show ((-1 : Int) < 0) by omega, go_sem, entry, joinEsc, if_pos, reduceIte, Nat.reduceAdd, Nat.reduceLeDiff, Nat.reduceLT, Nat.reduceEqDiff]

end Go.Proofs.Ytlcklonakjhoiaa.Slim
