/- The pull that holds a row; the law. -/
import Derived.Test.YtlocjmbfcdfjfaaSlimE31
namespace Go.Proofs.Ytlocjmbfcdfjfaa.Slim

open Go

set_option linter.unusedSimpArgs false

set_option linter.unusedVariables false

variable {pr : Prims} {H : List Blk} {e : Option Nat}

def weightW (ls : List Ld) : Int := ls.foldl (fun a l => IntKind.i64.wrap (a + l.2)) 0

theorem loop_i_weightOf {q : Nat} {c : Option Nat} {ls : List Ld} {r : AV} (h : cellsAt H q = some (encL ls)) (hn : ls.length ≤ 9223372036854775806) :
    ∀ (k i : Nat) (a : Int) (G : List Blk) (y3 y7 : AV), k + i = ls.length → ∃ (G' : List Blk) (z3 z7 : AV), run T pr (.loop w_i_weightOf_1) ⟨[slL q ls.length c, r, .int .i64 a, y3, slL q ls.length c, .int .i64 ls.length, .int .i64 i, y7], ⟨H ++ G, e⟩⟩ =
      some (Ex.exit 0, ⟨[slL q ls.length c, r, .int .i64 ((ls.drop i).foldl (fun a l => IntKind.i64.wrap (a + l.2)) a), z3, slL q ls.length c, .int .i64 ls.length, .int .i64 ls.length, z7], ⟨H ++ G', e⟩⟩)
  | 0, i, a, G, y3, y7, hk => by
    have hi : i = ls.length := by omega
    subst hi
    refine ⟨G, y3, .bool false, ?_⟩
    rw [run_loop]
    generalize run T pr (.loop w_i_weightOf_1) = R
    simp +contextual only [w_i_weightOf_1, Nat.lt_irrefl, decide_false, List.drop_length, List.foldl_nil, go_sem, entry, joinEsc, if_pos, reduceIte, Nat.reduceAdd, Nat.reduceLeDiff, Nat.reduceLT, Nat.reduceEqDiff]
  | k + 1, i, a, G, y3, y7, hk => by
    have hi : i < ls.length := by omega
    have hl : ls[i]? = some ls[i] := List.getElem?_eq_getElem hi
    rw [run_loop, List.drop_eq_getElem_cons hi, List.foldl_cons]
    obtain ⟨G', z3, z7, ih⟩ := loop_i_weightOf (c := c) (r := r) h hn k (i + 1) (IntKind.i64.wrap (a + ls[i].2)) (G ++ [.cells [.int .i64 ls[i].1, .int .i64 ls[i].2] true]) (.ptr (some (H.length + G.length, 0))) (.bool true) (by omega)
    refine ⟨G', z3, z7, ?_⟩
    generalize run T pr (.loop w_i_weightOf_1) = R at ih ⊢
    simp +contextual only [w_i_weightOf_1, cells_mono h, hi, hl, part_encL hl, wrap_succ (show i < 9223372036854775807 by omega), decide_true, go_sem, entry, joinEsc, if_pos, reduceIte, Nat.reduceAdd, Nat.reduceLeDiff, Nat.reduceLT, Nat.reduceEqDiff]
    exact ih

theorem e_i_weightOf {q : Nat} {c : Option Nat} {ls : List Ld} (h : cellsAt H q = some (encL ls)) (hn : ls.length ≤ 9223372036854775806) : call T pr f_i_weightOf [slL q ls.length c] ⟨H, e⟩ = some (.int .i64 (weightW ls), ⟨H, e⟩) := by
  obtain ⟨G', z3, z7, hl⟩ := loop_i_weightOf (pr := pr) (e := none) (c := c) (r := .int .i64 0) h hn ls.length 0 0 [] .undef .undef rfl
  have h0 : ((0 : Nat) : Int) = 0 := rfl
  rw [h0, List.append_nil, List.drop_zero] at hl
  rw [call_eq t_i_weightOf]
  simp +contextual only [a_i_weightOf, c_i_weightOf, hl, go_sem, entry, joinEsc, if_pos, reduceIte, Nat.reduceAdd, Nat.reduceLeDiff, Nat.reduceLT, Nat.reduceEqDiff]
  rfl

theorem loop_s_l2Weight {q : Nat} {c : Option Nat} {ls : List Ld} {r : AV} (h : cellsAt H q = some (encL ls)) (hn : ls.length ≤ 9223372036854775806) :
    ∀ (k i : Nat) (a : Int) (y4 : AV), k + i = ls.length → ∃ (z4 : AV), run T pr (.loop w_s_l2Weight_1) ⟨[slL q ls.length c, r, .int .i64 a, .int .i64 i, y4], ⟨H, e⟩⟩ =
      some (Ex.exit 0, ⟨[slL q ls.length c, r, .int .i64 ((ls.drop i).foldl (fun a l => IntKind.i64.wrap (a + l.2)) a), .int .i64 ls.length, z4], ⟨H, e⟩⟩)
  | 0, i, a, y4, hk => by
    have hi : i = ls.length := by omega
    subst hi
    refine ⟨.bool false, ?_⟩
    rw [run_loop]
    generalize run T pr (.loop w_s_l2Weight_1) = R
    simp +contextual only [w_s_l2Weight_1, Nat.lt_irrefl, decide_false, List.drop_length, List.foldl_nil, go_sem, entry, joinEsc, if_pos, reduceIte, Nat.reduceAdd, Nat.reduceLeDiff, Nat.reduceLT, Nat.reduceEqDiff]
  | k + 1, i, a, y4, hk => by
    have hi : i < ls.length := by omega
    have hl : ls[i]? = some ls[i] := List.getElem?_eq_getElem hi
    rw [run_loop, List.drop_eq_getElem_cons hi, List.foldl_cons]
    obtain ⟨z4, ih⟩ := loop_s_l2Weight (c := c) (r := r) h hn k (i + 1) (IntKind.i64.wrap (a + ls[i].2)) (.bool true) (by omega)
    refine ⟨z4, ?_⟩
    generalize run T pr (.loop w_s_l2Weight_1) = R at ih ⊢
    simp +contextual only [w_s_l2Weight_1, h, hi, hl, part_encL1 _ hl, wrap_succ (show i < 9223372036854775807 by omega), decide_true, go_sem, entry, joinEsc, if_pos, reduceIte, Nat.reduceAdd, Nat.reduceLeDiff, Nat.reduceLT, Nat.reduceEqDiff]
    exact ih

theorem e_s_l2Weight {q : Nat} {c : Option Nat} {ls : List Ld} (h : cellsAt H q = some (encL ls)) (hn : ls.length ≤ 9223372036854775806) : call T pr f_s_l2Weight [slL q ls.length c] ⟨H, e⟩ = some (.int .i64 (weightW ls), ⟨H, e⟩) := by
  obtain ⟨z4, hl⟩ := loop_s_l2Weight (pr := pr) (e := none) (c := c) (r := .int .i64 0) h hn ls.length 0 0 .undef rfl
  have h0 : ((0 : Nat) : Int) = 0 := rfl
  rw [h0, List.drop_zero] at hl
  rw [call_eq t_s_l2Weight]
  simp +contextual only [a_s_l2Weight, c_s_l2Weight, hl, go_sem, entry, joinEsc, if_pos, reduceIte, Nat.reduceAdd, Nat.reduceLeDiff, Nat.reduceLT, Nat.reduceEqDiff]
  rfl

theorem weight_fold : ∀ (ls : List Ld) (a : Nat), ls.all okL = true → a + ls.length * 99 ≤ 1000000 → ∃ n : Nat, ls.foldl (fun a l => IntKind.i64.wrap (a + l.2)) (a : Int) = (n : Int) ∧ n ≤ a + ls.length * 99
  | [], a, _, _ => ⟨a, rfl, by simp⟩
  | l :: ls, a, h, hb => by
    rw [List.all_cons, Bool.and_eq_true] at h
    rw [List.length_cons] at hb
    have h1 := h.1
    unfold okL at h1
    simp only [Bool.and_eq_true, decide_eq_true_eq] at h1
    have hw : IntKind.i64.wrap ((a : Int) + l.2) = ((a + l.2.toNat : Nat) : Int) := by rw [show (a : Int) + l.2 = ((a + l.2.toNat : Nat) : Int) by omega]; exact wrapN (by omega)
    obtain ⟨n, n1, n2⟩ := weight_fold ls (a + l.2.toNat) h.2 (by omega)
    refine ⟨n, ?_, by rw [List.length_cons]; omega⟩
    rw [List.foldl_cons, hw, n1]

theorem weight_ok {ls : List Ld} (h : rowOk ls = true) : ∃ n : Nat, weightW ls = n ∧ n ≤ 1000000 := by
  unfold rowOk at h
  rw [Bool.and_eq_true, decide_eq_true_eq] at h
  obtain ⟨n, n1, n2⟩ := weight_fold ls 0 h.2 (by omega)
  exact ⟨n, n1, by omega⟩

theorem e_i_isHaul (x : Int) : call T pr f_i_isHaul [.int .i64 x] ⟨H, e⟩ = some (.bool (decide (0 ≤ x) && decide (x ≤ 1000000)), ⟨H, e⟩) := by
  rw [call_eq t_i_isHaul]
  simp +contextual only [a_i_isHaul, c_i_isHaul, e_i_within, go_sem, entry, joinEsc, if_pos, reduceIte, Nat.reduceAdd, Nat.reduceLeDiff, Nat.reduceLT, Nat.reduceEqDiff]

theorem ceil_frac (x y : Nat) (hy : 0 < y) : (fracA x y + fracB x y - 1) / fracB x y = (x + y - 1) / y := by
  have hg : 0 < Nat.gcd y x := Nat.gcd_pos_of_pos_left _ hy
  obtain ⟨x', hx'⟩ := Nat.gcd_dvd_right y x
  obtain ⟨y', hy'⟩ := Nat.gcd_dvd_left y x
  unfold fracA fracB
  generalize hgg : Nat.gcd y x = g at *
  have h1 : x / g = x' := by rw [hx', Nat.mul_div_cancel_left _ hg]
  have h2 : y / g = y' := by rw [hy', Nat.mul_div_cancel_left _ hg]
  rw [h1, h2]
  have hy'0 : 0 < y' := by
    rcases Nat.eq_zero_or_pos y' with h | h
    · rw [h, Nat.mul_zero] at hy'; omega
    · exact h
  have h3 : (x + y - 1) / g = x' + y' - 1 := by
    have h5 : x + y - 1 = g * (x' + y' - 1) + (g - 1) := by
      have e1 : g * (x' + y' - 1) = g * (x' + y') - g := by rw [Nat.mul_sub, Nat.mul_one]
      have e2 : g * (x' + y') = g * x' + g * y' := Nat.mul_add _ _ _
      have e3 : g * y' ≥ g := Nat.le_mul_of_pos_right _ hy'0
      rw [← hx', ← hy'] at e2
      omega
    rw [h5, Nat.mul_add_div hg, Nat.div_eq_of_lt (by omega), Nat.add_zero]
  rw [← h3, Nat.div_div_eq_div_mul, ← hy']

/-- the least pull, for a valid chain -/
def pullW (ss : List Sg) (n : Nat) : Nat := (n * chainB 1 1 ss + chainA 1 1 ss - 1) / chainA 1 1 ss

theorem e_i_LeastPull {q : Nat} {c : Option Nat} {ss : List Sg} (h : cellsAt H q = some (encS ss)) (hc : chainOk ss = true) (n : Nat) (hn : n ≤ 1000000) : call T pr f_i_LeastPull [slS q ss.length c, .int .i64 n] ⟨H, e⟩ = some (.tup [.int .i64 (pullW ss n), .bool true], ⟨H, e⟩) := by
  have hc' := hc
  unfold chainOk at hc'
  rw [Bool.and_eq_true, decide_eq_true_eq] at hc'
  obtain ⟨b1, b2, b3, b4⟩ := chain_bounds ss 0 1 1 hc'.1 (by omega) (by decide) (by decide)
  have hch := fun G => e_i_isChain (pr := pr) (e := none) (c := c) (cells_mono h G) (by omega)
  have hcg := fun G => e_i_chainGain (pr := pr) (e := none) (c := c) (cells_mono h G) hc
  have hw1 : decide ((n : Int) ≤ 1000000) = true := decide_eq_true (by omega)
  have hpull : pullW ss n = (n * chainB 1 1 ss + chainA 1 1 ss - 1) / chainA 1 1 ss := rfl
  have hcf := ceil_frac (n * chainB 1 1 ss) (chainA 1 1 ss) b1
  rw [← hpull] at hcf
  have hmul : n * chainB 1 1 ss ≤ 1000000 * 254803968 := Nat.mul_le_mul hn b4
  generalize chainA 1 1 ss = P at *
  generalize chainB 1 1 ss = Q at *
  have hw2 : IntKind.i64.wrap ((n : Int) * (Q : Int)) = ((n * Q : Nat) : Int) := by rw [← Int.natCast_mul]; exact wrapN (by omega)
  have hf := fun L => e_i_fraction (pr := pr) (H := L) (e := none) (x := n * Q) (y := P) b1 (by omega) (by omega)
  have hfb : 0 < fracB (n * Q) P := Nat.div_pos (Nat.le_of_dvd b1 (Nat.gcd_dvd_left _ _)) (Nat.gcd_pos_of_pos_left _ b1)
  have hfa : fracA (n * Q) P ≤ n * Q := Nat.div_le_self _ _
  have hfb' : fracB (n * Q) P ≤ P := Nat.div_le_self _ _
  have hpf : ∀ G, call T pr f_i_PullFor [slS q ss.length c, .int .i64 n] ⟨H ++ G, none⟩ = some (.tup [fvV (fracA (n * Q) P) (fracB (n * Q) P), .bool true], ⟨H ++ G, none⟩) := by
    intro G
    have hch' : ∀ X, call T pr f_i_isChain [slS q ss.length c] ⟨(H ++ G) ++ X, none⟩ = some (.bool (chainOk ss), ⟨(H ++ G) ++ X, none⟩) := fun X => by rw [List.append_assoc]; exact hch _
    have hcg' : ∀ X, call T pr f_i_chainGain [slS q ss.length c] ⟨(H ++ G) ++ X, none⟩ = some (fvV P Q, ⟨(H ++ G) ++ X, none⟩) := fun X => by rw [List.append_assoc]; exact hcg _
    generalize H ++ G = L at hch' hcg' ⊢
    rw [call_eq t_i_PullFor]
    simp +contextual only [a_i_PullFor, c_i_PullFor, hch', hc, e_i_isHaul, hw1, decide_true, hcg', fillParts, ix02, ix12, ix01, Int.le_refl, Int.toNat_zero, Int.toNat_one, Nat.zero_mul, Nat.one_mul, hw2, hf, go_sem, entry, joinEsc, if_pos, reduceIte, Nat.reduceAdd, Nat.reduceLeDiff, Nat.reduceLT, Nat.reduceEqDiff]
  have hpf0 := hpf []
  rw [List.append_nil] at hpf0
  generalize fracA (n * Q) P = x at *
  generalize fracB (n * Q) P = y at *
  have hw3 : IntKind.i64.wrap ((x : Int) + (y : Int)) = ((x + y : Nat) : Int) := by rw [← Int.natCast_add]; exact wrapN (by omega)
  have hw4 : IntKind.i64.wrap (((x + y : Nat) : Int) - 1) = ((x + y - 1 : Nat) : Int) := by rw [show ((x + y : Nat) : Int) - 1 = ((x + y - 1 : Nat) : Int) by omega]; exact wrapN (by omega)
  have hy0 : ¬ (y : Int) = 0 := by omega
  have hd : Int.tdiv ((x + y - 1 : Nat) : Int) (y : Int) = ((pullW ss n : Nat) : Int) := by rw [← hcf]; rfl
  have hle : (x + y - 1) / y ≤ x + y - 1 := Nat.div_le_self _ _
  have hw5 : IntKind.i64.wrap ((pullW ss n : Nat) : Int) = ((pullW ss n : Nat) : Int) := wrapN (by omega)
  rw [call_eq t_i_LeastPull]
  simp +contextual only [a_i_LeastPull, c_i_LeastPull, hpf, hpf0, ix02, ix12, ix01, Int.le_refl, Int.toNat_zero, Int.toNat_one, Nat.zero_mul, Nat.one_mul, hw3, hw4, hy0, hd, hw5, go_sem, entry, joinEsc, if_pos, reduceIte, Nat.reduceAdd, Nat.reduceLeDiff, Nat.reduceLT, Nat.reduceEqDiff]

theorem e_s_LeastPull {q : Nat} {c : Option Nat} {ss : List Sg} (h : cellsAt H q = some (encS ss)) (hc : chainOk ss = true) (n : Nat) (hn : n ≤ 1000000) : call T pr f_s_LeastPull [slS q ss.length c, .int .i64 n] ⟨H, e⟩ = some (.tup [.int .i64 (pullW ss n), .bool true], ⟨H, e⟩) := by
  have hc' := hc
  unfold chainOk at hc'
  rw [Bool.and_eq_true, decide_eq_true_eq] at hc'
  obtain ⟨b1, b2, b3, b4⟩ := chain_bounds ss 0 1 1 hc'.1 (by omega) (by decide) (by decide)
  have hst : ∀ e', call T pr f_s_l7Stages [slS q ss.length c, .int .i64 5] ⟨H, e'⟩ = some (.bool (chainOk ss), ⟨H, e'⟩) := fun e' => e_s_l7Stages h (by omega)
  have hcg := fun G => e_s_l7Chain (pr := pr) (e := none) (c := c) (cells_mono h G) hc
  have hcg0 := e_s_l7Chain (pr := pr) (e := none) (c := c) h hc
  have hw1 : decide ((n : Int) ≤ 1000000) = true := decide_eq_true (by omega)
  have hask : ∀ e', call T pr f_s_l7Ask [slS q ss.length c, .int .i64 n] ⟨H, e'⟩ = some (.bool true, ⟨H, e'⟩) := by
    intro e'
    rw [call_eq t_s_l7Ask]
    simp +contextual only [a_s_l7Ask, c_s_l7Ask, hst, hc, e_s_l1In, hw1, decide_true, go_sem, entry, joinEsc, if_pos, reduceIte, Nat.reduceAdd, Nat.reduceLeDiff, Nat.reduceLT, Nat.reduceEqDiff]
  have hpull : pullW ss n = (n * chainB 1 1 ss + chainA 1 1 ss - 1) / chainA 1 1 ss := rfl
  have hmul : n * chainB 1 1 ss ≤ 1000000 * 254803968 := Nat.mul_le_mul hn b4
  generalize chainA 1 1 ss = P at *
  generalize chainB 1 1 ss = Q at *
  have hw2 : IntKind.i64.wrap ((n : Int) * (Q : Int)) = ((n * Q : Nat) : Int) := by rw [← Int.natCast_mul]; exact wrapN (by omega)
  generalize n * Q = x at *
  have hw3 : IntKind.i64.wrap ((x : Int) + (P : Int)) = ((x + P : Nat) : Int) := by rw [← Int.natCast_add]; exact wrapN (by omega)
  have hw4 : IntKind.i64.wrap (((x + P : Nat) : Int) - 1) = ((x + P - 1 : Nat) : Int) := by rw [show ((x + P : Nat) : Int) - 1 = ((x + P - 1 : Nat) : Int) by omega]; exact wrapN (by omega)
  have hy0 : ¬ (P : Int) = 0 := by omega
  have hd : Int.tdiv ((x + P - 1 : Nat) : Int) (P : Int) = ((pullW ss n : Nat) : Int) := by rw [hpull]; rfl
  have hle : (x + P - 1) / P ≤ x + P - 1 := Nat.div_le_self _ _
  have hw5 : IntKind.i64.wrap ((pullW ss n : Nat) : Int) = ((pullW ss n : Nat) : Int) := wrapN (by omega)
  rw [call_eq t_s_LeastPull]
  simp +contextual only [a_s_LeastPull, c_s_LeastPull, hask, hcg, hcg0, ix02, ix12, ix01, Int.le_refl, Int.toNat_zero, Int.toNat_one, Nat.zero_mul, Nat.one_mul, hw2, hw3, hw4, hy0, hd, hw5, go_sem, entry, joinEsc, if_pos, reduceIte, Nat.reduceAdd, Nat.reduceLeDiff, Nat.reduceLT, Nat.reduceEqDiff]

/-- what RowPull returns -/
def rowPullW (ls : List Ld) (ss : List Sg) (ok : Bool) : Nat := if ok = true then pullW ss (weightW ls).toNat else 0

theorem e_i_RowPull {q q' : Nat} {c c' : Option Nat} {ls : List Ld} {ss : List Sg} (h1 : cellsAt H q = some (encL ls)) (h2 : cellsAt H q' = some (encS ss)) (hn : ls.length ≤ 9223372036854775806) (hm : ss.length ≤ 9223372036854775806) (a b t k : Int) :
    call T pr f_i_RowPull [stV (slL q ls.length c) a b (slS q' ss.length c') t k] ⟨H, e⟩ = some (.tup [.int .i64 (rowPullW ls ss (rowOk ls && (chainOk ss && restOk a b t k))), .bool (rowOk ls && (chainOk ss && restOk a b t k))], ⟨H, e⟩) := by
  have his : ∀ G, call T pr f_i_IsStand [stV (slL q ls.length c) a b (slS q' ss.length c') t k] ⟨H ++ G, none⟩ = some (.bool (rowOk ls && (chainOk ss && restOk a b t k)), ⟨H ++ G, none⟩) :=
    fun G => e_i_IsStand (fun X => by rw [List.append_assoc]; exact e_i_IsRow (cells_mono h1 _)) (fun X => by rw [List.append_assoc]; exact e_i_isChain (cells_mono h2 _) hm) a b t k
  rw [call_eq t_i_RowPull]
  cases hok : (rowOk ls && (chainOk ss && restOk a b t k)) with
  | false =>
    have h0 : ((rowPullW ls ss false : Nat) : Int) = 0 := rfl
    rw [h0]
    simp +contextual only [a_i_RowPull, c_i_RowPull, his, hok, go_sem, entry, joinEsc, if_pos, reduceIte, Nat.reduceAdd, Nat.reduceLeDiff, Nat.reduceLT, Nat.reduceEqDiff]
  | true =>
    obtain ⟨k1, k2⟩ := Bool.and_eq_true_iff.mp hok
    obtain ⟨k3, k4⟩ := Bool.and_eq_true_iff.mp k2
    obtain ⟨n, n1, n2⟩ := weight_ok k1
    have hr : rowPullW ls ss true = pullW ss n := by unfold rowPullW; rw [if_pos rfl, n1, Int.toNat_natCast]
    have hwt := fun G => e_i_weightOf (pr := pr) (e := none) (c := c) (cells_mono h1 G) hn
    rw [n1] at hwt
    rw [hr]
    simp +contextual only [a_i_RowPull, c_i_RowPull, his, hok, hwt, e_i_LeastPull (cells_mono h2 _) k3 n n2, go_sem, entry, joinEsc, if_pos, reduceIte, Nat.reduceAdd, Nat.reduceLeDiff, Nat.reduceLT, Nat.reduceEqDiff]

theorem e_s_RowPull {q q' : Nat} {c c' : Option Nat} {ls : List Ld} {ss : List Sg} (h1 : cellsAt H q = some (encL ls)) (h2 : cellsAt H q' = some (encS ss)) (hn : ls.length ≤ 9223372036854775806) (hm : ss.length ≤ 9223372036854775806) (a b t k : Int) :
    call T pr f_s_RowPull [stV (slL q ls.length c) a b (slS q' ss.length c') t k] ⟨H, e⟩ = some (.tup [.int .i64 (rowPullW ls ss (rowOk ls && (chainOk ss && restOk a b t k))), .bool (rowOk ls && (chainOk ss && restOk a b t k))], ⟨H, e⟩) := by
  have his : ∀ G, call T pr f_s_l12Good [stV (slL q ls.length c) a b (slS q' ss.length c') t k] ⟨H ++ G, none⟩ = some (.bool (rowOk ls && (chainOk ss && restOk a b t k)), ⟨H ++ G, none⟩) :=
    fun G => e_s_l12Good (fun X => by rw [List.append_assoc]; exact e_s_l2Row (cells_mono h1 _)) (fun X => by rw [List.append_assoc]; exact e_s_l7Stages (cells_mono h2 _) hm) a b t k
  rw [call_eq t_s_RowPull]
  cases hok : (rowOk ls && (chainOk ss && restOk a b t k)) with
  | false =>
    have h0 : ((rowPullW ls ss false : Nat) : Int) = 0 := rfl
    rw [h0]
    simp +contextual only [a_s_RowPull, c_s_RowPull, his, hok, go_sem, entry, joinEsc, if_pos, reduceIte, Nat.reduceAdd, Nat.reduceLeDiff, Nat.reduceLT, Nat.reduceEqDiff]
  | true =>
    obtain ⟨k1, k2⟩ := Bool.and_eq_true_iff.mp hok
    obtain ⟨k3, k4⟩ := Bool.and_eq_true_iff.mp k2
    obtain ⟨n, n1, n2⟩ := weight_ok k1
    have hr : rowPullW ls ss true = pullW ss n := by unfold rowPullW; rw [if_pos rfl, n1, Int.toNat_natCast]
    have hwt := fun G => e_s_l2Weight (pr := pr) (e := none) (c := c) (cells_mono h1 G) hn
    rw [n1] at hwt
    rw [hr]
    simp +contextual only [a_s_RowPull, c_s_RowPull, his, hok, hwt, e_s_LeastPull (cells_mono h2 _) k3 n n2, go_sem, entry, joinEsc, if_pos, reduceIte, Nat.reduceAdd, Nat.reduceLeDiff, Nat.reduceLT, Nat.reduceEqDiff]

theorem law_RowPull {row chain : AV} {ls : List Ld} {ss : List Sg} (ha : ArgL H row ls) (hs : ArgS H chain ss) (a b t k : Int) : ∃ m', call T pr f_l_FnExactRowPull [stV row a b chain t k] ⟨H, none⟩ = some (.bool true, m') := by
  refine ⟨⟨H, none⟩, ?_⟩
  have hsz : ∀ G e', call T pr f_l_szStand [stV row a b chain t k, .int .i64 1048576] ⟨G, e'⟩ = some (.int .i64 (if ls.length + ss.length ≤ 1048576 then 1048576 - ((ls.length + ss.length : Nat) : Int) else -1), ⟨G, e'⟩) := by
    obtain ⟨p, sz, c, rfl, h2, h3⟩ := ha
    obtain ⟨p', sz', c', rfl, h2', h3'⟩ := hs
    exact fun G e' => e_l_szStand h2 h2' a b t k
  rw [call_eq t_l_FnExactRowPull]
  by_cases hn : ls.length + ss.length ≤ 1048576
  · have hneg : ¬ (1048576 - ((ls.length + ss.length : Nat) : Int) < 0) := by omega
    have hto := fun G => e_l_toStand (pr := pr) (e := none) (ha.more G) (hs.more G) (by omega) (by omega) a b t k
    have hn1 : ls.length ≤ 9223372036854775806 := by omega
    have hm1 : ss.length ≤ 9223372036854775806 := by omega
    have hsi := fun L q q' c c' h1 h2 => e_s_RowPull (pr := pr) (H := L) (e := none) (q := q) (q' := q') (c := c) (c' := c') (ls := ls) (ss := ss) h1 h2 hn1 hm1 a b t k
    have hii := fun L q q' c c' h1 h2 => e_i_RowPull (pr := pr) (H := L) (e := none) (q := q) (q' := q') (c := c) (c' := c') (ls := ls) (ss := ss) h1 h2 hn1 hm1 a b t k
    have heq : ∀ L q1 q2 k1 k2 q3 q4 k3 k4, cellsAt L q1 = some (encL ls) → cellsAt L q2 = some (encL ls) → cellsAt L q3 = some (encS ss) → cellsAt L q4 = some (encS ss) → call T pr f_l_eqStand [stV (slL q1 ls.length k1) a b (slS q3 ss.length k3) t k, stV (slL q2 ls.length k2) a b (slS q4 ss.length k4) t k] ⟨L, none⟩ = some (.bool true, ⟨L, none⟩) :=
      fun L q1 q2 k1 k2 q3 q4 k3 k4 h1 h2 h3 h4 => e_l_eqStand (fun G => e_l_eqLoadS (cells_mono h1 G) (cells_mono h2 G) (by omega)) (fun G => e_l_eqStageS (cells_mono h3 G) (cells_mono h4 G) (by omega)) a b t k
    simp +contextual only [a_l_FnExactRowPull, c_l_FnExactRowPull, hsz, hn, hneg, hto, hsi, hii, heq, under_slice, under_sliceN, Nat.add_assoc, Nat.add_lt_add_iff_left, Nat.lt_add_right_iff_pos, decide_true, decide_false, beq_self_eq_true, go_sem, entry, joinEsc, if_pos, reduceIte, Nat.reduceAdd, Nat.reduceLeDiff, Nat.reduceLT, Nat.reduceEqDiff]
  · simp +contextual only [a_l_FnExactRowPull, c_l_FnExactRowPull, hsz, hn, decide_true, show ((-1 : Int) < 0) by omega, go_sem, entry, joinEsc, if_pos, reduceIte, Nat.reduceAdd, Nat.reduceLeDiff, Nat.reduceLT, Nat.reduceEqDiff]

end Go.Proofs.Ytlocjmbfcdfjfaa.Slim
