/- Crossing, and its law. -/
import Derived.Test.YtaikmfldjkbmmaaSlimE9
namespace Go.Proofs.Ytaikmfldjkbmmaa.Slim
open Go
set_option linter.unusedSimpArgs false
set_option linter.unusedVariables false

variable {pr : Prims} {H : List Blk} {e : Option Nat}

theorem rowAt_length (x : Int) (ls : List Ld) : (rowAt x ls).length ≤ ls.length := by
  unfold rowAt
  rw [List.length_map]
  exact List.length_filter_le _ _

theorem cells_at (G : List Blk) (cs : List AV) (wr : Bool) : cellsAt (H ++ (G ++ [Blk.cells cs wr])) (H.length + G.length) = some cs := by
  rw [cellsAt_newk, cellsAt_new0, cellsAt_cons0]

theorem loop_s_CanCross {q u : Nat} {c : Option Nat} {ls : List Ld} {bv y6 : AV} {L : Nat} {a b : Int} (h : cellsAt H q = some (encL ls)) (hn : ls.length ≤ 1048576) (hL : L ≤ 60) (hu : cellsAt H u = some [.int .i64 L, .int .i64 a, .int .i64 b]) :
    ∀ (k i : Nat) (G : List Blk) (y7 y8 : AV), k + i = L + 1 → ∃ (G' : List Blk) (z5 z7 z8 : AV), run T pr (.loop w_s_CanCross_1) ⟨[bv, slL q ls.length c, .ptr (some (u, 0)), .bool false, .bool false, .int .i64 i, y6, y7, y8], ⟨H ++ G, e⟩⟩ =
      some (if crossFrom ls a b k i = true then Ex.exit 0 else Ex.ret, ⟨[bv, slL q ls.length c, .ptr (some (u, 0)), .bool false, .bool (!crossFrom ls a b k i), z5, y6, z7, z8], ⟨H ++ G', e⟩⟩)
  | 0, i, G, y7, y8, hk => by
    have hi : i = L + 1 := by omega
    subst hi
    refine ⟨G, .int .i64 (L + 1 : Nat), .bool false, y8, ?_⟩
    rw [run_loop]
    generalize run T pr (.loop w_s_CanCross_1) = R
    have hx : ¬ (((L + 1 : Nat) : Int) ≤ (L : Int)) := by omega
    simp +contextual only [w_s_CanCross_1, cells_mono hu, hx, decide_false, crossFrom, go_sem, entry, joinEsc, if_pos, Nat.reduceAdd, Nat.reduceLeDiff, Nat.reduceLT, Nat.reduceEqDiff, reduceIte]
  | k + 1, i, G, y7, y8, hk => by
    have hx : ((i : Nat) : Int) ≤ (L : Int) := by omega
    obtain ⟨cap, hat⟩ := e_s_l6At (pr := pr) (e := e) (c := c) (cells_mono h G) hn i
    have hs := e_s_l2Side (pr := pr) (e := e) (c := cap) (cells_at (H := H) G (encL (rowAt i ls)) true) (Nat.le_trans (rowAt_length i ls) (by omega)) a b
    simp only [List.length_append, List.append_assoc] at hat
    obtain ⟨G', z5, z7, z8, ih⟩ := loop_s_CanCross (c := c) (bv := bv) (y6 := y6) h hn hL hu k (i + 1) (G ++ [.cells (encL (rowAt i ls)) true]) (.bool true) (.bool false) (by omega)
    rw [run_loop, crossFrom]
    generalize run T pr (.loop w_s_CanCross_1) = R at ih ⊢
    cases h3 : decide (sideW (rowAt i ls) a b = 0) with
    | false =>
      refine ⟨G ++ [.cells (encL (rowAt i ls)) true], .int .i64 i, .bool true, .bool true, ?_⟩
      simp +contextual only [w_s_CanCross_1, cells_mono hu, hx, hat, hs, h3, decide_true, eq_self, go_sem, entry, joinEsc, if_pos, Nat.reduceAdd, Nat.reduceLeDiff, Nat.reduceLT, Nat.reduceEqDiff, reduceIte]
    | true =>
      refine ⟨G', z5, z7, z8, ?_⟩
      simp +contextual only [w_s_CanCross_1, cells_mono hu, hx, hat, hs, h3, wrap_succ (show i < 9223372036854775807 by omega), decide_true, eq_self, go_sem, entry, joinEsc, if_pos, Nat.reduceAdd, Nat.reduceLeDiff, Nat.reduceLT, Nat.reduceEqDiff, reduceIte]
      exact ih

theorem loop_i_CanCross {q u : Nat} {c : Option Nat} {ls : List Ld} {bv y6 : AV} {L : Nat} {a b : Int} (h : cellsAt H q = some (encL ls)) (hn : ls.length ≤ 1048576) (hL : L ≤ 60) (hu : cellsAt H u = some [.int .i64 L, .int .i64 a, .int .i64 b]) :
    ∀ (k i : Nat) (G : List Blk) (y5 y9 y10 : AV), k + i = L + 1 → ∃ (G' : List Blk) (z5 z8 z9 z10 : AV), run T pr (.loop w_i_CanCross_1) ⟨[bv, slL q ls.length c, .ptr (some (u, 0)), .bool false, .bool false, y5, y6, .int .i64 (L + 1 : Nat), .int .i64 i, y9, y10], ⟨H ++ G, e⟩⟩ =
      some (if crossFrom ls a b k i = true then Ex.exit 0 else Ex.ret, ⟨[bv, slL q ls.length c, .ptr (some (u, 0)), .bool false, .bool (!crossFrom ls a b k i), z5, y6, .int .i64 (L + 1 : Nat), z8, z9, z10], ⟨H ++ G', e⟩⟩)
  | 0, i, G, y5, y9, y10, hk => by
    have hi : i = L + 1 := by omega
    subst hi
    refine ⟨G, y5, .int .i64 (L + 1 : Nat), .bool false, y10, ?_⟩
    rw [run_loop]
    generalize run T pr (.loop w_i_CanCross_1) = R
    simp +contextual only [w_i_CanCross_1, Nat.lt_irrefl, decide_false, crossFrom, go_sem, entry, joinEsc, if_pos, Nat.reduceAdd, Nat.reduceLeDiff, Nat.reduceLT, Nat.reduceEqDiff, reduceIte]
  | k + 1, i, G, y5, y9, y10, hk => by
    have hx : i < L + 1 := by omega
    obtain ⟨cap, hat⟩ := e_i_convoyRow (pr := pr) (e := e) (c := c) (cells_mono h G) hn i
    have hs := e_i_Beam_rests (pr := pr) (e := e) (c := cap) (cells_at (H := H) G (encL (rowAt i ls)) true) (Nat.le_trans (rowAt_length i ls) (by omega)) L a b
    simp only [List.length_append, List.append_assoc] at hat
    obtain ⟨G', z5, z8, z9, z10, ih⟩ := loop_i_CanCross (c := c) (bv := bv) (y6 := y6) h hn hL hu k (i + 1) (G ++ [.cells (encL (rowAt i ls)) true]) (.int .i64 i) (.bool true) (.bool false) (by omega)
    rw [run_loop, crossFrom]
    generalize run T pr (.loop w_i_CanCross_1) = R at ih ⊢
    cases h3 : decide (sideW (rowAt i ls) a b = 0) with
    | false =>
      refine ⟨G ++ [.cells (encL (rowAt i ls)) true], .int .i64 i, .int .i64 i, .bool true, .bool true, ?_⟩
      simp +contextual only [w_i_CanCross_1, cells_mono hu, hx, hat, hs, h3, decide_true, eq_self, go_sem, entry, joinEsc, if_pos, Nat.reduceAdd, Nat.reduceLeDiff, Nat.reduceLT, Nat.reduceEqDiff, reduceIte]
    | true =>
      refine ⟨G', z5, z8, z9, z10, ?_⟩
      simp +contextual only [w_i_CanCross_1, cells_mono hu, hx, hat, hs, h3, wrap_succ (show i < 9223372036854775807 by omega), decide_true, eq_self, go_sem, entry, joinEsc, if_pos, Nat.reduceAdd, Nat.reduceLeDiff, Nat.reduceLT, Nat.reduceEqDiff, reduceIte]
      exact ih

/-- may it cross, and is that asked well? -/
def crossOk (x a b : Int) (ls : List Ld) : Bool := beamOk x a b && convOk ls

theorem e_s_CanCross {q : Nat} {c : Option Nat} {ls : List Ld} (h : cellsAt H q = some (encL ls)) (hn : ls.length ≤ 1048576) (x a b : Int) : call T pr f_s_CanCross [bmV x a b, slL q ls.length c] ⟨H, e⟩ =
    some (.tup [.bool (crossOk x a b ls && crossFrom ls a b (x.toNat + 1) 0), .bool (crossOk x a b ls)], ⟨H, e⟩) := by
  rw [call_eq t_s_CanCross]
  unfold crossOk
  cases h1 : beamOk x a b with
  | false => simp +contextual only [a_s_CanCross, c_s_CanCross, e_s_l6Beam, h1, go_sem, entry, joinEsc, if_pos, Nat.reduceAdd, Nat.reduceLeDiff, Nat.reduceLT, Nat.reduceEqDiff, reduceIte]
  | true =>
    cases h2 : convOk ls with
    | false => simp +contextual only [a_s_CanCross, c_s_CanCross, e_s_l6Beam, e_s_l6Convoy (cells_mono h _) hn, h1, h2, go_sem, entry, joinEsc, if_pos, Nat.reduceAdd, Nat.reduceLeDiff, Nat.reduceLT, Nat.reduceEqDiff, reduceIte]
    | true =>
      have hb : 1 ≤ x ∧ x ≤ 60 := by unfold beamOk at h1; simp at h1; omega
      obtain ⟨L, rfl⟩ : ∃ L : Nat, x = L := ⟨x.toNat, by omega⟩
      have hu : cellsAt (H ++ [Blk.cells [.int .i64 L, .int .i64 a, .int .i64 b] true]) H.length = some [.int .i64 L, .int .i64 a, .int .i64 b] := by simp [cellsAt, List.getElem?_append_right]
      obtain ⟨G', z5, z7, z8, hl⟩ := loop_s_CanCross (pr := pr) (e := none) (c := c) (bv := bmV L a b) (y6 := .bool false) (cells_mono h [Blk.cells [.int .i64 L, .int .i64 a, .int .i64 b] true]) hn (by omega) hu (L + 1) 0 [] .undef .undef rfl
      have h0 : ((0 : Nat) : Int) = 0 := rfl
      rw [h0, List.append_nil] at hl
      simp only [Int.toNat_natCast]
      cases h3 : crossFrom ls a b (L + 1) 0 <;> rw [h3] at hl <;> simp +contextual only [a_s_CanCross, c_s_CanCross, e_s_l6Beam, e_s_l6Convoy (cells_mono h _) hn, h1, h2, hl, go_sem, entry, joinEsc, if_pos, Nat.reduceAdd, Nat.reduceLeDiff, Nat.reduceLT, Nat.reduceEqDiff, reduceIte]

theorem e_i_CanCross {q : Nat} {c : Option Nat} {ls : List Ld} (h : cellsAt H q = some (encL ls)) (hn : ls.length ≤ 1048576) (x a b : Int) : call T pr f_i_CanCross [bmV x a b, slL q ls.length c] ⟨H, e⟩ =
    some (.tup [.bool (crossOk x a b ls && crossFrom ls a b (x.toNat + 1) 0), .bool (crossOk x a b ls)], ⟨H, e⟩) := by
  rw [call_eq t_i_CanCross]
  unfold crossOk
  cases h1 : beamOk x a b with
  | false => simp +contextual only [a_i_CanCross, c_i_CanCross, e_i_IsBeam, h1, go_sem, entry, joinEsc, if_pos, Nat.reduceAdd, Nat.reduceLeDiff, Nat.reduceLT, Nat.reduceEqDiff, reduceIte]
  | true =>
    cases h2 : convOk ls with
    | false => simp +contextual only [a_i_CanCross, c_i_CanCross, e_i_IsBeam, e_i_IsConvoy (cells_mono h _) hn, h1, h2, go_sem, entry, joinEsc, if_pos, Nat.reduceAdd, Nat.reduceLeDiff, Nat.reduceLT, Nat.reduceEqDiff, reduceIte]
    | true =>
      have hb : 1 ≤ x ∧ x ≤ 60 := by unfold beamOk at h1; simp at h1; omega
      obtain ⟨L, rfl⟩ : ∃ L : Nat, x = L := ⟨x.toNat, by omega⟩
      have hu : cellsAt (H ++ [Blk.cells [.int .i64 L, .int .i64 a, .int .i64 b] true]) H.length = some [.int .i64 L, .int .i64 a, .int .i64 b] := by simp [cellsAt, List.getElem?_append_right]
      obtain ⟨G', z5, z8, z9, z10, hl⟩ := loop_i_CanCross (pr := pr) (e := none) (c := c) (bv := bmV L a b) (y6 := .bool false) (cells_mono h [Blk.cells [.int .i64 L, .int .i64 a, .int .i64 b] true]) hn (by omega) hu (L + 1) 0 [] .undef .undef .undef rfl
      have h0 : ((0 : Nat) : Int) = 0 := rfl
      rw [h0, List.append_nil] at hl
      simp only [Int.toNat_natCast]
      cases h3 : crossFrom ls a b (L + 1) 0 <;> rw [h3] at hl <;> simp +contextual only [a_i_CanCross, c_i_CanCross, e_i_IsBeam, e_i_IsConvoy (cells_mono h _) hn, h1, h2, wrap_succ (show L < 9223372036854775807 by omega), hl, go_sem, entry, joinEsc, if_pos, Nat.reduceAdd, Nat.reduceLeDiff, Nat.reduceLT, Nat.reduceEqDiff, reduceIte]

theorem law_CanCross {av : AV} {ls : List Ld} (ha : ArgL H av ls) (x a b : Int) : ∃ m', call T pr f_l_FnExactCanCross [bmV x a b, av] ⟨H, none⟩ = some (.bool true, m') := by
  refine ⟨⟨H, none⟩, ?_⟩
  have hsz : ∀ G e', call T pr f_l_szLoadS [av, .int .i64 1048576] ⟨G, e'⟩ = some (.int .i64 (if ls.length ≤ 1048576 then 1048576 - ls.length else -1), ⟨G, e'⟩) := by
    obtain ⟨p, sz, c, rfl, h2, h3⟩ := ha
    exact fun G e' => e_l_szLoadS ls.length p sz c h2
  rw [call_eq t_l_FnExactCanCross]
  by_cases hn : ls.length ≤ 1048576
  · have hn' : ls.length ≤ 9223372036854775806 := by omega
    have hneg : ¬ (1048576 - (ls.length : Int) < 0) := by omega
    have hcopy := fun G => e_l_toLoadS (pr := pr) (e := none) (ha.more G) hn
    simp +contextual only [a_l_FnExactCanCross, c_l_FnExactCanCross, hsz, hn, hneg, decide_false, e_l_toBeam, hcopy, e_s_CanCross, e_i_CanCross, e_l_eqLoadS, hn', beq_self_eq_true, go_sem, entry, joinEsc, if_pos, Nat.reduceAdd, Nat.reduceLeDiff, Nat.reduceLT, Nat.reduceEqDiff, reduceIte]
  · simp +contextual only [a_l_FnExactCanCross, c_l_FnExactCanCross, hsz, hn, decide_true, show ((-1 : Int) < 0) by omega, go_sem, entry, joinEsc, if_pos, Nat.reduceAdd, Nat.reduceLeDiff, Nat.reduceLT, Nat.reduceEqDiff, reduceIte]

end Go.Proofs.Ytaikmfldjkbmmaa.Slim
