/- The places at which a party rests; the law. -/
import Derived.Test.YthkgpblohjpcdaaSlimE37
namespace Go.Proofs.Ythkgpblohjpcdaa.Slim

open Go

set_option linter.unusedSimpArgs false

set_option linter.unusedVariables false

variable {pr : Prims} {H : List Blk} {e : Option Nat}

theorem cells_end (G : List Blk) (cs : List AV) (wr : Bool) : cellsAt (H ++ (G ++ [Blk.cells cs wr])) (H.length + G.length) = some cs := by
  rw [cellsAt_newk, cellsAt_new0, cellsAt_cons0]

def sumN : Nat → (Nat → Nat) → Nat
  | 0, _ => 0
  | n + 1, f => sumN n f + f n

theorem sumN_congr {f g : Nat → Nat} : ∀ n, (∀ i, i < n → f i = g i) → sumN n f = sumN n g
  | 0, _ => rfl
  | n + 1, h => by rw [sumN, sumN, sumN_congr n (fun i hi => h i (by omega)), h n (by omega)]

theorem sumN_le {f : Nat → Nat} (h : ∀ i, f i ≤ 1) : ∀ n, sumN n f ≤ n
  | 0 => Nat.le_refl _
  | n + 1 => by have := sumN_le h n; have := h n; rw [sumN]; omega

theorem sumN_add_len (f : Nat → Nat) (a : Nat) : ∀ b, sumN (a + b) f = sumN a f + sumN b (fun k => f (a + k))
  | 0 => rfl
  | b + 1 => by rw [← Nat.add_assoc, sumN, sumN, sumN_add_len f a b]; omega

theorem sumN_add (f g : Nat → Nat) : ∀ n, sumN n (fun k => f k + g k) = sumN n f + sumN n g
  | 0 => rfl
  | n + 1 => by rw [sumN, sumN, sumN, sumN_add f g n]; omega

theorem sumN_zero : ∀ n, sumN n (fun _ => 0) = 0
  | 0 => rfl
  | n + 1 => by rw [sumN, sumN_zero n]

theorem sumN_swap (g : Nat → Nat → Nat) (b : Nat) : ∀ a, sumN a (fun x => sumN b (g x)) = sumN b (fun y => sumN a (fun x => g x y))
  | 0 => by
    show 0 = sumN b (fun _ => 0)
    rw [sumN_zero]
  | a + 1 => by
    rw [sumN, sumN_swap g b a, ← sumN_add]
    rfl

theorem sumN_mul (f : Nat → Nat) (N : Nat) : ∀ m, sumN (m * N) f = sumN m (fun x => sumN N (fun r => f (x * N + r)))
  | 0 => by rw [Nat.zero_mul]; rfl
  | m + 1 => by rw [Nat.add_mul, Nat.one_mul, sumN_add_len, sumN_mul f N m, sumN]

theorem digs_head {m x : Nat} (hx : x < m) (n r : Nat) : digs m (n + 1) (r * m + x) = x :: digs m n r := by
  rw [digs, Nat.mul_comm, Nat.mul_add_mod, Nat.mod_eq_of_lt hx, Nat.mul_add_div (by omega), Nat.div_eq_of_lt hx, Nat.add_zero]

theorem digs_last {m x : Nat} (hx : x < m) : ∀ n r, r < m ^ n → digs m (n + 1) (x * m ^ n + r) = digs m n r ++ [x]
  | 0, r, hr => by
    obtain rfl : r = 0 := by simp at hr; exact hr
    simp [digs, Nat.mod_eq_of_lt hx]
  | n + 1, r, hr => by
    have e1 : x * m ^ (n + 1) + r = m * (x * m ^ n) + r := by rw [Nat.pow_succ, ← Nat.mul_assoc, Nat.mul_comm m]
    have hm : 0 < m := by omega
    have h2 : r / m < m ^ n := by rw [Nat.div_lt_iff_lt_mul hm]; rw [Nat.pow_succ] at hr; exact hr
    rw [digs, e1, Nat.mul_add_mod, Nat.mul_add_div hm, digs_last hx n (r / m) h2]
    rfl

/-- all lists of digits, told from either end -/
theorem digs_rev {m : Nat} : ∀ (n : Nat) (f : List Nat → Nat), sumN (m ^ n) (fun k => f (digs m n k)) = sumN (m ^ n) (fun k => f (digs m n k).reverse)
  | 0, f => rfl
  | n + 1, f => by
    have e1 : sumN (m ^ (n + 1)) (fun k => f (digs m (n + 1) k)) = sumN m (fun x => sumN (m ^ n) (fun r => f (digs m n r ++ [x]))) := by
      rw [show m ^ (n + 1) = m * m ^ n by rw [Nat.pow_succ, Nat.mul_comm], sumN_mul]
      refine sumN_congr _ fun x hx => sumN_congr _ fun r hr => ?_
      rw [digs_last hx n r hr]
    have e2 : sumN (m ^ (n + 1)) (fun k => f (digs m (n + 1) k).reverse) = sumN m (fun x => sumN (m ^ n) (fun r => f ((digs m n r).reverse ++ [x]))) := by
      rw [Nat.pow_succ, sumN_mul, sumN_swap (fun r x => f (digs m (n + 1) (r * m + x)).reverse)]
      refine sumN_congr _ fun x hx => sumN_congr _ fun r hr => ?_
      rw [digs_head hx, List.reverse_cons]
    rw [e1, e2]
    exact sumN_congr _ fun x hx => digs_rev n (fun l => f (l ++ [x]))

theorem putL_more (ls : List Ld) (ss ts : List Int) (h : ls.length = ss.length) : putL ls (ss ++ ts) = putL ls ss := by
  have := putL_app ls [] ss ts h
  simpa [putL] using this

/-- do they rest at the places of a number? -/
def restD (ls : List Ld) (a b : Int) (l : List Nat) : Bool := decide (sideW (putL ls (ints l)) a b = 0)

def restN (ls : List Ld) (a b : Int) (d : Nat) : Nat := sumN ((d + 1) ^ ls.length) fun k => (restD ls a b (digs (d + 1) ls.length k)).toNat

theorem pow_le {n d : Nat} (hn : n ≤ 3) (hd : d ≤ 12) : (d + 1) ^ n ≤ 2197 := by
  have h1 : (d + 1) ^ n ≤ (d + 1) ^ 3 := Nat.pow_le_pow_right (by omega) hn
  have h2 : (d + 1) ^ 3 ≤ 13 ^ 3 := Nat.pow_le_pow_left (by omega) 3
  omega

theorem toNat_le (b : Bool) : b.toNat ≤ 1 := by cases b <;> decide

theorem loop_s_RestingPlaces {q u d : Nat} {c : Option Nat} {ls : List Ld} {a b s : Int} {y0 y2 y3 y6 : AV} (h : cellsAt H q = some (encL ls)) (hn : ls.length ≤ 3) (hd : d ≤ 12) (hu : cellsAt H u = some [.int .i64 (d : Int), .int .i64 a, .int .i64 b, slL q ls.length c, .int .i64 s]) :
    ∀ (k i : Nat) (G : List Blk) (y7 y8 : AV), k + i = (d + 1) ^ ls.length → ∃ (G' : List Blk) (z7 z8 : AV), run T pr (.loop w_s_RestingPlaces_1) ⟨[y0, .ptr (some (u, 0)), y2, y3, .int .i64 (sumN i fun k => (restD ls a b (digs (d + 1) ls.length k).reverse).toNat : Nat), .int .i64 i, y6, y7, y8], ⟨H ++ G, e⟩⟩ =
      some (Ex.exit 0, ⟨[y0, .ptr (some (u, 0)), y2, y3, .int .i64 (sumN ((d + 1) ^ ls.length) fun k => (restD ls a b (digs (d + 1) ls.length k).reverse).toNat : Nat), .int .i64 ((d + 1) ^ ls.length : Nat), y6, z7, z8], ⟨H ++ G', e⟩⟩)
  | 0, i, G, y7, y8, hk => by
    obtain rfl : i = (d + 1) ^ ls.length := by omega
    refine ⟨G, .bool false, y8, ?_⟩
    rw [run_loop]
    generalize run T pr (.loop w_s_RestingPlaces_1) = R
    simp +contextual only [w_s_RestingPlaces_1, cells_mono hu, e_s_l11Size hn hd, Nat.lt_irrefl, decide_false, go_sem, entry, joinEsc, if_pos, reduceIte, Nat.reduceAdd, Nat.reduceLeDiff, Nat.reduceLT, Nat.reduceEqDiff]
  | k + 1, i, G, y7, y8, hk => by
    have hp := pow_le hn hd
    have hi : i < (d + 1) ^ ls.length := by omega
    have hat := e_s_l11At (pr := pr) (e := e) (c := c) (cells_mono h G) hn hd (show i ≤ 2197 by omega) a b s
    have hs := e_s_l11Rests (pr := pr) (e := e) (c := none) (cells_end (H := H) G (encL (putL ls (ints (digs (d + 1) ls.length i).reverse))) true) (by rw [putL_length]; omega) d a b s
    simp only [List.length_append, List.append_assoc, putL_length] at hat hs
    have hsum := sumN_le (f := fun k => (restD ls a b (digs (d + 1) ls.length k).reverse).toNat) (fun i => toNat_le _) i
    obtain ⟨G', z7, z8, ih⟩ := loop_s_RestingPlaces (c := c) (y0 := y0) (y2 := y2) (y3 := y3) (y6 := y6) h hn hd hu k (i + 1) (G ++ [.cells (encL (putL ls (ints (digs (d + 1) ls.length i).reverse))) true]) (.bool true) (.bool (restD ls a b (digs (d + 1) ls.length i).reverse)) (by omega)
    refine ⟨G', z7, z8, ?_⟩
    rw [run_loop]
    rw [sumN] at ih
    generalize sumN i (fun k => (restD ls a b (digs (d + 1) ls.length k).reverse).toNat) = many at ih hsum ⊢
    generalize sumN ((d + 1) ^ ls.length) (fun k => (restD ls a b (digs (d + 1) ls.length k).reverse).toNat) = all at ih ⊢
    generalize run T pr (.loop w_s_RestingPlaces_1) = R at ih ⊢
    unfold restD at ih
    cases h3 : decide (sideW (putL ls (ints (digs (d + 1) ls.length i).reverse)) a b = 0) <;> rw [h3] at ih hs <;>
      simp +contextual only [w_s_RestingPlaces_1, cells_mono hu, e_s_l11Size hn hd, hi, hat, hs, wrap_succ (show i < 9223372036854775807 by omega), wrap_succ (show many < 9223372036854775807 by omega), decide_true, go_sem, entry, joinEsc, if_pos, reduceIte, Nat.reduceAdd, Nat.reduceLeDiff, Nat.reduceLT, Nat.reduceEqDiff] <;> exact ih

theorem loop_i_RestingPlaces_1 {L : List Blk} {u n d : Nat} {a a2 s : Int} {p : Option (Nat × Nat)} {sz : Nat} {c : Option Nat} {y0 y2 y3 y4 y6 y7 y8 y9 y13 y14 y15 y16 y17 y18 y19 : AV} (hu : cellsAt L u = some [.int .i64 (d : Int), .int .i64 a, .int .i64 a2, .slice p sz n c, .int .i64 s]) (hn : n ≤ 3) (hd : d ≤ 12) :
    ∀ (k i v : Nat) (y12 : AV), k + i = n → v * (d + 1) ^ k ≤ 2197 → ∃ z12, run T pr (.loop w_i_RestingPlaces_1) ⟨[y0, .ptr (some (u, 0)), y2, y3, y4, .int .i64 v, y6, y7, y8, y9, .int .i64 n, .int .i64 i, y12, y13, y14, y15, y16, y17, y18, y19], ⟨L, e⟩⟩ =
      some (Ex.exit 0, ⟨[y0, .ptr (some (u, 0)), y2, y3, y4, .int .i64 ((v * (d + 1) ^ k : Nat) : Int), y6, y7, y8, y9, .int .i64 n, .int .i64 n, z12, y13, y14, y15, y16, y17, y18, y19], ⟨L, e⟩⟩)
  | 0, i, v, y12, hk, hv => by
    refine ⟨.bool false, ?_⟩
    obtain rfl : i = n := by omega
    rw [run_loop, Nat.pow_zero, Nat.mul_one]
    generalize run T pr (.loop w_i_RestingPlaces_1) = R'
    simp +contextual only [w_i_RestingPlaces_1, hu, Nat.lt_irrefl, decide_false, go_sem, entry, joinEsc, if_pos, reduceIte, Nat.reduceAdd, Nat.reduceLeDiff, Nat.reduceLT, Nat.reduceEqDiff]
  | k + 1, i, v, y12, hk, hv => by
    have hi : i < n := by omega
    have hvv : v * (d + 1) ^ (k + 1) = v * (d + 1) * (d + 1) ^ k := by rw [Nat.pow_succ, Nat.mul_assoc, Nat.mul_comm (d + 1) ((d + 1) ^ k)]
    rw [hvv] at hv ⊢
    have h1 : v * (d + 1) ≤ 2197 := Nat.le_trans (Nat.le_mul_of_pos_right _ (Nat.pow_pos (Nat.succ_pos d))) hv
    obtain ⟨z12, ih⟩ := loop_i_RestingPlaces_1 (y0 := y0) (y2 := y2) (y3 := y3) (y4 := y4) (y6 := y6) (y7 := y7) (y8 := y8) (y9 := y9) (y13 := y13) (y14 := y14) (y15 := y15) (y16 := y16) (y17 := y17) (y18 := y18) (y19 := y19) hu hn hd k (i + 1) (v * (d + 1)) (.bool true) (by omega) hv
    refine ⟨z12, ?_⟩
    rw [run_loop]
    generalize run T pr (.loop w_i_RestingPlaces_1) = R' at ih ⊢
    have hw : IntKind.i64.wrap ((v : Int) * ((d + 1 : Nat) : Int)) = ((v * (d + 1) : Nat) : Int) := by rw [← Int.natCast_mul]; exact wrapN (by omega)
    simp +contextual only [w_i_RestingPlaces_1, hu, hi, wrap_succ (show d < 9223372036854775807 by omega), wrap_succ (show i < 9223372036854775807 by omega), hw, decide_true, go_sem, entry, joinEsc, if_pos, reduceIte, Nat.reduceAdd, Nat.reduceLeDiff, Nat.reduceLT, Nat.reduceEqDiff]
    exact ih

theorem loop_i_RestingPlaces_2 {L : List Blk} {u sb n d : Nat} {a a2 s : Int} {p : Option (Nat × Nat)} {sz : Nat} {c : Option Nat} {y0 y2 y3 y4 y5 y9 y10 y11 y12 y13 y14 y15 y19 : AV} (hb : sb < L.length) (hu : cellsAt L u = some [.int .i64 (d : Int), .int .i64 a, .int .i64 a2, .slice p sz n c, .int .i64 s]) (hne : sb ≠ u) (hn : n ≤ 3) (hd : d ≤ 12) :
    ∀ (j : Nat) (P R : List Int) (k : Nat) (y8 y18 : AV), P.length + j = n → P.length + R.length = 3 → k ≤ 2197 → ∃ z6 z8 z18, run T pr (.loop w_i_RestingPlaces_2) ⟨[y0, .ptr (some (u, 0)), y2, y3, y4, y5, .int .i64 k, .ptr (some (sb, 0)), y8, y9, y10, y11, y12, y13, y14, y15, .int .i64 n, .int .i64 P.length, y18, y19], ⟨L.set sb (.cells (encI (P ++ R)) true), e⟩⟩ =
      some (Ex.exit 4, ⟨[y0, .ptr (some (u, 0)), y2, y3, y4, y5, z6, .ptr (some (sb, 0)), z8, y9, y10, y11, y12, y13, y14, y15, .int .i64 n, .int .i64 n, z18, y19], ⟨L.set sb (.cells (encI (P ++ (ints (digs (d + 1) j k) ++ R.drop j))) true), e⟩⟩)
  | 0, P, R, k, y8, y18, hj, hR, hk => by
    refine ⟨.int .i64 k, y8, .bool false, ?_⟩
    obtain rfl : n = P.length := by omega
    rw [run_loop]
    generalize run T pr (.loop w_i_RestingPlaces_2) = R'
    simp +contextual only [w_i_RestingPlaces_2, Nat.lt_irrefl, decide_false, digs, ints, List.map_nil, List.nil_append, List.drop_zero, go_sem, entry, joinEsc, if_pos, reduceIte, Nat.reduceAdd, Nat.reduceLeDiff, Nat.reduceLT, Nat.reduceEqDiff]
  | j + 1, P, [], k, y8, y18, hj, hR, hk => by simp at hR; omega
  | j + 1, P, r :: R, k, y8, y18, hj, hR, hk => by
    simp only [List.length_cons] at hR
    obtain ⟨z6, z8, z18, ih⟩ := loop_i_RestingPlaces_2 (y0 := y0) (y2 := y2) (y3 := y3) (y4 := y4) (y5 := y5) (y9 := y9) (y10 := y10) (y11 := y11) (y12 := y12) (y13 := y13) (y14 := y14) (y15 := y15) (y19 := y19) hb hu hne hn hd j (P ++ [((k % (d + 1) : Nat) : Int)]) R (k / (d + 1)) (.int .i64 P.length) (.bool true) (by simp; omega) (by simp; omega) (Nat.le_trans (Nat.div_le_self _ _) hk)
    refine ⟨z6, z8, z18, ?_⟩
    rw [run_loop]
    generalize run T pr (.loop w_i_RestingPlaces_2) = R' at ih ⊢
    have hi : P.length < n := by omega
    have hi3 : P.length < 3 := by omega
    have hg : (L.set sb (.cells (encI (P ++ r :: R)) true))[sb]? = some (.cells (encI (P ++ r :: R)) true) := List.getElem?_set_self hb
    have hle : P.length + 1 ≤ (encI (P ++ r :: R)).length := by simp [encI]
    have hu' := fun y => cellsAt_set_ne (x := y) hu hne
    have hz : ¬ ((d + 1 : Nat) : Int) = 0 := by omega
    have hw2 : IntKind.i64.wrap (((k / (d + 1) : Nat) : Int)) = ((k / (d + 1) : Nat) : Int) := wrapN (by have := Nat.div_le_self k (d + 1); omega)
    simp only [List.length_append, List.length_cons, List.length_nil, Nat.zero_add, List.append_assoc, List.singleton_append] at ih
    rw [show P ++ (ints (digs (d + 1) (j + 1) k) ++ (r :: R).drop (j + 1)) = P ++ ((k % (d + 1) : Nat) : Int) :: (ints (digs (d + 1) j (k / (d + 1))) ++ R.drop j) by simp [digs, ints]]
    simp +contextual only [w_i_RestingPlaces_2, hi, hi3, hg, hle, hu', hz, tmodN, tdivN, setRange_mid, List.append_assoc, List.singleton_append, List.set_set, hw2, wrap_succ (show d < 9223372036854775807 by omega), wrap_succ (show P.length < 9223372036854775807 by omega), decide_true, decide_false, go_sem, entry, joinEsc, if_pos, reduceIte, Nat.reduceAdd, Nat.reduceLeDiff, Nat.reduceLT, Nat.reduceEqDiff]
    exact ih

theorem set_end (G : List Blk) (x y : Blk) : (H ++ (G ++ [x])).set (H.length + G.length) y = H ++ (G ++ [y]) := by
  rw [set_newk]
  simp [List.set_append_right]

theorem three {l : List Int} (h : l.length = 3) : ∃ s0 s1 s2, l = [s0, s1, s2] := by
  match l, h with
  | [s0, s1, s2], _ => exact ⟨s0, s1, s2, rfl⟩

theorem loop_i_RestingPlaces_3 {q u d : Nat} {c : Option Nat} {ls : List Ld} {a b s : Int} {y0 y2 y3 y5 y9 y10 y11 y12 : AV} (h : cellsAt H q = some (encL ls)) (hn : ls.length ≤ 3) (hd : d ≤ 12) (hu : cellsAt H u = some [.int .i64 (d : Int), .int .i64 a, .int .i64 b, slL q ls.length c, .int .i64 s]) :
    ∀ (k i : Nat) (G : List Blk) (y6 y7 y8 y15 y16 y17 y18 y19 : AV), k + i = (d + 1) ^ ls.length → ∃ (G' : List Blk) (z6 z7 z8 z15 z16 z17 z18 z19 : AV), run T pr (.loop w_i_RestingPlaces_3) ⟨[y0, .ptr (some (u, 0)), y2, y3, .int .i64 (sumN i fun k => (restD ls a b (digs (d + 1) ls.length k)).toNat : Nat), y5, y6, y7, y8, y9, y10, y11, y12, .int .i64 ((d + 1) ^ ls.length : Nat), .int .i64 i, y15, y16, y17, y18, y19], ⟨H ++ G, e⟩⟩ =
      some (Ex.exit 2, ⟨[y0, .ptr (some (u, 0)), y2, y3, .int .i64 (restN ls a b d : Nat), y5, z6, z7, z8, y9, y10, y11, y12, .int .i64 ((d + 1) ^ ls.length : Nat), .int .i64 ((d + 1) ^ ls.length : Nat), z15, z16, z17, z18, z19], ⟨H ++ G', e⟩⟩)
  | 0, i, G, y6, y7, y8, y15, y16, y17, y18, y19, hk => by
    obtain rfl : i = (d + 1) ^ ls.length := by omega
    refine ⟨G, y6, y7, y8, .bool false, y16, y17, y18, y19, ?_⟩
    rw [run_loop]
    generalize run T pr (.loop w_i_RestingPlaces_3) = R
    simp +contextual only [w_i_RestingPlaces_3, restN, Nat.lt_irrefl, decide_false, go_sem, entry, joinEsc, if_pos, reduceIte, Nat.reduceAdd, Nat.reduceLeDiff, Nat.reduceLT, Nat.reduceEqDiff]
  | k + 1, i, G, y6, y7, y8, y15, y16, y17, y18, y19, hk => by
    have hp := pow_le hn hd
    have hi : i < (d + 1) ^ ls.length := by omega
    have hlen : (ints (digs (d + 1) ls.length i)).length = ls.length := by rw [ints, List.length_map, digs_length]
    obtain ⟨s0, s1, s2, h3⟩ := three (l := ints (digs (d + 1) ls.length i) ++ [0, 0, 0].drop ls.length) (by rw [List.length_append, hlen, List.length_drop]; simp; omega)
    have hput : putL ls [s0, s1, s2] = putL ls (ints (digs (d + 1) ls.length i)) := by rw [← h3, putL_more _ _ _ hlen.symm]
    have hr : restD ls a b (digs (d + 1) ls.length i) = decide (sideW (putL ls [s0, s1, s2]) a b = 0) := by rw [hput]; rfl
    have ub : u < H.length := cellsAt_lt hu
    obtain ⟨w6, w8, w18, hl⟩ := loop_i_RestingPlaces_2 (pr := pr) (e := e) (L := H ++ (G ++ [.cells (encI [0, 0, 0]) true])) (u := u) (sb := H.length + G.length) (y0 := y0) (y2 := y2) (y3 := y3) (y4 := .int .i64 (sumN i fun k => (restD ls a b (digs (d + 1) ls.length k)).toNat : Nat)) (y5 := y5) (y9 := y9) (y10 := y10) (y11 := y11) (y12 := y12) (y13 := .int .i64 ((d + 1) ^ ls.length : Nat)) (y14 := .int .i64 i) (y15 := .bool true) (y19 := y19) (by simp) (cells_mono hu _) (by omega) hn hd ls.length [] [0, 0, 0] i y8 y18 (by simp) rfl (by omega)
    have h0 : ((0 : Nat) : Int) = 0 := rfl
    simp only [set_end, List.nil_append, List.length_nil, h0, h3, encI, List.map_cons, List.map_nil] at hl
    have hrest := fun G' => e_i_Party_rests (pr := pr) (e := e) (c := c) (cells_mono h G') hn d a b s s0 s1 s2
    rw [← hr] at hrest
    have hsum := sumN_le (f := fun k => (restD ls a b (digs (d + 1) ls.length k)).toNat) (fun i => toNat_le _) i
    obtain ⟨G', z6, z7, z8, z15, z16, z17, z18, z19, ih⟩ := loop_i_RestingPlaces_3 (c := c) (y0 := y0) (y2 := y2) (y3 := y3) (y5 := y5) (y9 := y9) (y10 := y10) (y11 := y11) (y12 := y12) h hn hd hu k (i + 1) (G ++ [.cells [.int .i64 s0, .int .i64 s1, .int .i64 s2] true]) w6 (.ptr (some (H.length + G.length, 0))) w8 (.bool true) (.int .i64 ls.length) (.int .i64 ls.length) w18 (.bool (restD ls a b (digs (d + 1) ls.length i))) (by omega)
    refine ⟨G', z6, z7, z8, z15, z16, z17, z18, z19, ?_⟩
    rw [run_loop]
    rw [sumN] at ih
    generalize sumN i (fun k => (restD ls a b (digs (d + 1) ls.length k)).toNat) = many at ih hl hsum ⊢
    generalize run T pr (.loop w_i_RestingPlaces_3) = R at ih ⊢
    cases h4 : restD ls a b (digs (d + 1) ls.length i) <;> rw [h4] at ih hrest <;>
      simp +contextual only [w_i_RestingPlaces_3, fillParts, cells_mono hu, hi, hl, hrest, cells_end, wrap_succ (show i < 9223372036854775807 by omega), wrap_succ (show many < 9223372036854775807 by omega), decide_true, go_sem, entry, joinEsc, if_pos, reduceIte, Nat.reduceAdd, Nat.reduceLeDiff, Nat.reduceLT, Nat.reduceEqDiff] <;> exact ih

theorem restN_rev (ls : List Ld) (a b : Int) (d : Nat) : (sumN ((d + 1) ^ ls.length) fun k => (restD ls a b (digs (d + 1) ls.length k).reverse).toNat) = restN ls a b d :=
  (digs_rev ls.length (fun l => (restD ls a b l).toNat)).symm

theorem party_bounds {x a b s : Int} {ls : List Ld} (h : partyOk x a b ls s = true) : ls.length ≤ 3 ∧ 1 ≤ x ∧ x ≤ 12 := by
  unfold partyOk onOk beamOk at h
  simp at h
  omega

theorem e_s_RestingPlaces {q : Nat} {c : Option Nat} {ls : List Ld} (h : cellsAt H q = some (encL ls)) (hn : ls.length ≤ 9223372036854775806) (x a b s : Int) : call T pr f_s_RestingPlaces [ptV x a b (slL q ls.length c) s] ⟨H, e⟩ =
    some (.tup [.int .i64 (if partyOk x a b ls s then ((restN ls a b x.toNat : Nat) : Int) else 0), .bool (partyOk x a b ls s)], ⟨H, e⟩) := by
  rw [call_eq t_s_RestingPlaces]
  cases h1 : partyOk x a b ls s with
  | false => simp +contextual only [a_s_RestingPlaces, c_s_RestingPlaces, e_s_l11Party (cells_mono h _) hn, h1, Bool.false_eq_true, if_false, go_sem, entry, joinEsc, if_pos, reduceIte, Nat.reduceAdd, Nat.reduceLeDiff, Nat.reduceLT, Nat.reduceEqDiff]
  | true =>
    obtain ⟨h2, h3, h4⟩ := party_bounds h1
    obtain ⟨d, rfl⟩ : ∃ d : Nat, x = d := ⟨x.toNat, by omega⟩
    rw [Int.toNat_natCast]
    have hu : cellsAt (H ++ [Blk.cells [.int .i64 (d : Int), .int .i64 a, .int .i64 b, slL q ls.length c, .int .i64 s] true]) H.length = some [.int .i64 (d : Int), .int .i64 a, .int .i64 b, slL q ls.length c, .int .i64 s] := by rw [cellsAt_new0]; rfl
    obtain ⟨G', z7, z8, hl⟩ := loop_s_RestingPlaces (pr := pr) (e := none) (c := c) (y0 := ptV d a b (slL q ls.length c) s) (y2 := .int .i64 0) (y3 := .bool false) (y6 := .bool false) (cells_mono h _) h2 (by omega) hu ((d + 1) ^ ls.length) 0 [] .undef .undef rfl
    have h0 : ((0 : Nat) : Int) = 0 := rfl
    rw [restN_rev, List.append_nil] at hl
    simp only [sumN, h0] at hl
    simp +contextual only [a_s_RestingPlaces, c_s_RestingPlaces, e_s_l11Party (cells_mono h _) hn, h1, hl, if_true, go_sem, entry, joinEsc, if_pos, reduceIte, Nat.reduceAdd, Nat.reduceLeDiff, Nat.reduceLT, Nat.reduceEqDiff]

theorem e_i_RestingPlaces {q : Nat} {c : Option Nat} {ls : List Ld} (h : cellsAt H q = some (encL ls)) (hn : ls.length ≤ 9223372036854775806) (x a b s : Int) : call T pr f_i_RestingPlaces [ptV x a b (slL q ls.length c) s] ⟨H, e⟩ =
    some (.tup [.int .i64 (if partyOk x a b ls s then ((restN ls a b x.toNat : Nat) : Int) else 0), .bool (partyOk x a b ls s)], ⟨H, e⟩) := by
  rw [call_eq t_i_RestingPlaces]
  cases h1 : partyOk x a b ls s with
  | false => simp +contextual only [a_i_RestingPlaces, c_i_RestingPlaces, e_i_IsParty (cells_mono h _) hn, h1, Bool.false_eq_true, if_false, go_sem, entry, joinEsc, if_pos, reduceIte, Nat.reduceAdd, Nat.reduceLeDiff, Nat.reduceLT, Nat.reduceEqDiff]
  | true =>
    obtain ⟨h2, h3, h4⟩ := party_bounds h1
    obtain ⟨d, rfl⟩ : ∃ d : Nat, x = d := ⟨x.toNat, by omega⟩
    rw [Int.toNat_natCast]
    have hu : cellsAt (H ++ [Blk.cells [.int .i64 (d : Int), .int .i64 a, .int .i64 b, slL q ls.length c, .int .i64 s] true]) H.length = some [.int .i64 (d : Int), .int .i64 a, .int .i64 b, slL q ls.length c, .int .i64 s] := by rw [cellsAt_new0]; rfl
    have hp := pow_le h2 (show d ≤ 12 by omega)
    obtain ⟨z12, hl1⟩ := loop_i_RestingPlaces_1 (pr := pr) (e := none) (y0 := ptV d a b (slL q ls.length c) s) (y2 := .int .i64 0) (y3 := .bool false) (y4 := .int .i64 0) (y6 := .undef) (y7 := .undef) (y8 := .undef) (y9 := .bool false) (y13 := .undef) (y14 := .undef) (y15 := .undef) (y16 := .undef) (y17 := .undef) (y18 := .undef) (y19 := .undef) hu h2 (by omega) ls.length 0 1 .undef rfl (by omega)
    obtain ⟨G', z6, z7, z8, z15, z16, z17, z18, z19, hl⟩ := loop_i_RestingPlaces_3 (pr := pr) (e := none) (c := c) (y0 := ptV d a b (slL q ls.length c) s) (y2 := .int .i64 0) (y3 := .bool false) (y5 := .int .i64 ((d + 1) ^ ls.length : Nat)) (y9 := .bool false) (y10 := .int .i64 ls.length) (y11 := .int .i64 ls.length) (y12 := z12) (cells_mono h _) h2 (by omega) hu ((d + 1) ^ ls.length) 0 [] .undef .undef .undef .undef .undef .undef .undef .undef rfl
    have h0 : ((0 : Nat) : Int) = 0 := rfl
    have h01 : ((1 : Nat) : Int) = 1 := rfl
    rw [List.append_nil] at hl
    rw [h0, h01, Nat.one_mul] at hl1
    simp only [sumN, h0] at hl
    simp +contextual only [a_i_RestingPlaces, c_i_RestingPlaces, e_i_IsParty (cells_mono h _) hn, h1, hl1, hl, if_true, go_sem, entry, joinEsc, if_pos, reduceIte, Nat.reduceAdd, Nat.reduceLeDiff, Nat.reduceLT, Nat.reduceEqDiff]

theorem law_RestingPlaces {people : AV} {ls : List Ld} (ha : ArgL H people ls) (x a b s : Int) : ∃ m', call T pr f_l_FnExactRestingPlaces [ptV x a b people s] ⟨H, none⟩ = some (.bool true, m') := by
  refine ⟨⟨H, none⟩, ?_⟩
  have hsz : ∀ G e', call T pr f_l_szParty [ptV x a b people s, .int .i64 1048576] ⟨G, e'⟩ = some (.int .i64 (if ls.length ≤ 1048576 then 1048576 - (ls.length : Int) else -1), ⟨G, e'⟩) := by
    obtain ⟨p, sz, c, rfl, h2, h3⟩ := ha
    exact fun G e' => e_l_szParty h2 x a b s
  rw [call_eq t_l_FnExactRestingPlaces]
  by_cases hn : ls.length ≤ 1048576
  · have hneg : ¬ (1048576 - (ls.length : Int) < 0) := by omega
    have hto := fun G => e_l_toParty (pr := pr) (e := none) (ha.more G) hn x a b s
    have hn1 : ls.length ≤ 9223372036854775806 := by omega
    have hsi := fun L q c h1 => e_s_RestingPlaces (pr := pr) (H := L) (e := none) (q := q) (c := c) (ls := ls) h1 hn1 x a b s
    have hii := fun L q c h1 => e_i_RestingPlaces (pr := pr) (H := L) (e := none) (q := q) (c := c) (ls := ls) h1 hn1 x a b s
    have heq : ∀ L q1 q2 k1 k2, cellsAt L q1 = some (encL ls) → cellsAt L q2 = some (encL ls) → call T pr f_l_eqParty [ptV x a b (slL q1 ls.length k1) s, ptV x a b (slL q2 ls.length k2) s] ⟨L, none⟩ = some (.bool true, ⟨L, none⟩) :=
      fun L q1 q2 k1 k2 h1 h2 => e_l_eqParty (fun G => e_l_eqLoadS (cells_mono h1 G) (cells_mono h2 G) hn1) x a b s
    simp +contextual only [a_l_FnExactRestingPlaces, c_l_FnExactRestingPlaces, hsz, hn, hneg, hto, hsi, hii, heq, under_slice, under_sliceN, Nat.add_assoc, Nat.add_lt_add_iff_left, Nat.lt_add_right_iff_pos, decide_true, decide_false, beq_self_eq_true, go_sem, entry, joinEsc, if_pos, reduceIte, Nat.reduceAdd, Nat.reduceLeDiff, Nat.reduceLT, Nat.reduceEqDiff]
  · simp +contextual only [a_l_FnExactRestingPlaces, c_l_FnExactRestingPlaces, hsz, hn, decide_true, show ((-1 : Int) < 0) by omega, go_sem, entry, joinEsc, if_pos, reduceIte, Nat.reduceAdd, Nat.reduceLeDiff, Nat.reduceLT, Nat.reduceEqDiff]

end Go.Proofs.Ythkgpblohjpcdaa.Slim
