/- Marks on stands, copies of stands. -/
import Derived.Test.YthkgpblohjpcdaaSlimE31
namespace Go.Proofs.Ythkgpblohjpcdaa.Slim

open Go

set_option linter.unusedSimpArgs false

set_option linter.unusedVariables false

variable {pr : Prims} {H : List Blk} {e : Option Nat}

theorem markedL_get : ∀ (n k i : Nat), i < n → (markedL k n)[i]? = some (((k + i * 2 : Nat) : Int), ((k + i * 2 + 1 : Nat) : Int))
  | 0, k, i, h => by omega
  | n + 1, k, 0, h => by simp [markedL]
  | n + 1, k, i + 1, h => by
    rw [markedL, List.getElem?_cons_succ, markedL_get n (k + 2) i (by omega), show k + 2 + i * 2 = k + (i + 1) * 2 by omega]

theorem markedL_length : ∀ (n k : Nat), (markedL k n).length = n
  | 0, k => rfl
  | n + 1, k => by rw [markedL, List.length_cons, markedL_length n (k + 2)]

theorem loop_l_heldLoadS {q n k0 : Nat} {c : Option Nat} {r : AV} (h : cellsAt H q = some (encL (markedL k0 n))) (hn : n ≤ 4194304) (hk0 : k0 ≤ 16777216) :
    ∀ (k i : Nat) (y4 y5 y6 : AV), k + i = n → ∃ z4 z5 z6, run T pr (.loop w_l_heldLoadS_1) ⟨[slL q n c, .int .i64 ((k0 + i * 2 : Nat) : Int), r, .int .i64 i, y4, y5, y6], ⟨H, e⟩⟩ =
      some (Ex.exit 0, ⟨[slL q n c, .int .i64 ((k0 + n * 2 : Nat) : Int), r, .int .i64 n, z4, z5, z6], ⟨H, e⟩⟩)
  | 0, i, y4, y5, y6, hk => by
    have hi : i = n := by omega
    subst hi
    refine ⟨.bool false, y5, y6, ?_⟩
    rw [run_loop]
    generalize run T pr (.loop w_l_heldLoadS_1) = R
    simp +contextual only [w_l_heldLoadS_1, Nat.lt_irrefl, decide_false, go_sem, entry, joinEsc, if_pos, reduceIte, Nat.reduceAdd, Nat.reduceLeDiff, Nat.reduceLT, Nat.reduceEqDiff]
  | k + 1, i, y4, y5, y6, hk => by
    have hi : i < n := by omega
    have hl := markedL_get n k0 i hi
    obtain ⟨z4, z5, z6, ih⟩ := loop_l_heldLoadS (c := c) (r := r) h hn hk0 k (i + 1) (.bool true) (.bool false) (.bool false) (by omega)
    refine ⟨z4, z5, z6, ?_⟩
    rw [run_loop]
    rw [show k0 + (i + 1) * 2 = (k0 + i * 2) + 1 + 1 by omega] at ih
    have hK : k0 + i * 2 ≤ 33554432 := by omega
    generalize k0 + i * 2 = K at hl ih hK ⊢
    generalize run T pr (.loop w_l_heldLoadS_1) = R at ih ⊢
    simp +contextual only [w_l_heldLoadS_1, h, hi, part_encL0 _ hl, part_encL1 _ hl, wrap_succ (show K < 9223372036854775807 by omega), wrap_succ (show K + 1 < 9223372036854775807 by omega), wrap_succ (show i < 9223372036854775807 by omega), decide_true, go_sem, entry, joinEsc, if_pos, reduceIte, Nat.reduceAdd, Nat.reduceLeDiff, Nat.reduceLT, Nat.reduceEqDiff]
    exact ih

theorem e_l_heldLoadS {q n k : Nat} {c : Option Nat} (h : cellsAt H q = some (encL (markedL k n))) (hn : n ≤ 4194304) (hk : k ≤ 16777216) : call T pr f_l_heldLoadS [slL q n c, .int .i64 k] ⟨H, e⟩ = some (.int .i64 ((k + n * 2 : Nat) : Int), ⟨H, e⟩) := by
  obtain ⟨z4, z5, z6, hl⟩ := loop_l_heldLoadS (pr := pr) (e := none) (c := c) (r := .int .i64 0) h hn hk n 0 .undef .undef .undef rfl
  have h0 : ((0 : Nat) : Int) = 0 := rfl
  rw [h0, Nat.zero_mul, Nat.add_zero] at hl
  rw [call_eq t_l_heldLoadS]
  simp +contextual only [a_l_heldLoadS, c_l_heldLoadS, hl, go_sem, entry, joinEsc, if_pos, reduceIte, Nat.reduceAdd, Nat.reduceLeDiff, Nat.reduceLT, Nat.reduceEqDiff]

def markedS (k : Nat) : Nat → List Sg
  | 0 => []
  | n + 1 => ((k : Int), ((k + 1 : Nat) : Int), ((k + 2 : Nat) : Int)) :: markedS (k + 3) n

theorem markedS_get : ∀ (n k i : Nat), i < n → (markedS k n)[i]? = some (((k + i * 3 : Nat) : Int), ((k + i * 3 + 1 : Nat) : Int), ((k + i * 3 + 2 : Nat) : Int))
  | 0, k, i, h => by omega
  | n + 1, k, 0, h => by simp [markedS]
  | n + 1, k, i + 1, h => by
    rw [markedS, List.getElem?_cons_succ, markedS_get n (k + 3) i (by omega), show k + 3 + i * 3 = k + (i + 1) * 3 by omega]

theorem part_encS0 {ss : List Sg} {i : Nat} {s : Sg} (sz : Nat) (h : ss[i]? = some s) : part false (encS ss) (i * 3) sz = some (.int .i64 s.1) := by
  induction ss generalizing i with
  | nil => simp at h
  | cons a ss ih =>
    cases i with
    | zero => simp at h; subst h; simp [encS, part]
    | succ i =>
      simp at h
      rw [show (i + 1) * 3 = i * 3 + 1 + 1 + 1 by omega, encS, part_fk, part_fk, part_fk]
      exact ih h

theorem part_encS1 {ss : List Sg} {i : Nat} {s : Sg} (sz : Nat) (h : ss[i]? = some s) : part false (encS ss) (i * 3 + 1) sz = some (.int .i64 s.2.1) := by
  induction ss generalizing i with
  | nil => simp at h
  | cons a ss ih =>
    cases i with
    | zero => simp at h; subst h; simp [encS, part]
    | succ i =>
      simp at h
      rw [show (i + 1) * 3 + 1 = i * 3 + 1 + 1 + 1 + 1 by omega, encS, part_fk, part_fk, part_fk]
      exact ih h

theorem part_encS2 {ss : List Sg} {i : Nat} {s : Sg} (sz : Nat) (h : ss[i]? = some s) : part false (encS ss) (i * 3 + 2) sz = some (.int .i64 s.2.2) := by
  induction ss generalizing i with
  | nil => simp at h
  | cons a ss ih =>
    cases i with
    | zero => simp at h; subst h; simp [encS, part]
    | succ i =>
      simp at h
      rw [show (i + 1) * 3 + 2 = i * 3 + 2 + 1 + 1 + 1 by omega, encS, part_fk, part_fk, part_fk]
      exact ih h

theorem setRange_midS0 (P R : List Sg) (r : Sg) (a : Int) : setRange (encS (P ++ r :: R)) (P.length * 3) [.int .i64 a] = encS (P ++ (a, r.2) :: R) := by
  induction P with
  | nil => simp [encS, setRange]
  | cons p P ih =>
    simp only [encS, List.cons_append, List.length_cons, Nat.add_mul, Nat.one_mul] at *
    rw [show P.length * 3 + 3 = P.length * 3 + 1 + 1 + 1 by omega, setRange_k, setRange_k, setRange_k, ih]

theorem setRange_midS1 (P R : List Sg) (r : Sg) (a : Int) : setRange (encS (P ++ r :: R)) (P.length * 3 + 1) [.int .i64 a] = encS (P ++ (r.1, a, r.2.2) :: R) := by
  induction P with
  | nil => simp [encS, setRange]
  | cons p P ih =>
    simp only [encS, List.cons_append, List.length_cons, Nat.add_mul, Nat.one_mul] at *
    rw [show P.length * 3 + 3 + 1 = P.length * 3 + 1 + 1 + 1 + 1 by omega, setRange_k, setRange_k, setRange_k, ih]

theorem setRange_midS2 (P R : List Sg) (r : Sg) (a : Int) : setRange (encS (P ++ r :: R)) (P.length * 3 + 2) [.int .i64 a] = encS (P ++ (r.1, r.2.1, a) :: R) := by
  induction P with
  | nil => simp [encS, setRange]
  | cons p P ih =>
    simp only [encS, List.cons_append, List.length_cons, Nat.add_mul, Nat.one_mul] at *
    rw [show P.length * 3 + 3 + 2 = P.length * 3 + 2 + 1 + 1 + 1 by omega, setRange_k, setRange_k, setRange_k, ih]

theorem finish_one_len {L' l : List Blk} {n : Nat} (v : AV) (e0 : Option Nat) (hl : L'.length = n) (h : v.under n = true) : finish 1 n e0 v ⟨L' ++ l, none⟩ = some (v, ⟨L', e0⟩) := by
  subst hl
  simp [finish, h, clean]

theorem set_left {L l : List Blk} {q : Nat} {x : Blk} (h : q < L.length) : (L ++ l).set q x = L.set q x ++ l := by
  rw [List.set_append_left _ _ h]

/-- what marking leaves of memory -/
def markMem (L : List Blk) (q1 q2 n m x : Nat) : List Blk := (L.set q1 (.cells (encL (markedL x n)) true)).set q2 (.cells (encS (markedS (x + n * 2) m)) true)

theorem binop_nil (p : Nat × Nat) (sz n : Nat) (c : Option Nat) : binop 3 .eql (.slice (some p) sz n c) (.slice none 0 0 none) = some (.bool false) := Eq.trans rfl rfl

/-- an append of none leaves a dead block -/
def kill0 (n b : Nat) (L : List Blk) : List Blk := if n = 0 then L.set b .dead else L

theorem kill0_length (n b : Nat) (L : List Blk) : (kill0 n b L).length = L.length := by unfold kill0; split <;> simp

theorem kill0_new (n k : Nat) (l : List Blk) : kill0 n (H.length + k) (H ++ l) = H ++ kill0 n k l := by
  unfold kill0
  split
  · rw [set_newk]
  · rfl

theorem kill0_new0 (n : Nat) (l : List Blk) : kill0 n H.length (H ++ l) = H ++ kill0 n 0 l := kill0_new n 0 l

theorem kill0_cons (n k : Nat) (x : Blk) (l : List Blk) : kill0 n (k + 1) (x :: l) = x :: kill0 n k l := by
  unfold kill0
  split <;> rfl

theorem kill0_0 (n : Nat) (x : Blk) (l : List Blk) : kill0 n 0 (x :: l) = (if n = 0 then Blk.dead else x) :: l := by
  unfold kill0
  split <;> rfl

theorem append_all {L : List Blk} {b q n sz bytes : Nat} {c : Option Nat} {cs : List AV} (hb : L[b]? = some (.cells [] true)) (hq : cellsAt L q = some cs) (hl : cs.length = n * sz) (hm : n * bytes ≤ maxBytes) :
    appendV L e false sz bytes (.slice (some (b, 0)) sz 0 (some 0)) (.slice (some (q, 0)) sz n c) = some (.slice (some (L.length, 0)) sz n none, ⟨kill0 n b L ++ [.cells cs true], e⟩) := by
  unfold appendV
  have hs := srcCells_new L n sz c cs q hq hl
  simp only [hb, hs]
  rw [if_pos (by simp [hm, hl])]
  unfold kill0
  by_cases hn : n = 0
  · subst hn
    have : cs = [] := by simpa using hl
    subst this
    simp
  · rw [if_pos ⟨trivial, by omega⟩, if_neg hn]
    simp

theorem e_Clone_Load {q : Nat} {c : Option Nat} {ls : List Ld} (h : cellsAt H q = some (encL ls)) (hn : ls.length ≤ 1048576) : call T pr f_slices_Clone_Si_Load_i_Load [slL q ls.length c] ⟨H, e⟩ = some (slL H.length ls.length none, ⟨H ++ [.cells (encL ls) true], e⟩) := by
  have ha := fun L b e' (hb : L[b]? = some (.cells [] true)) hq => append_all (e := e') (L := L) (b := b) (q := q) (n := ls.length) (sz := 2) (bytes := 16) (c := c) (cs := encL ls) hb hq (encL_length ls) (by unfold maxBytes; omega)
  have hf : ∀ (B : Blk) (e0 : Option Nat), finish 2 H.length e0 (slL (H.length + 1) ls.length none) ⟨H ++ [B, .cells (encL ls) true], none⟩ = some (slL H.length ls.length none, ⟨H ++ [.cells (encL ls) true], e0⟩) :=
    fun B e0 => finish_two_at e0 rfl (under_encL _ _)
  rw [call_eq t_slices_Clone_Si_Load_i_Load]
  simp +contextual only [a_slices_Clone_Si_Load_i_Load, c_slices_Clone_Si_Load_i_Load, binop_nil, fillParts, ha, cells_mono h, kill0_new0, kill0_0, hf, go_sem, entry, joinEsc, if_pos, reduceIte, Nat.reduceAdd, Nat.reduceLeDiff, Nat.reduceLT, Nat.reduceEqDiff]

theorem cellsAt_lt {L : List Blk} {w : Nat} {cs : List AV} (h : cellsAt L w = some cs) : w < L.length := by
  unfold cellsAt at h
  cases hb : L[w]? with
  | none => rw [hb] at h; cases h
  | some x => exact (List.getElem?_eq_some_iff.mp hb).1

end Go.Proofs.Ythkgpblohjpcdaa.Slim
