/- Marks on memory that is told apart; results of two. -/
import Derived.Test.YtlocjmbfcdfjfaaSlimE13
namespace Go.Proofs.Ytlocjmbfcdfjfaa.Slim

open Go

set_option linter.unusedSimpArgs false

set_option linter.unusedVariables false

variable {pr : Prims} {H : List Blk} {e : Option Nat}

theorem finish_one_set (v : AV) (e0 : Option Nat) (b : Nat) (x : Blk) (h : v.under H.length = true) : finish 1 H.length e0 v ⟨H.set b x, none⟩ = some (v, ⟨H.set b x, e0⟩) := by
  have : (H.set b x).take H.length = H.set b x := List.take_of_length_le (by simp)
  simp [finish, h, clean, this]

theorem finish_two_sb {G : List Blk} {j sz n o : Nat} {c : Option Nat} {cs : List AV} {wr : Bool} (x : Bool) (e0 : Option Nat) (hG : G[j]? = some (.cells cs wr)) (h : (cs.all fun c => c.under H.length) = true) :
    finish 2 H.length e0 (.tup [.slice (some (H.length + j, o)) sz n c, .bool x]) ⟨H ++ G, none⟩ = some (.tup [.slice (some (H.length, o)) sz n c, .bool x], ⟨H ++ [.cells cs wr], e0⟩) := by
  have hlt : ¬ H.length + j < H.length := by omega
  have hr : dedup (AV.roots H.length (.tup [.slice (some (H.length + j, o)) sz n c, .bool x])) = [H.length + j] := by
    unfold AV.roots AV.roots.go AV.roots.go AV.roots.go AV.roots
    rw [if_neg hlt]
    rfl
  have hb : (H ++ G)[H.length + j]? = some (.cells cs wr) := by rw [List.getElem?_append_right (by omega)]; simpa using hG
  unfold finish
  simp only [hr]
  have h2 : ([H.length + j].all fun b => flatBlk H.length (H ++ G)[b]?) = true := by
    simp only [List.all_cons, List.all_nil, Bool.and_true, hb, flatBlk]
    exact h
  simp only [clean, h2, and_self, if_true]
  simp [AV.rename, AV.rename.go, renum, hb, hlt]

theorem finish_two_sb0 (sz n : Nat) (c : Option Nat) (cs : List AV) (wr : Bool) (x : Bool) (e0 : Option Nat) (h : (cs.all fun c => c.under H.length) = true) :
    finish 2 H.length e0 (.tup [.slice (some (H.length, 0)) sz n c, .bool x]) ⟨H ++ [.cells cs wr], none⟩ = some (.tup [.slice (some (H.length, 0)) sz n c, .bool x], ⟨H ++ [.cells cs wr], e0⟩) :=
  finish_two_sb (G := [.cells cs wr]) (j := 0) x e0 rfl h

theorem finish_two_nb {G : List Blk} {sz n : Nat} {c : Option Nat} (x : Bool) (e0 : Option Nat) :
    finish 2 H.length e0 (.tup [.slice none sz n c, .bool x]) ⟨H ++ G, none⟩ = some (.tup [.slice none sz n c, .bool x], ⟨H, e0⟩) := by
  have hr : dedup (AV.roots H.length (.tup [.slice none sz n c, .bool x])) = [] := rfl
  unfold finish
  simp only [hr]
  simp [AV.rename, AV.rename.go, clean]

theorem set_same {L : List Blk} {b : Nat} {x : Blk} (h : L[b]? = some x) : L.set b x = L := by
  apply List.ext_getElem?
  intro i
  rw [List.getElem?_set]
  split
  · rename_i hi
    subst hi
    rw [h]
    rw [if_pos (List.getElem?_eq_some_iff.mp h).1]
  · rfl

def markedI (k : Nat) : Nat → List Int
  | 0 => []
  | n + 1 => (k : Int) :: markedI (k + 1) n

theorem markedI_length (k : Nat) : ∀ n, (markedI k n).length = n
  | 0 => rfl
  | n + 1 => by rw [markedI, List.length_cons, markedI_length (k + 1) n]

theorem markedI_get : ∀ (n k i : Nat), i < n → (markedI k n)[i]? = some ((k + i : Nat) : Int)
  | 0, k, i, h => by omega
  | n + 1, k, 0, h => by simp [markedI]
  | n + 1, k, i + 1, h => by
    rw [markedI, List.getElem?_cons_succ, markedI_get n (k + 1) i (by omega), show k + 1 + i = k + (i + 1) by omega]

theorem setRange_mid (P R : List Int) (r a : Int) : setRange (encI (P ++ r :: R)) P.length [.int .i64 a] = encI ((P ++ [a]) ++ R) := by
  rw [setRange_encI (by simp)]
  simp

def markedL (k : Nat) : Nat → List Ld
  | 0 => []
  | n + 1 => ((k : Int), ((k + 1 : Nat) : Int)) :: markedL (k + 2) n

theorem setRange_midL0 (P R : List Ld) (r : Ld) (a : Int) : setRange (encL (P ++ r :: R)) (P.length * 2) [.int .i64 a] = encL (P ++ (a, r.2) :: R) := by
  induction P with
  | nil => simp [encL, setRange]
  | cons p P ih =>
    simp only [encL, List.cons_append, List.length_cons, Nat.add_mul, Nat.one_mul] at *
    rw [setRange_k, setRange_k, ih]

theorem setRange_midL1 (P R : List Ld) (r : Ld) (a : Int) : setRange (encL (P ++ r :: R)) (P.length * 2 + 1) [.int .i64 a] = encL (P ++ (r.1, a) :: R) := by
  induction P with
  | nil => simp [encL, setRange]
  | cons p P ih =>
    simp only [encL, List.cons_append, List.length_cons, Nat.add_mul, Nat.one_mul] at *
    rw [show P.length * 2 + 2 + 1 = P.length * 2 + 1 + 1 + 1 by omega, setRange_k, setRange_k, ih]

theorem loop_l_markLoadS {L : List Blk} {b n : Nat} {c : Option Nat} {r : AV} (hb : b < L.length) (hn : n ≤ 4194304) :
    ∀ (R P : List Ld) (k : Nat) (y4 : AV), P.length + R.length = n → k + R.length * 2 ≤ 16777216 → ∃ z4, run T pr (.loop w_l_markLoadS_1) ⟨[slL b n c, .int .i64 k, r, .int .i64 P.length, y4], ⟨L.set b (.cells (encL (P ++ R)) true), e⟩⟩ =
      some (Ex.exit 0, ⟨[slL b n c, .int .i64 ((k + R.length * 2 : Nat) : Int), r, .int .i64 n, z4], ⟨L.set b (.cells (encL (P ++ markedL k R.length)) true), e⟩⟩)
  | [], P, k, y4, hP, hk => by
    refine ⟨.bool false, ?_⟩
    obtain rfl : n = P.length := by simp at hP; omega
    rw [run_loop]
    generalize run T pr (.loop w_l_markLoadS_1) = R'
    simp +contextual only [w_l_markLoadS_1, Nat.lt_irrefl, decide_false, markedL, Nat.zero_mul, go_sem, entry, joinEsc, if_pos, reduceIte, Nat.reduceAdd, Nat.reduceLeDiff, Nat.reduceLT, Nat.reduceEqDiff]
  | x :: R, P, k, y4, hP, hk => by
    simp only [List.length_cons] at hP hk
    have hi : P.length < n := by omega
    obtain ⟨z4, ih⟩ := loop_l_markLoadS (c := c) (r := r) hb hn R (P ++ [((k : Int), ((k + 1 : Nat) : Int))]) (k + 2) (.bool true) (by simp; omega) (by omega)
    refine ⟨z4, ?_⟩
    rw [run_loop]
    generalize run T pr (.loop w_l_markLoadS_1) = R' at ih ⊢
    have hg : ∀ y : Ld, (L.set b (.cells (encL (P ++ y :: R)) true))[b]? = some (.cells (encL (P ++ y :: R)) true) := fun y => List.getElem?_set_self hb
    have hle : ∀ y : Ld, P.length * 2 + 1 ≤ (encL (P ++ y :: R)).length := by intro y; rw [encL_length]; simp; omega
    have hle' : ∀ y : Ld, P.length * 2 + 1 + 1 ≤ (encL (P ++ y :: R)).length := by intro y; rw [encL_length]; simp; omega
    have hle2 : ∀ y : Ld, P.length * 2 + 2 ≤ (encL (P ++ y :: R)).length := by intro y; rw [encL_length]; simp; omega
    rw [show k + 2 + R.length * 2 = k + (R.length + 1) * 2 by omega] at ih
    simp only [List.append_assoc, List.singleton_append, List.length_append, List.length_cons, List.length_nil, Nat.zero_add] at ih
    have hw1 : IntKind.i64.wrap ((k : Int) + 1) = ((k + 1 : Nat) : Int) := wrap_succ (show k < 9223372036854775807 by omega)
    have hw2 : IntKind.i64.wrap (((k + 1 : Nat) : Int) + 1) = ((k + 2 : Nat) : Int) := wrap_succ (show k + 1 < 9223372036854775807 by omega)
    simp +contextual only [w_l_markLoadS_1, hi, hg, hle, hle', hle2, setRange_midL0, setRange_midL1, List.set_set, markedL, hw1, hw2, wrap_succ (show P.length < 9223372036854775807 by omega), decide_true, go_sem, entry, joinEsc, if_pos, reduceIte, Nat.reduceAdd, Nat.reduceLeDiff, Nat.reduceLT, Nat.reduceEqDiff]
    exact ih

theorem e_l_markLoadS {L : List Blk} {b : Nat} {c : Option Nat} {ls : List Ld} (h : L[b]? = some (.cells (encL ls) true)) (hn : ls.length ≤ 4194304) (k : Nat) (hk : k ≤ 4194304) : call T pr f_l_markLoadS [slL b ls.length c, .int .i64 k] ⟨L, e⟩ =
    some (.int .i64 ((k + ls.length * 2 : Nat) : Int), ⟨L.set b (.cells (encL (markedL k ls.length)) true), e⟩) := by
  have hb := (List.getElem?_eq_some_iff.mp h).1
  obtain ⟨z4, hl⟩ := loop_l_markLoadS (pr := pr) (e := none) (c := c) (r := .int .i64 0) hb hn ls [] k .undef (by simp) (by omega)
  have h0 : ((0 : Nat) : Int) = 0 := rfl
  rw [List.length_nil, h0, List.nil_append, List.nil_append, set_same h] at hl
  rw [call_eq t_l_markLoadS]
  simp +contextual only [a_l_markLoadS, c_l_markLoadS, hl, finish_one_set, go_sem, entry, joinEsc, if_pos, reduceIte, Nat.reduceAdd, Nat.reduceLeDiff, Nat.reduceLT, Nat.reduceEqDiff]

end Go.Proofs.Ytlocjmbfcdfjfaa.Slim
