/- Tasks of a stand: what they make. -/
import Derived.Test.YtlocjmbfcdfjfaaSlimE39
import Derived.Test.YtlocjmbfcdfjfaaSlimDelE
namespace Go.Proofs.Ytlocjmbfcdfjfaa.Slim

open Go

set_option linter.unusedSimpArgs false

set_option linter.unusedVariables false

variable {pr : Prims} {H : List Blk} {e : Option Nat}

def sliceHiV (sz : Nat) (v h : AV) : Option AV := match v with
  | .slice p sz' n cap => (match natOf h with
    | some h => sliceVal sz p sz' n cap 0 h none
    | none => none)
  | _ => none

def sliceLoV (sz : Nat) (v l : AV) : Option AV := match v with
  | .slice p sz' n cap => (match natOf l with
    | some l => sliceVal sz p sz' n cap l n none
    | none => none)
  | _ => none

section

variable {C : FuncId → List AV → Mem → Option (AV × Mem)} {g : X → AV} {m : Mem}

theorem aop_sliceHi (sz : Nat) (x h : X) : aop C g m (.sliceSl sz x none (some h) none) = valOf m (sliceHiV sz (g x) (g h)) := by
  rw [aop_of_light rfl]
  simp only [light, sliceHiV, bound, optNat]
  generalize g x = v
  generalize natOf (g h) = o
  cases v <;> cases o <;> simp

theorem aop_sliceLo (sz : Nat) (x l : X) : aop C g m (.sliceSl sz x (some l) none none) = valOf m (sliceLoV sz (g x) (g l)) := by
  rw [aop_of_light rfl]
  simp only [light, sliceLoV, bound, optNat]
  generalize g x = v
  generalize natOf (g l) = o
  cases v <;> cases o <;> simp

end

theorem sliceHiV_at (sz b o n h : Nat) (cap : Option Nat) (hh : h ≤ n) : sliceHiV sz (.slice (some (b, o)) sz n cap) (.int .i64 h) = some (.slice (some (b, o)) sz h cap) := by
  unfold sliceHiV natOf sliceVal
  simp [hh]

theorem sliceLoV_at (sz b o n l : Nat) (hl : l ≤ n) : sliceLoV sz (.slice (some (b, o)) sz n none) (.int .i64 l) = some (.slice (some (b, o + l * sz)) sz (n - l) none) := by
  unfold sliceLoV natOf sliceVal
  simp [hl]

theorem encL_take : ∀ (ls : List Ld) (i : Nat), (encL ls).take (i * 2) = encL (ls.take i)
  | ls, 0 => by simp [encL]
  | [], i + 1 => by simp [encL]
  | l :: ls, i + 1 => by
    rw [show (i + 1) * 2 = i * 2 + 1 + 1 by omega]
    simp [encL, encL_take ls i]

theorem encL_drop : ∀ (ls : List Ld) (i : Nat), (encL ls).drop (i * 2) = encL (ls.drop i)
  | ls, 0 => by simp
  | [], i + 1 => by simp [encL]
  | l :: ls, i + 1 => by
    rw [show (i + 1) * 2 = i * 2 + 1 + 1 by omega]
    simp [encL, encL_drop ls i]

theorem encS_take : ∀ (ls : List Sg) (i : Nat), (encS ls).take (i * 3) = encS (ls.take i)
  | ls, 0 => by simp [encS]
  | [], i + 1 => by simp [encS]
  | l :: ls, i + 1 => by
    rw [show (i + 1) * 3 = i * 3 + 1 + 1 + 1 by omega]
    simp [encS, encS_take ls i]

theorem encS_drop : ∀ (ls : List Sg) (i : Nat), (encS ls).drop (i * 3) = encS (ls.drop i)
  | ls, 0 => by simp
  | [], i + 1 => by simp [encS]
  | l :: ls, i + 1 => by
    rw [show (i + 1) * 3 = i * 3 + 1 + 1 + 1 by omega]
    simp [encS, encS_drop ls i]

theorem encS_append : ∀ a b : List Sg, encS (a ++ b) = encS a ++ encS b
  | [], b => rfl
  | l :: a, b => by simp [encS, encS_append a b]

theorem encL_erase (ls : List Ld) (i : Nat) : (encL ls).take (i * 2) ++ (encL ls).drop ((i + 1) * 2) = encL (ls.eraseIdx i) := by
  rw [encL_take, encL_drop, List.eraseIdx_eq_take_drop_succ, encL_append]

theorem encS_erase (ls : List Sg) (i : Nat) : (encS ls).take (i * 3) ++ (encS ls).drop ((i + 1) * 3) = encS (ls.eraseIdx i) := by
  rw [encS_take, encS_drop, List.eraseIdx_eq_take_drop_succ, encS_append]

/-- an element taken out of a slice that has its block alone -/
theorem append_del {L : List Blk} {b n sz bytes i : Nat} {cs : List AV} (hb : L[b]? = some (.cells cs true)) (hcs : cs.length = n * sz) (hi : i < n) (hm : n * bytes ≤ maxBytes) :
    appendV L e false sz bytes (.slice (some (b, 0)) sz i none) (.slice (some (b, (i + 1) * sz)) sz (n - (i + 1)) none) = some (.slice (some (L.length, 0)) sz (n - 1) none, ⟨L.set b .dead ++ [.cells (cs.take (i * sz) ++ cs.drop ((i + 1) * sz)) true], e⟩) := by
  have e1 : (i + 1) * sz + (n - (i + 1)) * sz = n * sz := by rw [← Nat.add_mul]; congr 1; omega
  have e2 : (i + 1) * sz = i * sz + sz := by rw [Nat.add_mul, Nat.one_mul]
  have hs : srcCells false L (.slice (some (b, (i + 1) * sz)) sz (n - (i + 1)) none) = some (n - (i + 1), cs.drop ((i + 1) * sz)) := by
    unfold srcCells
    have hc : cellsAt L b = some cs := by unfold cellsAt; rw [hb]
    simp only [Bool.false_eq_true, if_false, hc]
    rw [if_pos (by omega), List.take_of_length_le (by rw [List.length_drop]; omega)]
  have e3 : i + (n - (i + 1)) = n - 1 := by omega
  unfold appendV
  simp only [hb, hs]
  rw [if_pos ⟨trivial, by rw [e3]; exact Nat.le_trans (Nat.mul_le_mul_right _ (by omega)) hm, by rw [List.length_drop]; omega, by omega⟩]
  rw [if_neg (by simp), if_pos trivial, e3, List.drop_zero]

/-- an element more on a slice that has its block alone -/
theorem append_gen {L : List Blk} {b q n sz bytes : Nat} {cs new : List AV} {c : Option Nat} (hb : L[b]? = some (.cells cs true)) (hq : cellsAt L q = some new) (hcs : cs.length = n * sz) (hnew : new.length = sz) (hm : (n + 1) * bytes ≤ maxBytes) :
    appendV L e false sz bytes (.slice (some (b, 0)) sz n none) (.slice (some (q, 0)) sz 1 c) = some (.slice (some (L.length, 0)) sz (n + 1) none, ⟨L.set b .dead ++ [.cells (cs ++ new) true], e⟩) := by
  have hs := srcCells_new L 1 sz c new q hq (by omega)
  unfold appendV
  simp only [hb, hs]
  rw [if_pos ⟨trivial, hm, by omega, by omega⟩, if_neg (by simp), if_pos trivial, List.drop_zero, ← hcs, List.take_length]

abbrev tkV (k x y z : Int) : AV := .agg [.int .i64 k, .int .i64 x, .int .i64 y, .int .i64 z]

/-- may a task be made? -/
def mayT (ls : List Ld) (ss : List Sg) (k x y z : Int) : Bool :=
  if k = 1 ∨ k = 4 then decide (z = 0)
  else if k = 2 then ((decide (0 ≤ x) && decide (x ≤ (ls.length : Int) - 1)) && decide (y = 0)) && decide (z = 0)
  else if k = 3 then (decide (0 ≤ x) && decide (x ≤ (ls.length : Int) - 1)) && decide (z = 0)
  else if k = 6 then ((decide (0 ≤ x) && decide (x ≤ (ss.length : Int) - 1)) && decide (y = 0)) && decide (z = 0)
  else decide (k = 5)

/-- what a task makes of a row and a chain -/
def rowT (ls : List Ld) (k x y : Int) : List Ld :=
  if k = 1 then ls ++ [(x, y)] else if k = 2 then ls.eraseIdx x.toNat else if k = 3 then movd ls x.toNat y else ls

def chainT (ss : List Sg) (k x y z : Int) : List Sg :=
  if k = 5 then ss ++ [(x, y, z)] else if k = 6 then ss.eraseIdx x.toNat else ss

def baseA (a k x : Int) : Int := if k = 4 then x else a

theorem e_s_l12May {p1 p2 : Option (Nat × Nat)} {s1 s2 : Nat} {c1 c2 : Option Nat} {ls : List Ld} {ss : List Sg} (hn : ls.length ≤ 1048576) (hm : ss.length ≤ 1048576) (a b t c k x y z : Int) :
    call T pr f_s_l12May [stV (.slice p1 s1 ls.length c1) a b (.slice p2 s2 ss.length c2) t c, tkV k x y z] ⟨H, e⟩ = some (.bool (mayT ls ss k x y z), ⟨H, e⟩) := by
  have hw1 : IntKind.i64.wrap ((ls.length : Int) - 1) = (ls.length : Int) - 1 := wrap64 (by omega) (by omega)
  have hw2 : IntKind.i64.wrap ((ss.length : Int) - 1) = (ss.length : Int) - 1 := wrap64 (by omega) (by omega)
  rw [call_eq t_s_l12May]
  unfold mayT
  by_cases h1 : k = 1
  · subst h1
    simp +contextual only [a_s_l12May, c_s_l12May, decide_true, true_or, go_sem, entry, joinEsc, if_pos, reduceIte, Nat.reduceAdd, Nat.reduceLeDiff, Nat.reduceLT, Nat.reduceEqDiff]
  by_cases h4 : k = 4
  · subst h4
    simp +contextual only [a_s_l12May, c_s_l12May, h1, decide_true, decide_false, or_true, go_sem, entry, joinEsc, if_pos, reduceIte, Nat.reduceAdd, Nat.reduceLeDiff, Nat.reduceLT, Nat.reduceEqDiff]
  by_cases h2 : k = 2
  · subst h2
    cases hb : (decide (0 ≤ x) && decide (x ≤ (ls.length : Int) - 1)) <;> cases hy : decide (y = 0) <;>
      simp +contextual only [a_s_l12May, c_s_l12May, e_s_l1In, hw1, hb, hy, h1, h4, decide_true, decide_false, or_self, go_sem, entry, joinEsc, if_pos, reduceIte, Nat.reduceAdd, Nat.reduceLeDiff, Nat.reduceLT, Nat.reduceEqDiff]
  by_cases h3 : k = 3
  · subst h3
    cases hb : (decide (0 ≤ x) && decide (x ≤ (ls.length : Int) - 1)) <;>
      simp +contextual only [a_s_l12May, c_s_l12May, e_s_l1In, hw1, hb, h1, h2, h4, decide_true, decide_false, or_self, go_sem, entry, joinEsc, if_pos, reduceIte, Nat.reduceAdd, Nat.reduceLeDiff, Nat.reduceLT, Nat.reduceEqDiff]
  by_cases h6 : k = 6
  · subst h6
    cases hb : (decide (0 ≤ x) && decide (x ≤ (ss.length : Int) - 1)) <;> cases hy : decide (y = 0) <;>
      simp +contextual only [a_s_l12May, c_s_l12May, e_s_l1In, hw2, hb, hy, h1, h2, h3, h4, decide_true, decide_false, or_self, go_sem, entry, joinEsc, if_pos, reduceIte, Nat.reduceAdd, Nat.reduceLeDiff, Nat.reduceLT, Nat.reduceEqDiff]
  simp +contextual only [a_s_l12May, c_s_l12May, h1, h2, h3, h4, h6, decide_false, or_self, go_sem, entry, joinEsc, if_pos, reduceIte, Nat.reduceAdd, Nat.reduceLeDiff, Nat.reduceLT, Nat.reduceEqDiff]

end Go.Proofs.Ytlocjmbfcdfjfaa.Slim
