/- Tasks of a stand: DoTask, told whole; the law. -/
import Derived.Test.YtlocjmbfcdfjfaaSlimE50
namespace Go.Proofs.Ytlocjmbfcdfjfaa.Slim

open Go

set_option linter.unusedSimpArgs false

set_option linter.unusedVariables false

variable {pr : Prims} {H : List Blk} {e : Option Nat}

theorem fin_no (B0 B1 X3 X4 B5 : Blk) (G : List Blk) (y0 y1 y2 y3 y6 : AV) (ys : List AV) (e1 : Option Nat) (hc : clean H.length e1 = true) :
    endCall a_i_DoTask ⟨H, e⟩ (some (Ex.ret, ⟨y0 :: y1 :: y2 :: y3 :: .ptr (some (H.length + 2, 0)) :: .bool false :: y6 :: ys, ⟨H ++ (B0 :: B1 :: .cells [.slice none 0 0 none, .int .i64 0, .int .i64 0, .slice none 0 0 none, .int .i64 0, .int .i64 0] true :: X3 :: X4 :: B5 :: G), e1⟩⟩)) = some (.tup [noStand, .bool false], ⟨H, e⟩) := by
  have hfN : ∀ (G : List Blk) (e0 e1 : Option Nat), clean H.length e1 = true → finish 2 H.length e0 (.tup [noStand, .bool false]) ⟨H ++ G, e1⟩ = some (.tup [noStand, .bool false], ⟨H, e0⟩) :=
    fun G e0 e1 hc => finish_standN 0 0 0 0 false e0 e1 hc
  simp +contextual only [a_i_DoTask, hfN, hc, go_sem, entry, joinEsc, if_pos, reduceIte, Nat.reduceAdd, Nat.reduceLeDiff, Nat.reduceLT, Nat.reduceEqDiff]

theorem fin_yes (B0 B1 X3 X4 B5 : Blk) (G : List Blk) (y0 y1 y2 y3 y6 : AV) (ys : List AV) (e1 : Option Nat) {j1 j2 n m : Nat} {a b t c : Int} {ls : List Ld} {ss : List Sg} (hc : clean H.length e1 = true) (hn : ls.length = n) (hm : ss.length = m) (hj : j1 ≠ j2)
    (h1 : ∀ B2, (B0 :: B1 :: B2 :: X3 :: X4 :: B5 :: G)[j1]? = some (.cells (encL ls) true)) (h2 : ∀ B2, (B0 :: B1 :: B2 :: X3 :: X4 :: B5 :: G)[j2]? = some (.cells (encS ss) true)) :
    endCall a_i_DoTask ⟨H, e⟩ (some (Ex.ret, ⟨y0 :: y1 :: y2 :: y3 :: .ptr (some (H.length + 2, 0)) :: .bool true :: y6 :: ys, ⟨H ++ (B0 :: B1 :: .cells [slL (H.length + j1) n none, .int .i64 a, .int .i64 b, slS (H.length + j2) m none, .int .i64 t, .int .i64 c] true :: X3 :: X4 :: B5 :: G), e1⟩⟩)) =
      some (.tup [stV (slL H.length n none) a b (slS (H.length + 1) m none) t c, .bool true], ⟨H ++ [.cells (encL ls) true, .cells (encS ss) true], e⟩) := by
  have hf : ∀ (B2 : Blk), finish 2 H.length e (.tup [stV (slL (H.length + j1) n none) a b (slS (H.length + j2) m none) t c, .bool true]) ⟨H ++ (B0 :: B1 :: B2 :: X3 :: X4 :: B5 :: G), e1⟩ =
      some (.tup [stV (slL H.length n none) a b (slS (H.length + 1) m none) t c, .bool true], ⟨H ++ [.cells (encL ls) true, .cells (encS ss) true], e⟩) :=
    fun B2 => finish_standB a b t c true e e1 hc (h1 B2) (h2 B2) hj (under_encL _ _) (under_encS _ _)
  simp +contextual only [a_i_DoTask, hf, go_sem, entry, joinEsc, if_pos, reduceIte, Nat.reduceAdd, Nat.reduceLeDiff, Nat.reduceLT, Nat.reduceEqDiff]

theorem DoTask_r1 {q1 q2 : Nat} {c1 c2 : Option Nat} {ls : List Ld} {ss : List Sg} {a b t c : Int} (h1 : cellsAt H q1 = some (encL ls)) (h2 : cellsAt H q2 = some (encS ss)) (hn : ls.length ≤ 1048575) (hm : ss.length ≤ 1048575) (x y z : Int) (hv : stOk ls ss a b t c = true) :
    call T pr f_i_DoTask [stV (slL q1 ls.length c1) a b (slS q2 ss.length c2) t c, tkV 1 x y z] ⟨H, e⟩ =
      doRes H e (doOk ls ss a b t c 1 x y z) (rowT ls 1 x y) (chainT ss 1 x y z) (baseA a 1 x) (baseA b 1 y) (tipsT ls a b t 1 x y) (wr (c + 1)) := by
  rw [DoTask_1 h1 h2 hn hm 1 x y z hv, DoTask_2 hn hm 1 x y z]
  unfold doRes doOk tipsT wr
  have er : rowT ls 1 x y = ls ++ [(x, y)] := by simp [rowT]
  have ec : chainT ss 1 x y z = ss := by simp [chainT]
  have ea : ∀ a x, baseA a 1 x = a := fun a x => by simp [baseA]
  rw [mayT_1, er, ec, ea, ea]
  have hrl : (ls ++ [(x, y)]).length = ls.length + 1 := by simp
  have hcl : ss.length = ss.length := rfl
  rw [DoTask_k1 hn hm x y z]
  cases hz : decide (z = 0) with
  | false =>
    rw [Bool.false_and]
    rw [tail_no (B0 := .cells [slL q1 ls.length c1, .int .i64 a, .int .i64 b, slS q2 ss.length c2, .int .i64 t, .int .i64 c] true) (B1 := .cells [.int .i64 1, .int .i64 x, .int .i64 y, .int .i64 z] true) (X3 := .dead) (X4 := (.cells (encS ss) true)) (G := [.cells [.int .i64 x, .int .i64 y] true, .cells (encL (ls ++ [(x, y)])) true]) (n := ls.length + 1) (m := ss.length) (ls := ls ++ [(x, y)]) (ss := ss) (a := a) (b := b) (t := t) (c := c) (j1 := 7) (j2 := 4) hrl hcl (by omega) (by omega) (fun _ _ => rfl) (fun _ _ => rfl) rfl]
    rw [fin_no _ _ _ _ _ _ _ _ _ _ _ _ _ (by first | rfl | simp [clean, minEsc])]
    rw [if_neg (by simp)]
  | true =>
    rw [Bool.true_and]
    cases hg : stOk (ls ++ [(x, y)]) (ss) a b t (IntKind.i64.wrap (c + 1)) with
    | false =>
      rw [tail_no (B0 := .cells [slL q1 ls.length c1, .int .i64 a, .int .i64 b, slS q2 ss.length c2, .int .i64 t, .int .i64 c] true) (B1 := .cells [.int .i64 1, .int .i64 x, .int .i64 y, .int .i64 z] true) (X3 := .dead) (X4 := (.cells (encS ss) true)) (G := [.cells [.int .i64 x, .int .i64 y] true, .cells (encL (ls ++ [(x, y)])) true]) (n := ls.length + 1) (m := ss.length) (ls := ls ++ [(x, y)]) (ss := ss) (a := a) (b := b) (t := t) (c := c) (j1 := 7) (j2 := 4) hrl hcl (by omega) (by omega) (fun _ _ => rfl) (fun _ _ => rfl) (by rw [hg, Bool.and_false])]
      rw [fin_no _ _ _ _ _ _ _ _ _ _ _ _ _ (by first | rfl | simp [clean, minEsc])]
      rw [if_neg (by simp)]
    | true =>
      rw [tail_yes (B0 := .cells [slL q1 ls.length c1, .int .i64 a, .int .i64 b, slS q2 ss.length c2, .int .i64 t, .int .i64 c] true) (B1 := .cells [.int .i64 1, .int .i64 x, .int .i64 y, .int .i64 z] true) (X3 := .dead) (X4 := (.cells (encS ss) true)) (G := [.cells [.int .i64 x, .int .i64 y] true, .cells (encL (ls ++ [(x, y)])) true]) (n := ls.length + 1) (m := ss.length) (ls := ls ++ [(x, y)]) (ss := ss) (a := a) (b := b) (t := t) (c := c) (j1 := 7) (j2 := 4) hrl hcl (by omega) (by omega) (fun _ _ => rfl) (fun _ _ => rfl) (by omega) hg]
      rw [fin_yes _ _ _ _ _ _ _ _ _ _ _ _ _ (by simp [clean, minEsc]) hrl hcl (by decide) (fun _ => rfl) (fun _ => rfl), hrl, hcl]
      rfl

theorem DoTask_r2 (hp : HasDelete pr) {q1 q2 : Nat} {c1 c2 : Option Nat} {ls : List Ld} {ss : List Sg} {a b t c : Int} (h1 : cellsAt H q1 = some (encL ls)) (h2 : cellsAt H q2 = some (encS ss)) (hn : ls.length ≤ 1048575) (hm : ss.length ≤ 1048575) (x y z : Int) (hv : stOk ls ss a b t c = true) :
    call T pr f_i_DoTask [stV (slL q1 ls.length c1) a b (slS q2 ss.length c2) t c, tkV 2 x y z] ⟨H, e⟩ =
      doRes H e (doOk ls ss a b t c 2 x y z) (rowT ls 2 x y) (chainT ss 2 x y z) (baseA a 2 x) (baseA b 2 y) (tipsT ls a b t 2 x y) (wr (c + 1)) := by
  rw [DoTask_1 h1 h2 hn hm 2 x y z hv, DoTask_2 hn hm 2 x y z]
  unfold doRes doOk tipsT wr
  have er : rowT ls 2 x y = ls.eraseIdx x.toNat := by simp [rowT]
  have ec : chainT ss 2 x y z = ss := by simp [chainT]
  have ea : ∀ a x, baseA a 2 x = a := fun a x => by simp [baseA]
  rw [mayT_2, er, ec, ea, ea]
  cases hb : (decide (0 ≤ x) && decide (x ≤ (ls.length : Int) - 1)) with
  | false =>
    have hrl : ls.length = ls.length := rfl
    have hcl : ss.length = ss.length := rfl
    rw [DoTask_k2n (isL := false) hn hm x y z, Bool.false_and, Bool.false_and, Bool.false_and]
    rw [tail_no (B0 := .cells [slL q1 ls.length c1, .int .i64 a, .int .i64 b, slS q2 ss.length c2, .int .i64 t, .int .i64 c] true) (B1 := .cells [.int .i64 2, .int .i64 x, .int .i64 y, .int .i64 z] true) (X3 := (.cells (encL ls) true)) (X4 := (.cells (encS ss) true)) (G := []) (n := ls.length) (m := ss.length) (ls := ls) (ss := ss) (a := a) (b := b) (t := t) (c := c) (j1 := 3) (j2 := 4) hrl hcl (by omega) (by omega) (fun _ _ => rfl) (fun _ _ => rfl) rfl]
    rw [fin_no _ _ _ _ _ _ _ _ _ _ _ _ _ (by first | rfl | simp [clean, minEsc])]
    rw [if_neg (by simp)]
  | true =>
    have hbb : 0 ≤ x ∧ x ≤ (ls.length : Int) - 1 := by simpa using hb
    obtain ⟨i, rfl⟩ : ∃ i : Nat, x = i := ⟨x.toNat, by omega⟩
    have hi : i < ls.length := by omega
    have hrl : (ls.eraseIdx i).length = ls.length - 1 := by rw [List.length_eraseIdx, if_pos hi]
    have hcl : ss.length = ss.length := rfl
    rw [DoTask_k2 hp (isL := false) hn hm hi y z, Int.toNat_natCast, Bool.true_and]
    cases hz : (decide (y = 0) && decide (z = 0)) with
    | false =>
      rw [Bool.false_and]
      rw [tail_no (B0 := .cells [slL q1 ls.length c1, .int .i64 a, .int .i64 b, slS q2 ss.length c2, .int .i64 t, .int .i64 c] true) (B1 := .cells [.int .i64 2, .int .i64 i, .int .i64 y, .int .i64 z] true) (X3 := .dead) (X4 := (.cells (encS ss) true)) (G := [.dead, .cells (encL (ls.eraseIdx i)) true]) (n := ls.length - 1) (m := ss.length) (ls := ls.eraseIdx i) (ss := ss) (a := a) (b := b) (t := t) (c := c) (j1 := 7) (j2 := 4) hrl hcl (by omega) (by omega) (fun _ _ => rfl) (fun _ _ => rfl) rfl]
      rw [fin_no _ _ _ _ _ _ _ _ _ _ _ _ _ (by first | rfl | simp [clean, minEsc])]
      rw [if_neg (by simp)]
    | true =>
      rw [Bool.true_and]
      cases hg : stOk (ls.eraseIdx i) (ss) a b t (IntKind.i64.wrap (c + 1)) with
      | false =>
        rw [tail_no (B0 := .cells [slL q1 ls.length c1, .int .i64 a, .int .i64 b, slS q2 ss.length c2, .int .i64 t, .int .i64 c] true) (B1 := .cells [.int .i64 2, .int .i64 i, .int .i64 y, .int .i64 z] true) (X3 := .dead) (X4 := (.cells (encS ss) true)) (G := [.dead, .cells (encL (ls.eraseIdx i)) true]) (n := ls.length - 1) (m := ss.length) (ls := ls.eraseIdx i) (ss := ss) (a := a) (b := b) (t := t) (c := c) (j1 := 7) (j2 := 4) hrl hcl (by omega) (by omega) (fun _ _ => rfl) (fun _ _ => rfl) (by rw [hg, Bool.and_false])]
        rw [fin_no _ _ _ _ _ _ _ _ _ _ _ _ _ (by first | rfl | simp [clean, minEsc])]
        rw [if_neg (by simp)]
      | true =>
        rw [tail_yes (B0 := .cells [slL q1 ls.length c1, .int .i64 a, .int .i64 b, slS q2 ss.length c2, .int .i64 t, .int .i64 c] true) (B1 := .cells [.int .i64 2, .int .i64 i, .int .i64 y, .int .i64 z] true) (X3 := .dead) (X4 := (.cells (encS ss) true)) (G := [.dead, .cells (encL (ls.eraseIdx i)) true]) (n := ls.length - 1) (m := ss.length) (ls := ls.eraseIdx i) (ss := ss) (a := a) (b := b) (t := t) (c := c) (j1 := 7) (j2 := 4) hrl hcl (by omega) (by omega) (fun _ _ => rfl) (fun _ _ => rfl) (by omega) hg]
        rw [fin_yes _ _ _ _ _ _ _ _ _ _ _ _ _ (by simp [clean, minEsc]) hrl hcl (by decide) (fun _ => rfl) (fun _ => rfl), hrl, hcl]
        rfl

theorem DoTask_r3 {q1 q2 : Nat} {c1 c2 : Option Nat} {ls : List Ld} {ss : List Sg} {a b t c : Int} (h1 : cellsAt H q1 = some (encL ls)) (h2 : cellsAt H q2 = some (encS ss)) (hn : ls.length ≤ 1048575) (hm : ss.length ≤ 1048575) (x y z : Int) (hv : stOk ls ss a b t c = true) :
    call T pr f_i_DoTask [stV (slL q1 ls.length c1) a b (slS q2 ss.length c2) t c, tkV 3 x y z] ⟨H, e⟩ =
      doRes H e (doOk ls ss a b t c 3 x y z) (rowT ls 3 x y) (chainT ss 3 x y z) (baseA a 3 x) (baseA b 3 y) (tipsT ls a b t 3 x y) (wr (c + 1)) := by
  rw [DoTask_1 h1 h2 hn hm 3 x y z hv, DoTask_2 hn hm 3 x y z]
  unfold doRes doOk tipsT wr
  have er : rowT ls 3 x y = movd ls x.toNat y := by simp [rowT]
  have ec : chainT ss 3 x y z = ss := by simp [chainT]
  have ea : ∀ a x, baseA a 3 x = a := fun a x => by simp [baseA]
  rw [mayT_3, er, ec, ea, ea]
  cases hb : (decide (0 ≤ x) && decide (x ≤ (ls.length : Int) - 1)) with
  | false =>
    have hrl : ls.length = ls.length := rfl
    have hcl : ss.length = ss.length := rfl
    rw [DoTask_k3n (isL := false) hn hm x y z, Bool.false_and, Bool.false_and]
    rw [tail_no (B0 := .cells [slL q1 ls.length c1, .int .i64 a, .int .i64 b, slS q2 ss.length c2, .int .i64 t, .int .i64 c] true) (B1 := .cells [.int .i64 3, .int .i64 x, .int .i64 y, .int .i64 z] true) (X3 := (.cells (encL ls) true)) (X4 := (.cells (encS ss) true)) (G := []) (n := ls.length) (m := ss.length) (ls := ls) (ss := ss) (a := a) (b := b) (t := t) (c := c) (j1 := 3) (j2 := 4) hrl hcl (by omega) (by omega) (fun _ _ => rfl) (fun _ _ => rfl) rfl]
    rw [fin_no _ _ _ _ _ _ _ _ _ _ _ _ _ (by first | rfl | simp [clean, minEsc])]
    rw [if_neg (by simp)]
  | true =>
    have hbb : 0 ≤ x ∧ x ≤ (ls.length : Int) - 1 := by simpa using hb
    obtain ⟨i, rfl⟩ : ∃ i : Nat, x = i := ⟨x.toNat, by omega⟩
    have hi : i < ls.length := by omega
    have hrl : (movd ls i y).length = ls.length := movd_length ls i y
    have hcl : ss.length = ss.length := rfl
    rw [DoTask_k3 (isL := false) hn hm hi y z, Int.toNat_natCast, Bool.true_and]
    cases hz : decide (z = 0) with
    | false =>
      rw [Bool.false_and]
      rw [tail_no (B0 := .cells [slL q1 ls.length c1, .int .i64 a, .int .i64 b, slS q2 ss.length c2, .int .i64 t, .int .i64 c] true) (B1 := .cells [.int .i64 3, .int .i64 i, .int .i64 y, .int .i64 z] true) (X3 := (.cells (encL (movd ls i y)) true)) (X4 := (.cells (encS ss) true)) (G := []) (n := ls.length) (m := ss.length) (ls := movd ls i y) (ss := ss) (a := a) (b := b) (t := t) (c := c) (j1 := 3) (j2 := 4) hrl hcl (by omega) (by omega) (fun _ _ => rfl) (fun _ _ => rfl) rfl]
      rw [fin_no _ _ _ _ _ _ _ _ _ _ _ _ _ (by first | rfl | simp [clean, minEsc])]
      rw [if_neg (by simp)]
    | true =>
      rw [Bool.true_and]
      cases hg : stOk (movd ls i y) (ss) a b t (IntKind.i64.wrap (c + 1)) with
      | false =>
        rw [tail_no (B0 := .cells [slL q1 ls.length c1, .int .i64 a, .int .i64 b, slS q2 ss.length c2, .int .i64 t, .int .i64 c] true) (B1 := .cells [.int .i64 3, .int .i64 i, .int .i64 y, .int .i64 z] true) (X3 := (.cells (encL (movd ls i y)) true)) (X4 := (.cells (encS ss) true)) (G := []) (n := ls.length) (m := ss.length) (ls := movd ls i y) (ss := ss) (a := a) (b := b) (t := t) (c := c) (j1 := 3) (j2 := 4) hrl hcl (by omega) (by omega) (fun _ _ => rfl) (fun _ _ => rfl) (by rw [hg, Bool.and_false])]
        rw [fin_no _ _ _ _ _ _ _ _ _ _ _ _ _ (by first | rfl | simp [clean, minEsc])]
        rw [if_neg (by simp)]
      | true =>
        rw [tail_yes (B0 := .cells [slL q1 ls.length c1, .int .i64 a, .int .i64 b, slS q2 ss.length c2, .int .i64 t, .int .i64 c] true) (B1 := .cells [.int .i64 3, .int .i64 i, .int .i64 y, .int .i64 z] true) (X3 := (.cells (encL (movd ls i y)) true)) (X4 := (.cells (encS ss) true)) (G := []) (n := ls.length) (m := ss.length) (ls := movd ls i y) (ss := ss) (a := a) (b := b) (t := t) (c := c) (j1 := 3) (j2 := 4) hrl hcl (by omega) (by omega) (fun _ _ => rfl) (fun _ _ => rfl) (by omega) hg]
        rw [fin_yes _ _ _ _ _ _ _ _ _ _ _ _ _ (by simp [clean, minEsc]) hrl hcl (by decide) (fun _ => rfl) (fun _ => rfl), hrl, hcl]
        rfl

theorem DoTask_r4 {q1 q2 : Nat} {c1 c2 : Option Nat} {ls : List Ld} {ss : List Sg} {a b t c : Int} (h1 : cellsAt H q1 = some (encL ls)) (h2 : cellsAt H q2 = some (encS ss)) (hn : ls.length ≤ 1048575) (hm : ss.length ≤ 1048575) (x y z : Int) (hv : stOk ls ss a b t c = true) :
    call T pr f_i_DoTask [stV (slL q1 ls.length c1) a b (slS q2 ss.length c2) t c, tkV 4 x y z] ⟨H, e⟩ =
      doRes H e (doOk ls ss a b t c 4 x y z) (rowT ls 4 x y) (chainT ss 4 x y z) (baseA a 4 x) (baseA b 4 y) (tipsT ls a b t 4 x y) (wr (c + 1)) := by
  rw [DoTask_1 h1 h2 hn hm 4 x y z hv, DoTask_2 hn hm 4 x y z]
  unfold doRes doOk tipsT wr
  have er : rowT ls 4 x y = ls := by simp [rowT]
  have ec : chainT ss 4 x y z = ss := by simp [chainT]
  have ea : ∀ a x, baseA a 4 x = x := fun a x => by simp [baseA]
  rw [mayT_4, er, ec, ea, ea]
  have hrl : ls.length = ls.length := rfl
  have hcl : ss.length = ss.length := rfl
  rw [DoTask_k4 hn hm x y z]
  cases hz : decide (z = 0) with
  | false =>
    rw [Bool.false_and]
    rw [tail_no (B0 := .cells [slL q1 ls.length c1, .int .i64 a, .int .i64 b, slS q2 ss.length c2, .int .i64 t, .int .i64 c] true) (B1 := .cells [.int .i64 4, .int .i64 x, .int .i64 y, .int .i64 z] true) (X3 := (.cells (encL ls) true)) (X4 := (.cells (encS ss) true)) (G := []) (n := ls.length) (m := ss.length) (ls := ls) (ss := ss) (a := x) (b := y) (t := t) (c := c) (j1 := 3) (j2 := 4) hrl hcl (by omega) (by omega) (fun _ _ => rfl) (fun _ _ => rfl) rfl]
    rw [fin_no _ _ _ _ _ _ _ _ _ _ _ _ _ (by first | rfl | simp [clean, minEsc])]
    rw [if_neg (by simp)]
  | true =>
    rw [Bool.true_and]
    cases hg : stOk (ls) (ss) x y t (IntKind.i64.wrap (c + 1)) with
    | false =>
      rw [tail_no (B0 := .cells [slL q1 ls.length c1, .int .i64 a, .int .i64 b, slS q2 ss.length c2, .int .i64 t, .int .i64 c] true) (B1 := .cells [.int .i64 4, .int .i64 x, .int .i64 y, .int .i64 z] true) (X3 := (.cells (encL ls) true)) (X4 := (.cells (encS ss) true)) (G := []) (n := ls.length) (m := ss.length) (ls := ls) (ss := ss) (a := x) (b := y) (t := t) (c := c) (j1 := 3) (j2 := 4) hrl hcl (by omega) (by omega) (fun _ _ => rfl) (fun _ _ => rfl) (by rw [hg, Bool.and_false])]
      rw [fin_no _ _ _ _ _ _ _ _ _ _ _ _ _ (by first | rfl | simp [clean, minEsc])]
      rw [if_neg (by simp)]
    | true =>
      rw [tail_yes (B0 := .cells [slL q1 ls.length c1, .int .i64 a, .int .i64 b, slS q2 ss.length c2, .int .i64 t, .int .i64 c] true) (B1 := .cells [.int .i64 4, .int .i64 x, .int .i64 y, .int .i64 z] true) (X3 := (.cells (encL ls) true)) (X4 := (.cells (encS ss) true)) (G := []) (n := ls.length) (m := ss.length) (ls := ls) (ss := ss) (a := x) (b := y) (t := t) (c := c) (j1 := 3) (j2 := 4) hrl hcl (by omega) (by omega) (fun _ _ => rfl) (fun _ _ => rfl) (by omega) hg]
      rw [fin_yes _ _ _ _ _ _ _ _ _ _ _ _ _ (by simp [clean, minEsc]) hrl hcl (by decide) (fun _ => rfl) (fun _ => rfl), hrl, hcl]
      rfl

theorem DoTask_r5 {q1 q2 : Nat} {c1 c2 : Option Nat} {ls : List Ld} {ss : List Sg} {a b t c : Int} (h1 : cellsAt H q1 = some (encL ls)) (h2 : cellsAt H q2 = some (encS ss)) (hn : ls.length ≤ 1048575) (hm : ss.length ≤ 1048575) (x y z : Int) (hv : stOk ls ss a b t c = true) :
    call T pr f_i_DoTask [stV (slL q1 ls.length c1) a b (slS q2 ss.length c2) t c, tkV 5 x y z] ⟨H, e⟩ =
      doRes H e (doOk ls ss a b t c 5 x y z) (rowT ls 5 x y) (chainT ss 5 x y z) (baseA a 5 x) (baseA b 5 y) (tipsT ls a b t 5 x y) (wr (c + 1)) := by
  rw [DoTask_1 h1 h2 hn hm 5 x y z hv, DoTask_2 hn hm 5 x y z]
  unfold doRes doOk tipsT wr
  have er : rowT ls 5 x y = ls := by simp [rowT]
  have ec : chainT ss 5 x y z = ss ++ [(x, y, z)] := by simp [chainT]
  have ea : ∀ a x, baseA a 5 x = a := fun a x => by simp [baseA]
  rw [mayT_5, er, ec, ea, ea]
  have hrl : ls.length = ls.length := rfl
  have hcl : (ss ++ [(x, y, z)]).length = ss.length + 1 := by simp
  rw [DoTask_k5 hn hm x y z, Bool.true_and]
  cases hg : stOk (ls) (ss ++ [(x, y, z)]) a b t (IntKind.i64.wrap (c + 1)) with
  | false =>
    rw [tail_no (B0 := .cells [slL q1 ls.length c1, .int .i64 a, .int .i64 b, slS q2 ss.length c2, .int .i64 t, .int .i64 c] true) (B1 := .cells [.int .i64 5, .int .i64 x, .int .i64 y, .int .i64 z] true) (X3 := (.cells (encL ls) true)) (X4 := .dead) (G := [.cells [.int .i64 x, .int .i64 y, .int .i64 z] true, .cells (encS (ss ++ [(x, y, z)])) true]) (n := ls.length) (m := ss.length + 1) (ls := ls) (ss := ss ++ [(x, y, z)]) (a := a) (b := b) (t := t) (c := c) (j1 := 3) (j2 := 7) hrl hcl (by omega) (by omega) (fun _ _ => rfl) (fun _ _ => rfl) (by rw [hg, Bool.and_false])]
    rw [fin_no _ _ _ _ _ _ _ _ _ _ _ _ _ (by first | rfl | simp [clean, minEsc])]
    rw [if_neg (by simp)]
  | true =>
    rw [tail_yes (B0 := .cells [slL q1 ls.length c1, .int .i64 a, .int .i64 b, slS q2 ss.length c2, .int .i64 t, .int .i64 c] true) (B1 := .cells [.int .i64 5, .int .i64 x, .int .i64 y, .int .i64 z] true) (X3 := (.cells (encL ls) true)) (X4 := .dead) (G := [.cells [.int .i64 x, .int .i64 y, .int .i64 z] true, .cells (encS (ss ++ [(x, y, z)])) true]) (n := ls.length) (m := ss.length + 1) (ls := ls) (ss := ss ++ [(x, y, z)]) (a := a) (b := b) (t := t) (c := c) (j1 := 3) (j2 := 7) hrl hcl (by omega) (by omega) (fun _ _ => rfl) (fun _ _ => rfl) (by omega) hg]
    rw [fin_yes _ _ _ _ _ _ _ _ _ _ _ _ _ (by simp [clean, minEsc]) hrl hcl (by decide) (fun _ => rfl) (fun _ => rfl), hrl, hcl]
    rfl

theorem DoTask_r6 (hp : HasDelete pr) {q1 q2 : Nat} {c1 c2 : Option Nat} {ls : List Ld} {ss : List Sg} {a b t c : Int} (h1 : cellsAt H q1 = some (encL ls)) (h2 : cellsAt H q2 = some (encS ss)) (hn : ls.length ≤ 1048575) (hm : ss.length ≤ 1048575) (x y z : Int) (hv : stOk ls ss a b t c = true) :
    call T pr f_i_DoTask [stV (slL q1 ls.length c1) a b (slS q2 ss.length c2) t c, tkV 6 x y z] ⟨H, e⟩ =
      doRes H e (doOk ls ss a b t c 6 x y z) (rowT ls 6 x y) (chainT ss 6 x y z) (baseA a 6 x) (baseA b 6 y) (tipsT ls a b t 6 x y) (wr (c + 1)) := by
  rw [DoTask_1 h1 h2 hn hm 6 x y z hv, DoTask_2 hn hm 6 x y z]
  unfold doRes doOk tipsT wr
  have er : rowT ls 6 x y = ls := by simp [rowT]
  have ec : chainT ss 6 x y z = ss.eraseIdx x.toNat := by simp [chainT]
  have ea : ∀ a x, baseA a 6 x = a := fun a x => by simp [baseA]
  rw [mayT_6, er, ec, ea, ea]
  cases hb : (decide (0 ≤ x) && decide (x ≤ (ss.length : Int) - 1)) with
  | false =>
    have hrl : ls.length = ls.length := rfl
    have hcl : ss.length = ss.length := rfl
    rw [DoTask_k6n (isS := false) hn hm x y z, Bool.false_and, Bool.false_and, Bool.false_and]
    rw [tail_no (B0 := .cells [slL q1 ls.length c1, .int .i64 a, .int .i64 b, slS q2 ss.length c2, .int .i64 t, .int .i64 c] true) (B1 := .cells [.int .i64 6, .int .i64 x, .int .i64 y, .int .i64 z] true) (X3 := (.cells (encL ls) true)) (X4 := (.cells (encS ss) true)) (G := []) (n := ls.length) (m := ss.length) (ls := ls) (ss := ss) (a := a) (b := b) (t := t) (c := c) (j1 := 3) (j2 := 4) hrl hcl (by omega) (by omega) (fun _ _ => rfl) (fun _ _ => rfl) rfl]
    rw [fin_no _ _ _ _ _ _ _ _ _ _ _ _ _ (by first | rfl | simp [clean, minEsc])]
    rw [if_neg (by simp)]
  | true =>
    have hbb : 0 ≤ x ∧ x ≤ (ss.length : Int) - 1 := by simpa using hb
    obtain ⟨i, rfl⟩ : ∃ i : Nat, x = i := ⟨x.toNat, by omega⟩
    have hi : i < ss.length := by omega
    have hrl : ls.length = ls.length := rfl
    have hcl : (ss.eraseIdx i).length = ss.length - 1 := by rw [List.length_eraseIdx, if_pos hi]
    rw [DoTask_k6 hp (isS := false) hn hm hi y z, Int.toNat_natCast, Bool.true_and]
    cases hz : (decide (y = 0) && decide (z = 0)) with
    | false =>
      rw [Bool.false_and]
      rw [tail_no (B0 := .cells [slL q1 ls.length c1, .int .i64 a, .int .i64 b, slS q2 ss.length c2, .int .i64 t, .int .i64 c] true) (B1 := .cells [.int .i64 6, .int .i64 i, .int .i64 y, .int .i64 z] true) (X3 := (.cells (encL ls) true)) (X4 := .dead) (G := [.dead, .cells (encS (ss.eraseIdx i)) true]) (n := ls.length) (m := ss.length - 1) (ls := ls) (ss := ss.eraseIdx i) (a := a) (b := b) (t := t) (c := c) (j1 := 3) (j2 := 7) hrl hcl (by omega) (by omega) (fun _ _ => rfl) (fun _ _ => rfl) rfl]
      rw [fin_no _ _ _ _ _ _ _ _ _ _ _ _ _ (by first | rfl | simp [clean, minEsc])]
      rw [if_neg (by simp)]
    | true =>
      rw [Bool.true_and]
      cases hg : stOk (ls) (ss.eraseIdx i) a b t (IntKind.i64.wrap (c + 1)) with
      | false =>
        rw [tail_no (B0 := .cells [slL q1 ls.length c1, .int .i64 a, .int .i64 b, slS q2 ss.length c2, .int .i64 t, .int .i64 c] true) (B1 := .cells [.int .i64 6, .int .i64 i, .int .i64 y, .int .i64 z] true) (X3 := (.cells (encL ls) true)) (X4 := .dead) (G := [.dead, .cells (encS (ss.eraseIdx i)) true]) (n := ls.length) (m := ss.length - 1) (ls := ls) (ss := ss.eraseIdx i) (a := a) (b := b) (t := t) (c := c) (j1 := 3) (j2 := 7) hrl hcl (by omega) (by omega) (fun _ _ => rfl) (fun _ _ => rfl) (by rw [hg, Bool.and_false])]
        rw [fin_no _ _ _ _ _ _ _ _ _ _ _ _ _ (by first | rfl | simp [clean, minEsc])]
        rw [if_neg (by simp)]
      | true =>
        rw [tail_yes (B0 := .cells [slL q1 ls.length c1, .int .i64 a, .int .i64 b, slS q2 ss.length c2, .int .i64 t, .int .i64 c] true) (B1 := .cells [.int .i64 6, .int .i64 i, .int .i64 y, .int .i64 z] true) (X3 := (.cells (encL ls) true)) (X4 := .dead) (G := [.dead, .cells (encS (ss.eraseIdx i)) true]) (n := ls.length) (m := ss.length - 1) (ls := ls) (ss := ss.eraseIdx i) (a := a) (b := b) (t := t) (c := c) (j1 := 3) (j2 := 7) hrl hcl (by omega) (by omega) (fun _ _ => rfl) (fun _ _ => rfl) (by omega) hg]
        rw [fin_yes _ _ _ _ _ _ _ _ _ _ _ _ _ (by simp [clean, minEsc]) hrl hcl (by decide) (fun _ => rfl) (fun _ => rfl), hrl, hcl]
        rfl

theorem DoTask_re {q1 q2 : Nat} {c1 c2 : Option Nat} {ls : List Ld} {ss : List Sg} {a b t c : Int} (h1 : cellsAt H q1 = some (encL ls)) (h2 : cellsAt H q2 = some (encS ss)) (hn : ls.length ≤ 1048575) (hm : ss.length ≤ 1048575) (k x y z : Int) (hv : stOk ls ss a b t c = true) (k1 : ¬ k = 1) (k2 : ¬ k = 2) (k3 : ¬ k = 3) (k4 : ¬ k = 4) (k5 : ¬ k = 5) (k6 : ¬ k = 6) :
    call T pr f_i_DoTask [stV (slL q1 ls.length c1) a b (slS q2 ss.length c2) t c, tkV k x y z] ⟨H, e⟩ =
      doRes H e (doOk ls ss a b t c k x y z) (rowT ls k x y) (chainT ss k x y z) (baseA a k x) (baseA b k y) (tipsT ls a b t k x y) (wr (c + 1)) := by
  rw [DoTask_1 h1 h2 hn hm k x y z hv, DoTask_2 hn hm k x y z]
  unfold doRes doOk tipsT wr
  have em : mayT ls ss k x y z = false := by simp [mayT, k1, k2, k3, k4, k5, k6]
  rw [em, Bool.false_and, DoTask_ke k x y z k1 k2 k3 k4 k5 k6]
  have hrl : ls.length = ls.length := rfl
  have hcl : ss.length = ss.length := rfl
  rw [tail_no (B0 := .cells [slL q1 ls.length c1, .int .i64 a, .int .i64 b, slS q2 ss.length c2, .int .i64 t, .int .i64 c] true) (B1 := .cells [.int .i64 k, .int .i64 x, .int .i64 y, .int .i64 z] true) (X3 := (.cells (encL ls) true)) (X4 := (.cells (encS ss) true)) (G := []) (n := ls.length) (m := ss.length) (ls := ls) (ss := ss) (a := a) (b := b) (t := t) (c := c) (j1 := 3) (j2 := 4) hrl hcl (by omega) (by omega) (fun _ _ => rfl) (fun _ _ => rfl) rfl]
  rw [fin_no _ _ _ _ _ _ _ _ _ _ _ _ _ (by first | rfl | simp [clean, minEsc])]
  rw [if_neg (by simp)]

theorem e_i_DoTask (hp : HasDelete pr) {q1 q2 : Nat} {c1 c2 : Option Nat} {ls : List Ld} {ss : List Sg} {a b t c : Int} (h1 : cellsAt H q1 = some (encL ls)) (h2 : cellsAt H q2 = some (encS ss)) (hn : ls.length ≤ 1048575) (hm : ss.length ≤ 1048575) (k x y z : Int) (hv : stOk ls ss a b t c = true) :
    call T pr f_i_DoTask [stV (slL q1 ls.length c1) a b (slS q2 ss.length c2) t c, tkV k x y z] ⟨H, e⟩ =
      doRes H e (doOk ls ss a b t c k x y z) (rowT ls k x y) (chainT ss k x y z) (baseA a k x) (baseA b k y) (tipsT ls a b t k x y) (wr (c + 1)) := by
  by_cases k1 : k = 1
  · subst k1; exact DoTask_r1 h1 h2 hn hm x y z hv
  by_cases k2 : k = 2
  · subst k2; exact DoTask_r2 hp h1 h2 hn hm x y z hv
  by_cases k3 : k = 3
  · subst k3; exact DoTask_r3 h1 h2 hn hm x y z hv
  by_cases k4 : k = 4
  · subst k4; exact DoTask_r4 h1 h2 hn hm x y z hv
  by_cases k5 : k = 5
  · subst k5; exact DoTask_r5 h1 h2 hn hm x y z hv
  by_cases k6 : k = 6
  · subst k6; exact DoTask_r6 hp h1 h2 hn hm x y z hv
  exact DoTask_re h1 h2 hn hm k x y z hv k1 k2 k3 k4 k5 k6

end Go.Proofs.Ytlocjmbfcdfjfaa.Slim
