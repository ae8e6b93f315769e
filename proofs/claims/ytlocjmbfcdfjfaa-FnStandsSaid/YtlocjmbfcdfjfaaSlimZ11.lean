/- Texts, and records of a log. -/
import Derived.Test.YtlocjmbfcdfjfaaSlimZ10
import Derived.Lib.Bytealg
/- Texts, and records of a log. -/
namespace Go.Proofs.Ytlocjmbfcdfjfaa.Slim

open Go

set_option linter.unusedSimpArgs false

set_option linter.unusedVariables false

variable {pr : Prims} {H : List Blk} {e : Option Nat}

/-- a byte that a record may have -/
def okB (b : UInt8) : Bool := !((decide ((b.toNat : Int) < 32) || decide (126 < (b.toNat : Int))) || decide ((b.toNat : Int) = 35))

def textOk (s : ByteArray) : Bool := s.data.toList.all okB

/-- does a text have this byte? -/
def hasB (s : ByteArray) (c : Int) : Bool := s.data.toList.any fun b => decide ((b.toNat : Int) = c)

theorem str_get {s : ByteArray} {i : Nat} (h : i < s.data.toList.length) : s[i]? = some s.data.toList[i] := by
  have h1 : i < s.size := h
  rw [getElem?_pos s i h1]
  rfl

theorem str_len (s : ByteArray) : s.data.toList.length = s.size := rfl

theorem u8_lt (b : UInt8) : b.toNat < 256 := b.toNat_lt

theorem index_has (l : List UInt8) (c : UInt8) : decide (0 ≤ Lib.indexByte l c) = l.any fun b => decide ((b.toNat : Int) = (c.toNat : Int)) := by
  induction l with
  | nil => rfl
  | cons b l ih =>
    have hge := Lib.indexByte_ge l c
    rw [List.any_cons, Lib.indexByte]
    by_cases h : b = c
    · subst h
      simp
    · have h1 : (b == c) = false := by simpa using h
      have h2 : ¬ (b.toNat : Int) = (c.toNat : Int) := fun e => h (UInt8.toNat_inj.mp (by omega))
      rw [h1, decide_eq_false h2, Bool.false_or, ← ih]
      by_cases h3 : Lib.indexByte l c = -1
      · simp [h3]
      · have h4 : (Lib.indexByte l c == -1) = false := by simpa using h3
        rw [h4]
        simp only [Bool.false_eq_true, if_false]
        exact decide_eq_decide.mpr (by omega)

abbrev rcV (s t : ByteArray) : AV := .agg [.str s, .str t]

def recOk (s t : ByteArray) : Bool := ((decide ((1 : Int) ≤ (s.size : Int)) && decide ((s.size : Int) ≤ 160)) && decide ((t.size : Int) ≤ 250)) && (textOk s && (textOk t && !hasB s 64))

theorem str_none (s : ByteArray) : (!decide (s = ⟨#[]⟩)) = decide ((1 : Int) ≤ (s.size : Int)) := by
  have h : s = ⟨#[]⟩ ↔ s.size = 0 := by
    constructor
    · rintro rfl; rfl
    · intro h
      have h1 : s.data.size = 0 := h
      have h2 : s.data = #[] := Array.eq_empty_of_size_eq_zero h1
      cases s
      simp at h2
      rw [h2]
  rw [← decide_not]
  exact decide_eq_decide.mpr (by rw [h]; omega)

end Go.Proofs.Ytlocjmbfcdfjfaa.Slim

/- People at other places. -/
namespace Go.Proofs.Ytlocjmbfcdfjfaa.Slim

open Go

set_option linter.unusedSimpArgs false

set_option linter.unusedVariables false

variable {pr : Prims} {H : List Blk} {e : Option Nat}

/-- people at other places -/
def putL : List Ld → List Int → List Ld
  | [], _ => []
  | l :: ls, ss => (ss.headD 0, l.2) :: putL ls ss.tail

theorem putL_length : ∀ (ls : List Ld) (ss : List Int), (putL ls ss).length = ls.length
  | [], _ => rfl
  | l :: ls, ss => by simp [putL, putL_length ls]

theorem drop_head (ss : List Int) (i : Nat) (h : i < ss.length) : ss[i]? = some ((ss.drop i).headD 0) ∧ (ss.drop i).tail = ss.drop (i + 1) := by
  rw [List.drop_eq_getElem_cons h]
  exact ⟨List.getElem?_eq_getElem h, rfl⟩

theorem cellsAt_set_ne {L : List Blk} {b u : Nat} {x : Blk} {cs : List AV} (h : cellsAt L u = some cs) (hne : b ≠ u) : cellsAt (L.set b x) u = some cs := by
  unfold cellsAt at *
  rw [List.getElem?_set_ne hne]
  exact h

theorem cellsAt_get {L : List Blk} {j : Nat} {cs : List AV} {w : Bool} (h : L[j]? = some (.cells cs w)) : cellsAt L j = some cs := by
  unfold cellsAt
  rw [h]

abbrev spV (s0 s1 s2 : Int) : AV := .agg [.int .i64 s0, .int .i64 s1, .int .i64 s2]

/-- the digits of a number, the last one first -/
def digs (m : Nat) : Nat → Nat → List Nat
  | 0, _ => []
  | n + 1, k => k % m :: digs m n (k / m)

theorem digs_length (m : Nat) : ∀ n k, (digs m n k).length = n
  | 0, _ => rfl
  | n + 1, k => by simp [digs, digs_length m n]

def ints (l : List Nat) : List Int := l.map fun (i : Nat) => (i : Int)

theorem tmodN (k m : Nat) : Int.tmod (k : Int) (m : Int) = ((k % m : Nat) : Int) := rfl

theorem tdivN (k m : Nat) : Int.tdiv (k : Int) (m : Int) = ((k / m : Nat) : Int) := rfl

theorem putL_app : ∀ (P : List Ld) (Q : List Ld) (ss ts : List Int), P.length = ss.length → putL (P ++ Q) (ss ++ ts) = putL P ss ++ putL Q ts
  | [], Q, [], ts, _ => rfl
  | p :: P, Q, s :: ss, ts, h => by simp [putL, putL_app P Q ss ts (by simpa using h)]

end Go.Proofs.Ytlocjmbfcdfjfaa.Slim

/- The safe moves of a party. -/
namespace Go.Proofs.Ytlocjmbfcdfjfaa.Slim

open Go

set_option linter.unusedSimpArgs false

set_option linter.unusedVariables false

variable {pr : Prims} {H : List Blk} {e : Option Nat}

/-- one person at another place -/
def movd : List Ld → Nat → Int → List Ld
  | [], _, _ => []
  | l :: ls, 0, p => (p, l.2) :: ls
  | l :: ls, i + 1, p => l :: movd ls i p

theorem movd_length : ∀ (ls : List Ld) (i : Nat) (p : Int), (movd ls i p).length = ls.length
  | [], _, _ => rfl
  | l :: ls, 0, p => rfl
  | l :: ls, i + 1, p => by simp [movd, movd_length ls i p]

theorem movd_split {ls : List Ld} {i : Nat} (p : Int) (hi : i < ls.length) : ∃ P l R, ls = P ++ l :: R ∧ P.length = i ∧ ls[i]? = some l ∧ movd ls i p = P ++ (p, l.2) :: R := by
  induction ls generalizing i with
  | nil => simp at hi
  | cons l ls ih =>
    cases i with
    | zero => exact ⟨[], l, ls, rfl, rfl, rfl, rfl⟩
    | succ i =>
      obtain ⟨P, l', R, h1, h2, h3, h4⟩ := ih (by simpa using hi)
      exact ⟨l :: P, l', R, by rw [h1]; rfl, by simp [h2], by simpa using h3, by rw [movd, h4]; rfl⟩

theorem putL_set : ∀ (ls : List Ld) (ss : List Int) (i : Nat) (p : Int), i < ls.length → ls.length ≤ ss.length → putL ls (ss.set i p) = movd (putL ls ss) i p
  | [], ss, i, p, hi, hl => by simp at hi
  | l :: ls, [], i, p, hi, hl => by simp at hl
  | l :: ls, s :: ss, 0, p, hi, hl => rfl
  | l :: ls, s :: ss, i + 1, p, hi, hl => by
    have := putL_set ls ss i p (by simpa using hi) (by simpa using hl)
    simp [putL, movd, this]

theorem setRange_movd {ls : List Ld} {i : Nat} (p : Int) (hi : i < ls.length) : setRange (encL ls) (i * 2) [.int .i64 p] = encL (movd ls i p) := by
  obtain ⟨P, l, R, h1, h2, _, h4⟩ := movd_split p hi
  rw [h4, h1, ← h2]
  exact setRange_midL0 P R l p

/-- is it a place on the plank, and do they rest there? -/
def okMv (x a b : Int) (ls : List Ld) (i : Nat) (p : Int) : Bool := (decide (0 ≤ p) && decide (p ≤ x)) && decide (sideW (movd ls i p) a b = 0)

def plOf (ls : List Ld) (i : Nat) : Int := (ls[i]?.getD (0, 0)).1

/-- is a move safe? -/
def safeMv (x a b : Int) (ls : List Ld) (s i p : Int) : Bool := ((decide (0 ≤ i) && decide (i ≤ (ls.length : Int) - 1)) && (decide (0 ≤ p) && decide (p ≤ x))) && ((decide (wr (p - plOf ls i.toNat) = s) || decide (wr (p - plOf ls i.toNat) = wr (0 - s))) && decide (sideW (movd ls i.toNat p) a b = 0))

theorem at02 : ((0 : Int) ≤ 0 ∧ (0 : Int) < ((2 : Nat) : Int)) = True := by simp

theorem at12 : ((0 : Int) ≤ 1 ∧ (1 : Int) < ((2 : Nat) : Int)) = True := by simp

theorem toNat0 : Int.toNat 0 = 0 := rfl

theorem toNat1 : Int.toNat 1 = 1 := rfl

theorem append_ld2 {G : List Blk} {B : Blk} {j : Nat} {o : List Ld} {cap : Option Nat} (hG : G[j]? = some (.cells (encL o) true)) (hcap : cap = some 0 → o = []) (hmb : (o.length + 1) * 16 ≤ maxBytes) (a b : Int) :
    appendV (H ++ (G ++ [B, .cells [.int .i64 a, .int .i64 b] true])) e false 2 16 (slL (H.length + j) o.length cap) (.slice (some (H.length + (G.length + 1), 0)) 2 1 (some 1)) =
      some (slL (H.length + (G.length + 2)) (o.length + 1) none, ⟨H ++ (killIf cap j (G ++ [B, .cells [.int .i64 a, .int .i64 b] true]) ++ [.cells (encL o ++ [.int .i64 a, .int .i64 b]) true]), e⟩) := by
  have hj : j < G.length := (List.getElem?_eq_some_iff.mp hG).1
  have h := append_ld (H := H) (e := e) (G := G ++ [B]) (j := j) (o := o) (cap := cap) (by rw [List.getElem?_append_left hj]; exact hG) hcap hmb a b
  simpa [Nat.add_assoc] using h

/-- the safe ones of some moves of one person -/
def selM (x a b : Int) (ls : List Ld) (i : Nat) (ps : List Int) : List Ld := (ps.filter (okMv x a b ls i)).map fun p => ((i : Int), p)

theorem selM_cons (x a b : Int) (ls : List Ld) (i : Nat) (p : Int) (ps : List Int) : selM x a b ls i (p :: ps) = if okMv x a b ls i p = true then ((i : Int), p) :: selM x a b ls i ps else selM x a b ls i ps := by
  unfold selM
  cases h : okMv x a b ls i p <;> simp [h]

theorem set3 {s0 s1 s2 p : Int} {i : Nat} (hi : i < 3) : ∃ t0 t1 t2, [s0, s1, s2].set i p = [t0, t1, t2] ∧ setRange [.int .i64 s0, .int .i64 s1, .int .i64 s2] i [.int .i64 p] = [.int .i64 t0, .int .i64 t1, .int .i64 t2] := by
  match i, hi with
  | 0, _ => exact ⟨p, s1, s2, rfl, rfl⟩
  | 1, _ => exact ⟨s0, p, s2, rfl, rfl⟩
  | 2, _ => exact ⟨s0, s1, p, rfl, rfl⟩

/-- all safe moves -/
def mvsFrom (x a b s : Int) (ls : List Ld) : Nat → Nat → List Ld
  | 0, _ => []
  | k + 1, i => selM x a b ls i [wr (plOf ls i - s), wr (plOf ls i + s)] ++ mvsFrom x a b s ls k (i + 1)

theorem selM_le (x a b : Int) (ls : List Ld) (i : Nat) (ps : List Int) : (selM x a b ls i ps).length ≤ ps.length := by
  unfold selM
  rw [List.length_map]
  exact List.length_filter_le _ _

theorem plOf_putL : ∀ (ls : List Ld) (ss : List Int) (i : Nat) (p : Int), i < ls.length → ss[i]? = some p → plOf (putL ls ss) i = p
  | [], ss, i, p, hi, hp => by simp at hi
  | l :: ls, [], i, p, hi, hp => by simp at hp
  | l :: ls, s :: ss, 0, p, hi, hp => by simp at hp; subst hp; rfl
  | l :: ls, s :: ss, i + 1, p, hi, hp => plOf_putL ls ss i p (by simpa using hi) (by simpa using hp)

/-- how a party's places are bounded -/
def plB (ls : List Ld) : Prop := ∀ i, i < ls.length → 0 ≤ plOf ls i ∧ plOf ls i ≤ 60

theorem safe_ok {x a b s : Int} {ls : List Ld} {i : Nat} (hi : i < ls.length) (hpl : plB ls) (hs : 1 ≤ s ∧ s ≤ 4) {p : Int} (hp : p = wr (plOf ls i - s) ∨ p = wr (plOf ls i + s)) : safeMv x a b ls s i p = okMv x a b ls i p := by
  obtain ⟨h1, h2⟩ := hpl i hi
  have w1 : wr (plOf ls i - s) = plOf ls i - s := wrap64 (by omega) (by omega)
  have w2 : wr (plOf ls i + s) = plOf ls i + s := wrap64 (by omega) (by omega)
  have w3 : wr (0 - s) = - s := by show IntKind.i64.wrap (0 - s) = - s; rw [wrap64 (by omega) (by omega)]; omega
  have w4 : wr (p - plOf ls i) = p - plOf ls i := wrap64 (by omega) (by omega)
  have hr : (decide (0 ≤ (i : Int)) && decide ((i : Int) ≤ (ls.length : Int) - 1)) = true := by simp; omega
  unfold safeMv okMv
  rw [hr, Int.toNat_natCast, w3, w4, Bool.true_and]
  have : (decide (p - plOf ls i = s) || decide (p - plOf ls i = -s)) = true := by
    rw [w1, w2] at hp
    simp
    omega
  rw [this, Bool.true_and]

end Go.Proofs.Ytlocjmbfcdfjfaa.Slim

/- Tasks of a stand: what they make. -/
namespace Go.Proofs.Ytlocjmbfcdfjfaa.Slim

open Go

set_option linter.unusedSimpArgs false

set_option linter.unusedVariables false

variable {pr : Prims} {H : List Blk} {e : Option Nat}

def sliceHiV (sz : Nat) (v h : AV) : Option AV := match v with
  | .slice p sz' n cap => (match natOf h with
    | some h => sliceVal sz p sz' n cap 0 h none
    | none => none)
  | _ => none

def sliceLoV (sz : Nat) (v l : AV) : Option AV := match v with
  | .slice p sz' n cap => (match natOf l with
    | some l => sliceVal sz p sz' n cap l n none
    | none => none)
  | _ => none

section

variable {C : FuncId → List AV → Mem → Option (AV × Mem)} {g : X → AV} {m : Mem}

theorem aop_sliceHi (sz : Nat) (x h : X) : aop C g m (.sliceSl sz x none (some h) none) = valOf m (sliceHiV sz (g x) (g h)) := by
  rw [aop_of_light rfl]
  simp only [light, sliceHiV, bound, optNat]
  generalize g x = v
  generalize natOf (g h) = o
  cases v <;> cases o <;> simp

theorem aop_sliceLo (sz : Nat) (x l : X) : aop C g m (.sliceSl sz x (some l) none none) = valOf m (sliceLoV sz (g x) (g l)) := by
  rw [aop_of_light rfl]
  simp only [light, sliceLoV, bound, optNat]
  generalize g x = v
  generalize natOf (g l) = o
  cases v <;> cases o <;> simp

end

theorem sliceHiV_at (sz b o n h : Nat) (cap : Option Nat) (hh : h ≤ n) : sliceHiV sz (.slice (some (b, o)) sz n cap) (.int .i64 h) = some (.slice (some (b, o)) sz h cap) := by
  unfold sliceHiV natOf sliceVal
  simp [hh]

theorem sliceLoV_at (sz b o n l : Nat) (hl : l ≤ n) : sliceLoV sz (.slice (some (b, o)) sz n none) (.int .i64 l) = some (.slice (some (b, o + l * sz)) sz (n - l) none) := by
  unfold sliceLoV natOf sliceVal
  simp [hl]

theorem encL_take : ∀ (ls : List Ld) (i : Nat), (encL ls).take (i * 2) = encL (ls.take i)
  | ls, 0 => by simp [encL]
  | [], i + 1 => by simp [encL]
  | l :: ls, i + 1 => by
    rw [show (i + 1) * 2 = i * 2 + 1 + 1 by omega]
    simp [encL, encL_take ls i]

theorem encL_drop : ∀ (ls : List Ld) (i : Nat), (encL ls).drop (i * 2) = encL (ls.drop i)
  | ls, 0 => by simp
  | [], i + 1 => by simp [encL]
  | l :: ls, i + 1 => by
    rw [show (i + 1) * 2 = i * 2 + 1 + 1 by omega]
    simp [encL, encL_drop ls i]

theorem encS_take : ∀ (ls : List Sg) (i : Nat), (encS ls).take (i * 3) = encS (ls.take i)
  | ls, 0 => by simp [encS]
  | [], i + 1 => by simp [encS]
  | l :: ls, i + 1 => by
    rw [show (i + 1) * 3 = i * 3 + 1 + 1 + 1 by omega]
    simp [encS, encS_take ls i]

theorem encS_drop : ∀ (ls : List Sg) (i : Nat), (encS ls).drop (i * 3) = encS (ls.drop i)
  | ls, 0 => by simp
  | [], i + 1 => by simp [encS]
  | l :: ls, i + 1 => by
    rw [show (i + 1) * 3 = i * 3 + 1 + 1 + 1 by omega]
    simp [encS, encS_drop ls i]

theorem encS_append : ∀ a b : List Sg, encS (a ++ b) = encS a ++ encS b
  | [], b => rfl
  | l :: a, b => by simp [encS, encS_append a b]

theorem encL_erase (ls : List Ld) (i : Nat) : (encL ls).take (i * 2) ++ (encL ls).drop ((i + 1) * 2) = encL (ls.eraseIdx i) := by
  rw [encL_take, encL_drop, List.eraseIdx_eq_take_drop_succ, encL_append]

theorem encS_erase (ls : List Sg) (i : Nat) : (encS ls).take (i * 3) ++ (encS ls).drop ((i + 1) * 3) = encS (ls.eraseIdx i) := by
  rw [encS_take, encS_drop, List.eraseIdx_eq_take_drop_succ, encS_append]

/-- an element taken out of a slice that has its block alone -/
theorem append_del {L : List Blk} {b n sz bytes i : Nat} {cs : List AV} (hb : L[b]? = some (.cells cs true)) (hcs : cs.length = n * sz) (hi : i < n) (hm : n * bytes ≤ maxBytes) :
    appendV L e false sz bytes (.slice (some (b, 0)) sz i none) (.slice (some (b, (i + 1) * sz)) sz (n - (i + 1)) none) = some (.slice (some (L.length, 0)) sz (n - 1) none, ⟨L.set b .dead ++ [.cells (cs.take (i * sz) ++ cs.drop ((i + 1) * sz)) true], e⟩) := by
  have e1 : (i + 1) * sz + (n - (i + 1)) * sz = n * sz := by rw [← Nat.add_mul]; congr 1; omega
  have e2 : (i + 1) * sz = i * sz + sz := by rw [Nat.add_mul, Nat.one_mul]
  have hs : srcCells false L (.slice (some (b, (i + 1) * sz)) sz (n - (i + 1)) none) = some (n - (i + 1), cs.drop ((i + 1) * sz)) := by
    unfold srcCells
    have hc : cellsAt L b = some cs := by unfold cellsAt; rw [hb]
    simp only [Bool.false_eq_true, if_false, hc]
    rw [if_pos (by omega), List.take_of_length_le (by rw [List.length_drop]; omega)]
  have e3 : i + (n - (i + 1)) = n - 1 := by omega
  unfold appendV
  simp only [hb, hs]
  rw [if_pos ⟨trivial, by rw [e3]; exact Nat.le_trans (Nat.mul_le_mul_right _ (by omega)) hm, by rw [List.length_drop]; omega, by omega⟩]
  rw [if_neg (by simp), if_pos trivial, e3, List.drop_zero]

/-- an element more on a slice that has its block alone -/
theorem append_gen {L : List Blk} {b q n sz bytes : Nat} {cs new : List AV} {c : Option Nat} (hb : L[b]? = some (.cells cs true)) (hq : cellsAt L q = some new) (hcs : cs.length = n * sz) (hnew : new.length = sz) (hm : (n + 1) * bytes ≤ maxBytes) :
    appendV L e false sz bytes (.slice (some (b, 0)) sz n none) (.slice (some (q, 0)) sz 1 c) = some (.slice (some (L.length, 0)) sz (n + 1) none, ⟨L.set b .dead ++ [.cells (cs ++ new) true], e⟩) := by
  have hs := srcCells_new L 1 sz c new q hq (by omega)
  unfold appendV
  simp only [hb, hs]
  rw [if_pos ⟨trivial, hm, by omega, by omega⟩, if_neg (by simp), if_pos trivial, List.drop_zero, ← hcs, List.take_length]

abbrev tkV (k x y z : Int) : AV := .agg [.int .i64 k, .int .i64 x, .int .i64 y, .int .i64 z]

/-- may a task be made? -/
def mayT (ls : List Ld) (ss : List Sg) (k x y z : Int) : Bool :=
  if k = 1 ∨ k = 4 then decide (z = 0)
  else if k = 2 then ((decide (0 ≤ x) && decide (x ≤ (ls.length : Int) - 1)) && decide (y = 0)) && decide (z = 0)
  else if k = 3 then (decide (0 ≤ x) && decide (x ≤ (ls.length : Int) - 1)) && decide (z = 0)
  else if k = 6 then ((decide (0 ≤ x) && decide (x ≤ (ss.length : Int) - 1)) && decide (y = 0)) && decide (z = 0)
  else decide (k = 5)

/-- what a task makes of a row and a chain -/
def rowT (ls : List Ld) (k x y : Int) : List Ld :=
  if k = 1 then ls ++ [(x, y)] else if k = 2 then ls.eraseIdx x.toNat else if k = 3 then movd ls x.toNat y else ls

def chainT (ss : List Sg) (k x y z : Int) : List Sg :=
  if k = 5 then ss ++ [(x, y, z)] else if k = 6 then ss.eraseIdx x.toNat else ss

def baseA (a k x : Int) : Int := if k = 4 then x else a

theorem e_s_l12May {p1 p2 : Option (Nat × Nat)} {s1 s2 : Nat} {c1 c2 : Option Nat} {ls : List Ld} {ss : List Sg} (hn : ls.length ≤ 1048576) (hm : ss.length ≤ 1048576) (a b t c k x y z : Int) :
    call T pr f_s_l12May [stV (.slice p1 s1 ls.length c1) a b (.slice p2 s2 ss.length c2) t c, tkV k x y z] ⟨H, e⟩ = some (.bool (mayT ls ss k x y z), ⟨H, e⟩) := by
  have hw1 : IntKind.i64.wrap ((ls.length : Int) - 1) = (ls.length : Int) - 1 := wrap64 (by omega) (by omega)
  have hw2 : IntKind.i64.wrap ((ss.length : Int) - 1) = (ss.length : Int) - 1 := wrap64 (by omega) (by omega)
  rw [call_eq t_s_l12May]
  unfold mayT
  by_cases h1 : k = 1
  · subst h1
    simp +contextual only [a_s_l12May, c_s_l12May, decide_true, true_or, go_sem, entry, joinEsc, if_pos, reduceIte, Nat.reduceAdd, Nat.reduceLeDiff, Nat.reduceLT, Nat.reduceEqDiff]
  by_cases h4 : k = 4
  · subst h4
    simp +contextual only [a_s_l12May, c_s_l12May, h1, decide_true, decide_false, or_true, go_sem, entry, joinEsc, if_pos, reduceIte, Nat.reduceAdd, Nat.reduceLeDiff, Nat.reduceLT, Nat.reduceEqDiff]
  by_cases h2 : k = 2
  · subst h2
    cases hb : (decide (0 ≤ x) && decide (x ≤ (ls.length : Int) - 1)) <;> cases hy : decide (y = 0) <;>
      simp +contextual only [a_s_l12May, c_s_l12May, e_s_l1In, hw1, hb, hy, h1, h4, decide_true, decide_false, or_self, go_sem, entry, joinEsc, if_pos, reduceIte, Nat.reduceAdd, Nat.reduceLeDiff, Nat.reduceLT, Nat.reduceEqDiff]
  by_cases h3 : k = 3
  · subst h3
    cases hb : (decide (0 ≤ x) && decide (x ≤ (ls.length : Int) - 1)) <;>
      simp +contextual only [a_s_l12May, c_s_l12May, e_s_l1In, hw1, hb, h1, h2, h4, decide_true, decide_false, or_self, go_sem, entry, joinEsc, if_pos, reduceIte, Nat.reduceAdd, Nat.reduceLeDiff, Nat.reduceLT, Nat.reduceEqDiff]
  by_cases h6 : k = 6
  · subst h6
    cases hb : (decide (0 ≤ x) && decide (x ≤ (ss.length : Int) - 1)) <;> cases hy : decide (y = 0) <;>
      simp +contextual only [a_s_l12May, c_s_l12May, e_s_l1In, hw2, hb, hy, h1, h2, h3, h4, decide_true, decide_false, or_self, go_sem, entry, joinEsc, if_pos, reduceIte, Nat.reduceAdd, Nat.reduceLeDiff, Nat.reduceLT, Nat.reduceEqDiff]
  simp +contextual only [a_s_l12May, c_s_l12May, h1, h2, h3, h4, h6, decide_false, or_self, go_sem, entry, joinEsc, if_pos, reduceIte, Nat.reduceAdd, Nat.reduceLeDiff, Nat.reduceLT, Nat.reduceEqDiff]

end Go.Proofs.Ytlocjmbfcdfjfaa.Slim

/- Tasks of a stand: the functions. -/
namespace Go.Proofs.Ytlocjmbfcdfjfaa.Slim

open Go

set_option linter.unusedSimpArgs false

set_option linter.unusedVariables false

variable {pr : Prims} {H : List Blk} {e : Option Nat}

theorem e_s_l12Make {q1 q2 : Nat} {c1 c2 : Option Nat} {ls : List Ld} {ss : List Sg} (h1 : cellsAt H q1 = some (encL ls)) (h2 : cellsAt H q2 = some (encS ss)) (hn : ls.length ≤ 1048575) (hm : ss.length ≤ 1048575) (a b t c k x y z : Int) (hk : mayT ls ss k x y z = true) :
    call T pr f_s_l12Make [stV (slL q1 ls.length c1) a b (slS q2 ss.length c2) t c, tkV k x y z] ⟨H, e⟩ =
      some (stV (slL H.length (rowT ls k x y).length none) (baseA a k x) (baseA b k y) (slS (H.length + 1) (chainT ss k x y z).length none) t c, ⟨H ++ [.cells (encL (rowT ls k x y)) true, .cells (encS (chainT ss k x y z)) true], e⟩) := by
  have hown := fun G => e_s_l12Own (pr := pr) (e := none) (c1 := c1) (c2 := c2) (cells_mono h1 G) (cells_mono h2 G) (by omega) (by omega) a b t c
  rw [call_eq t_s_l12Make]
  unfold mayT at hk
  unfold rowT chainT baseA
  by_cases k1 : k = 1
  · subst k1
    have happ := fun L b q c e' (hb : L[b]? = some (.cells (encL ls) true)) hq => append_gen (e := e') (L := L) (b := b) (q := q) (n := ls.length) (sz := 2) (bytes := 16) (c := c) (cs := encL ls) (new := [.int .i64 x, .int .i64 y]) hb hq (encL_length ls) rfl (by unfold maxBytes; omega)
    have hap2 : encL ls ++ [AV.int .i64 x, .int .i64 y] = encL (ls ++ [(x, y)]) := by rw [encL_append]; rfl
    have hf : ∀ (B0 B1 B2 B3 B5 B6 : Blk) (e0 e1 : Option Nat), clean H.length e1 = true → finish 2 H.length e0 (stV (slL (H.length + 7) (ls.length + 1) none) a b (slS (H.length + 4) ss.length none) t c) ⟨H ++ [B0, B1, B2, B3, .cells (encS ss) true, B5, B6, .cells (encL (ls ++ [(x, y)])) true], e1⟩ =
        some (stV (slL H.length (ls.length + 1) none) a b (slS (H.length + 1) ss.length none) t c, ⟨H ++ [.cells (encL (ls ++ [(x, y)])) true, .cells (encS ss) true], e0⟩) :=
      fun B0 B1 B2 B3 B5 B6 e0 e1 hc => finish_stand a b t c e0 e1 hc rfl rfl (by decide) (under_encL _ _) (under_encS _ _)
    simp +contextual only [a_s_l12Make, c_s_l12Make, fillParts, hown, happ, hap2, hf, under_slice, Nat.add_assoc, Nat.add_lt_add_iff_left, Nat.lt_irrefl, decide_true, decide_false, clean_minEsc, clean_none, Nat.le_add_right, Nat.le_refl, Int.reduceEq, go_sem, entry, joinEsc, if_pos, reduceIte, Nat.reduceAdd, Nat.reduceLeDiff, Nat.reduceLT, Nat.reduceEqDiff]
  by_cases k2 : k = 2
  · subst k2
    simp only [show ¬ ((2 : Int) = 1) by omega, show ¬ ((2 : Int) = 4) by omega, or_self, if_false, if_true, Bool.and_eq_true, decide_eq_true_eq] at hk
    obtain ⟨i, rfl⟩ : ∃ i : Nat, x = i := ⟨x.toNat, by omega⟩
    have hi : i < ls.length := by omega
    have hi1 : i ≤ ls.length := by omega
    have hi2 : i + 1 ≤ ls.length := by omega
    have happ := fun L b e' (hb : L[b]? = some (.cells (encL ls) true)) => append_del (e := e') (L := L) (b := b) (n := ls.length) (sz := 2) (bytes := 16) (i := i) (cs := encL ls) hb (encL_length ls) hi (by unfold maxBytes; omega)
    have hel : (ls.eraseIdx i).length = ls.length - 1 := by rw [List.length_eraseIdx, if_pos hi]
    have hf : ∀ (B0 B1 B2 B3 B5 : Blk) (e0 e1 : Option Nat), clean H.length e1 = true → finish 2 H.length e0 (stV (slL (H.length + 6) (ls.length - 1) none) a b (slS (H.length + 4) ss.length none) t c) ⟨H ++ [B0, B1, B2, B3, .cells (encS ss) true, B5, .cells (encL (ls.eraseIdx i)) true], e1⟩ =
        some (stV (slL H.length (ls.length - 1) none) a b (slS (H.length + 1) ss.length none) t c, ⟨H ++ [.cells (encL (ls.eraseIdx i)) true, .cells (encS ss) true], e0⟩) :=
      fun B0 B1 B2 B3 B5 e0 e1 hc => finish_stand a b t c e0 e1 hc rfl rfl (by decide) (under_encL _ _) (under_encS _ _)
    simp +contextual only [a_s_l12Make, c_s_l12Make, fillParts, aop_sliceHi, aop_sliceLo, sliceHiV_at, sliceLoV_at, hi1, hi2, hown, happ, encL_erase, hel, hf, wrap_succ (show i < 9223372036854775807 by omega), under_slice, Nat.add_assoc, Nat.add_lt_add_iff_left, Nat.lt_irrefl, decide_true, decide_false, clean_minEsc, clean_none, Nat.le_add_right, Nat.le_refl, Int.reduceEq, go_sem, entry, joinEsc, if_pos, reduceIte, Nat.reduceAdd, Nat.reduceLeDiff, Nat.reduceLT, Nat.reduceEqDiff]
  by_cases k3 : k = 3
  · subst k3
    simp only [show ¬ ((3 : Int) = 1) by omega, show ¬ ((3 : Int) = 2) by omega, show ¬ ((3 : Int) = 4) by omega, or_self, if_false, if_true, Bool.and_eq_true, decide_eq_true_eq] at hk
    obtain ⟨i, rfl⟩ : ∃ i : Nat, x = i := ⟨x.toNat, by omega⟩
    have hi : i < ls.length := by omega
    have hle : i * 2 + 1 ≤ (encL ls).length := by rw [encL_length]; omega
    have hle2 : i * 2 + 2 ≤ (encL ls).length := by rw [encL_length]; omega
    have hf : ∀ (B0 B1 B2 B5 : Blk) (e0 e1 : Option Nat), clean H.length e1 = true → finish 2 H.length e0 (stV (slL (H.length + 3) ls.length none) a b (slS (H.length + 4) ss.length none) t c) ⟨H ++ [B0, B1, B2, .cells (encL (movd ls i y)) true, .cells (encS ss) true, B5], e1⟩ =
        some (stV (slL H.length ls.length none) a b (slS (H.length + 1) ss.length none) t c, ⟨H ++ [.cells (encL (movd ls i y)) true, .cells (encS ss) true], e0⟩) :=
      fun B0 B1 B2 B5 e0 e1 hc => finish_stand a b t c e0 e1 hc rfl rfl (by decide) (under_encL _ _) (under_encS _ _)
    simp +contextual only [a_s_l12Make, c_s_l12Make, fillParts, hown, hi, hle, hle2, setRange_movd y hi, movd_length, hf, under_slice, Nat.add_assoc, Nat.add_lt_add_iff_left, Nat.lt_irrefl, decide_true, decide_false, clean_minEsc, clean_none, Nat.le_add_right, Nat.le_refl, Int.reduceEq, go_sem, entry, joinEsc, if_pos, reduceIte, Nat.reduceAdd, Nat.reduceLeDiff, Nat.reduceLT, Nat.reduceEqDiff]
  by_cases k4 : k = 4
  · subst k4
    have hf : ∀ (B0 B1 B2 B5 : Blk) (e0 e1 : Option Nat), clean H.length e1 = true → finish 2 H.length e0 (stV (slL (H.length + 3) ls.length none) x y (slS (H.length + 4) ss.length none) t c) ⟨H ++ [B0, B1, B2, .cells (encL ls) true, .cells (encS ss) true, B5], e1⟩ =
        some (stV (slL H.length ls.length none) x y (slS (H.length + 1) ss.length none) t c, ⟨H ++ [.cells (encL ls) true, .cells (encS ss) true], e0⟩) :=
      fun B0 B1 B2 B5 e0 e1 hc => finish_stand x y t c e0 e1 hc rfl rfl (by decide) (under_encL _ _) (under_encS _ _)
    simp +contextual only [a_s_l12Make, c_s_l12Make, fillParts, hown, hf, under_slice, Nat.add_assoc, Nat.add_lt_add_iff_left, Nat.lt_irrefl, decide_true, decide_false, clean_minEsc, clean_none, Nat.le_add_right, Nat.le_refl, Int.reduceEq, go_sem, entry, joinEsc, if_pos, reduceIte, Nat.reduceAdd, Nat.reduceLeDiff, Nat.reduceLT, Nat.reduceEqDiff]
  by_cases k5 : k = 5
  · subst k5
    have happ := fun L b q c e' (hb : L[b]? = some (.cells (encS ss) true)) hq => append_gen (e := e') (L := L) (b := b) (q := q) (n := ss.length) (sz := 3) (bytes := 24) (c := c) (cs := encS ss) (new := [.int .i64 x, .int .i64 y, .int .i64 z]) hb hq (encS_length ss) rfl (by unfold maxBytes; omega)
    have hap2 : encS ss ++ [AV.int .i64 x, .int .i64 y, .int .i64 z] = encS (ss ++ [(x, y, z)]) := by rw [encS_append]; rfl
    have hf : ∀ (B0 B1 B2 B4 B5 B6 : Blk) (e0 e1 : Option Nat), clean H.length e1 = true → finish 2 H.length e0 (stV (slL (H.length + 3) ls.length none) a b (slS (H.length + 7) (ss.length + 1) none) t c) ⟨H ++ [B0, B1, B2, .cells (encL ls) true, B4, B5, B6, .cells (encS (ss ++ [(x, y, z)])) true], e1⟩ =
        some (stV (slL H.length ls.length none) a b (slS (H.length + 1) (ss.length + 1) none) t c, ⟨H ++ [.cells (encL ls) true, .cells (encS (ss ++ [(x, y, z)])) true], e0⟩) :=
      fun B0 B1 B2 B4 B5 B6 e0 e1 hc => finish_stand a b t c e0 e1 hc rfl rfl (by decide) (under_encL _ _) (under_encS _ _)
    simp +contextual only [a_s_l12Make, c_s_l12Make, fillParts, hown, happ, hap2, hf, under_slice, Nat.add_assoc, Nat.add_lt_add_iff_left, Nat.lt_irrefl, decide_true, decide_false, clean_minEsc, clean_none, Nat.le_add_right, Nat.le_refl, Int.reduceEq, go_sem, entry, joinEsc, if_pos, reduceIte, Nat.reduceAdd, Nat.reduceLeDiff, Nat.reduceLT, Nat.reduceEqDiff]
  by_cases k6 : k = 6
  · subst k6
    simp only [show ¬ ((6 : Int) = 1) by omega, show ¬ ((6 : Int) = 2) by omega, show ¬ ((6 : Int) = 3) by omega, show ¬ ((6 : Int) = 4) by omega, or_self, if_false, if_true, Bool.and_eq_true, decide_eq_true_eq] at hk
    obtain ⟨i, rfl⟩ : ∃ i : Nat, x = i := ⟨x.toNat, by omega⟩
    have hi : i < ss.length := by omega
    have hi1 : i ≤ ss.length := by omega
    have hi2 : i + 1 ≤ ss.length := by omega
    have happ := fun L b e' (hb : L[b]? = some (.cells (encS ss) true)) => append_del (e := e') (L := L) (b := b) (n := ss.length) (sz := 3) (bytes := 24) (i := i) (cs := encS ss) hb (encS_length ss) hi (by unfold maxBytes; omega)
    have hel : (ss.eraseIdx i).length = ss.length - 1 := by rw [List.length_eraseIdx, if_pos hi]
    have hf : ∀ (B0 B1 B2 B4 B5 : Blk) (e0 e1 : Option Nat), clean H.length e1 = true → finish 2 H.length e0 (stV (slL (H.length + 3) ls.length none) a b (slS (H.length + 6) (ss.length - 1) none) t c) ⟨H ++ [B0, B1, B2, .cells (encL ls) true, B4, B5, .cells (encS (ss.eraseIdx i)) true], e1⟩ =
        some (stV (slL H.length ls.length none) a b (slS (H.length + 1) (ss.length - 1) none) t c, ⟨H ++ [.cells (encL ls) true, .cells (encS (ss.eraseIdx i)) true], e0⟩) :=
      fun B0 B1 B2 B4 B5 e0 e1 hc => finish_stand a b t c e0 e1 hc rfl rfl (by decide) (under_encL _ _) (under_encS _ _)
    simp +contextual only [a_s_l12Make, c_s_l12Make, fillParts, aop_sliceHi, aop_sliceLo, sliceHiV_at, sliceLoV_at, hi1, hi2, hown, happ, encS_erase, hel, hf, wrap_succ (show i < 9223372036854775807 by omega), under_slice, Nat.add_assoc, Nat.add_lt_add_iff_left, Nat.lt_irrefl, decide_true, decide_false, clean_minEsc, clean_none, Nat.le_add_right, Nat.le_refl, Int.reduceEq, go_sem, entry, joinEsc, if_pos, reduceIte, Nat.reduceAdd, Nat.reduceLeDiff, Nat.reduceLT, Nat.reduceEqDiff]
  simp [k1, k2, k3, k4, k5, k6] at hk

end Go.Proofs.Ytlocjmbfcdfjfaa.Slim

/- Tasks of a stand: DoTask. -/
namespace Go.Proofs.Ytlocjmbfcdfjfaa.Slim

open Go

set_option linter.unusedSimpArgs false

set_option linter.unusedVariables false

variable {pr : Prims} {H : List Blk} {e : Option Nat}

def stOk (ls : List Ld) (ss : List Sg) (a b t c : Int) : Bool := rowOk ls && (chainOk ss && restOk a b t c)

theorem isStand_at {ls : List Ld} {ss : List Sg} {n m : Nat} (hn : ls.length = n) (hm : ss.length = m) (hm2 : m ≤ 1048576) (a b t c : Int) {L : List Blk} {q1 q2 : Nat} {c1 c2 : Option Nat} (h1 : cellsAt L q1 = some (encL ls)) (h2 : cellsAt L q2 = some (encS ss)) :
    call T pr f_i_IsStand [stV (slL q1 n c1) a b (slS q2 m c2) t c] ⟨L, e⟩ = some (.bool (stOk ls ss a b t c), ⟨L, e⟩) := by
  subst hn hm
  exact e_i_IsStand (fun G => e_i_IsRow (cells_mono h1 G)) (fun G => e_i_isChain (cells_mono h2 G) (by omega)) a b t c

theorem good_at {ls : List Ld} {ss : List Sg} {n m : Nat} (hn : ls.length = n) (hm : ss.length = m) (hm2 : m ≤ 1048576) (a b t c : Int) {L : List Blk} {q1 q2 : Nat} {c1 c2 : Option Nat} (h1 : cellsAt L q1 = some (encL ls)) (h2 : cellsAt L q2 = some (encS ss)) :
    call T pr f_s_l12Good [stV (slL q1 n c1) a b (slS q2 m c2) t c] ⟨L, e⟩ = some (.bool (stOk ls ss a b t c), ⟨L, e⟩) := by
  subst hn hm
  exact e_s_l12Good (fun G => e_s_l2Row (cells_mono h1 G)) (fun G => e_s_l7Stages (cells_mono h2 G) (by omega)) a b t c

theorem tipSide_at {ls : List Ld} {n : Nat} (hn : ls.length = n) (hn2 : n ≤ 1048576) (a b : Int) {L : List Blk} {q1 : Nat} {c1 : Option Nat} (h1 : cellsAt L q1 = some (encL ls)) :
    call T pr f_i_tipSide [slL q1 n c1, .int .i64 a, .int .i64 b] ⟨L, e⟩ = some (.int .i64 (sideW ls a b), ⟨L, e⟩) := by
  subst hn
  exact e_i_tipSide h1 (by omega) a b

theorem l2Side_at {ls : List Ld} {n : Nat} (hn : ls.length = n) (hn2 : n ≤ 1048576) (a b : Int) {L : List Blk} {q1 : Nat} {c1 : Option Nat} (h1 : cellsAt L q1 = some (encL ls)) :
    call T pr f_s_l2Side [slL q1 n c1, .int .i64 a, .int .i64 b] ⟨L, e⟩ = some (.int .i64 (sideW ls a b), ⟨L, e⟩) := by
  subst hn
  exact e_s_l2Side h1 (by omega) a b

abbrev noStand : AV := stV (.slice none 0 0 none) 0 0 (.slice none 0 0 none) 0 0

/-- can a task of a valid stand be made? -/
def doOk (ls : List Ld) (ss : List Sg) (a b t c k x y z : Int) : Bool := mayT ls ss k x y z && stOk (rowT ls k x y) (chainT ss k x y z) (baseA a k x) (baseA b k y) t (wr (c + 1))

/-- how often the row did not stand behind a task -/
def tipsT (ls : List Ld) (a b t k x y : Int) : Int := if decide (sideW (rowT ls k x y) (baseA a k x) (baseA b k y) = 0) = true then t else wr (t + 1)

/-- what the call of a task returns -/
def doRes (H : List Blk) (e : Option Nat) (ok : Bool) (ls : List Ld) (ss : List Sg) (a b t c : Int) : Option (AV × Mem) :=
  if ok = true then some (.tup [stV (slL H.length ls.length none) a b (slS (H.length + 1) ss.length none) t c, .bool true], ⟨H ++ [.cells (encL ls) true, .cells (encS ss) true], e⟩)
  else some (.tup [noStand, .bool false], ⟨H, e⟩)

theorem rowT_length (ls : List Ld) (k x y : Int) : (rowT ls k x y).length ≤ ls.length + 1 := by
  unfold rowT
  split
  · simp
  · split
    · have := List.length_eraseIdx_le ls x.toNat; omega
    · split
      · rw [movd_length]; omega
      · omega

theorem chainT_length (ss : List Sg) (k x y z : Int) : (chainT ss k x y z).length ≤ ss.length + 1 := by
  unfold chainT
  split
  · simp
  · split
    · have := List.length_eraseIdx_le ss x.toNat; omega
    · omega

theorem e_s_l12Do {q1 q2 : Nat} {c1 c2 : Option Nat} {ls : List Ld} {ss : List Sg} (h1 : cellsAt H q1 = some (encL ls)) (h2 : cellsAt H q2 = some (encS ss)) (hn : ls.length ≤ 1048575) (hm : ss.length ≤ 1048575) (a b t c k x y z : Int) :
    call T pr f_s_l12Do [stV (slL q1 ls.length c1) a b (slS q2 ss.length c2) t c, tkV k x y z] ⟨H, e⟩ =
      doRes H e (doOk ls ss a b t c k x y z) (rowT ls k x y) (chainT ss k x y z) (baseA a k x) (baseA b k y) (tipsT ls a b t k x y) (wr (c + 1)) := by
  have hfN : ∀ (G : List Blk) (e0 e1 : Option Nat), clean H.length e1 = true → finish 2 H.length e0 (.tup [noStand, .bool false]) ⟨H ++ G, e1⟩ = some (.tup [noStand, .bool false], ⟨H, e0⟩) :=
    fun G e0 e1 hc => finish_standN 0 0 0 0 false e0 e1 hc
  have hmay := fun G => e_s_l12May (pr := pr) (H := H ++ G) (e := none) (p1 := some (q1, 0)) (p2 := some (q2, 0)) (s1 := 2) (s2 := 3) (c1 := c1) (c2 := c2) (ls := ls) (ss := ss) (by omega) (by omega) a b t c k x y z
  rw [call_eq t_s_l12Do]
  unfold doRes doOk tipsT
  cases hk : mayT ls ss k x y z with
  | false =>
    rw [hk] at hmay
    simp +contextual only [a_s_l12Do, c_s_l12Do, fillParts, hmay, hfN, under_sliceN, clean_minEsc, clean_none, Nat.le_add_right, decide_true, go_sem, entry, joinEsc, if_pos, reduceIte, Nat.reduceAdd, Nat.reduceLeDiff, Nat.reduceLT, Nat.reduceEqDiff]
  | true =>
    rw [hk] at hmay
    have hmk := fun G => e_s_l12Make (pr := pr) (H := H ++ G) (e := none) (c1 := c1) (c2 := c2) (cells_mono h1 G) (cells_mono h2 G) hn hm a b t c k x y z hk
    have hr1 := rowT_length ls k x y
    have hc1 := chainT_length ss k x y z
    generalize rowT ls k x y = ls' at hmk hr1 ⊢
    generalize chainT ss k x y z = ss' at hmk hc1 ⊢
    generalize baseA a k x = a' at hmk ⊢
    generalize baseA b k y = b' at hmk ⊢
    have hgood := fun L q1 q2 c1 c2 h1 h2 => good_at (pr := pr) (e := none) (L := L) (q1 := q1) (q2 := q2) (c1 := c1) (c2 := c2) (ls := ls') (ss := ss') rfl rfl (by omega) a' b' t (wr (c + 1)) h1 h2
    have hside := fun L q1 c1 h1 => l2Side_at (pr := pr) (e := none) (L := L) (q1 := q1) (c1 := c1) (ls := ls') rfl (by omega) a' b' h1
    have hf : ∀ (B0 B1 B2 B5 : Blk) (t' c' : Int) (e0 e1 : Option Nat), clean H.length e1 = true → finish 2 H.length e0 (.tup [stV (slL (H.length + 3) ls'.length none) a' b' (slS (H.length + 4) ss'.length none) t' c', .bool true]) ⟨H ++ [B0, B1, B2, .cells (encL ls') true, .cells (encS ss') true, B5], e1⟩ =
        some (.tup [stV (slL H.length ls'.length none) a' b' (slS (H.length + 1) ss'.length none) t' c', .bool true], ⟨H ++ [.cells (encL ls') true, .cells (encS ss') true], e0⟩) :=
      fun B0 B1 B2 B5 t' c' e0 e1 hc => finish_standB a' b' t' c' true e0 e1 hc rfl rfl (by decide) (under_encL _ _) (under_encS _ _)
    unfold wr at *
    cases hg : stOk ls' ss' a' b' t (IntKind.i64.wrap (c + 1)) with
    | false =>
      rw [hg] at hgood
      simp +contextual only [a_s_l12Do, c_s_l12Do, fillParts, hmay, hmk, hgood, hfN, under_slice, under_sliceN, Nat.add_assoc, Nat.add_lt_add_iff_left, Nat.lt_irrefl, decide_false, clean_minEsc, clean_none, Nat.le_add_right, Nat.le_refl, decide_true, go_sem, entry, joinEsc, if_pos, reduceIte, Nat.reduceAdd, Nat.reduceLeDiff, Nat.reduceLT, Nat.reduceEqDiff]
    | true =>
      rw [hg] at hgood
      by_cases ht : sideW ls' a' b' = 0
      · rw [ht] at hside
        simp +contextual only [a_s_l12Do, c_s_l12Do, fillParts, hmay, hmk, hgood, hside, ht, hf, under_slice, under_sliceN, Nat.add_assoc, Nat.add_lt_add_iff_left, Nat.lt_irrefl, not_true_eq_false, decide_false, clean_minEsc, clean_none, Nat.le_add_right, Nat.le_refl, decide_true, go_sem, entry, joinEsc, if_pos, reduceIte, Nat.reduceAdd, Nat.reduceLeDiff, Nat.reduceLT, Nat.reduceEqDiff]
      · simp +contextual only [a_s_l12Do, c_s_l12Do, fillParts, hmay, hmk, hgood, hside, ht, hf, under_slice, under_sliceN, Nat.add_assoc, Nat.add_lt_add_iff_left, Nat.lt_irrefl, not_false_eq_true, decide_false, clean_minEsc, clean_none, Nat.le_add_right, Nat.le_refl, decide_true, go_sem, entry, joinEsc, if_pos, reduceIte, Nat.reduceAdd, Nat.reduceLeDiff, Nat.reduceLT, Nat.reduceEqDiff]

end Go.Proofs.Ytlocjmbfcdfjfaa.Slim

/- Tasks of a stand: the program's DoTask. -/
namespace Go.Proofs.Ytlocjmbfcdfjfaa.Slim

open Go

set_option linter.unusedSimpArgs false

set_option linter.unusedVariables false

variable {pr : Prims} {H : List Blk} {e : Option Nat}

def sndC : ACode → ACode
  | .seq _ b => b
  | c => c

/-- what stands behind the choice of a task -/
def tail_DoTask : ACode := sndC (sndC (sndC (sndC (sndC c_i_DoTask))))

noncomputable def tailF_DoTask (pr : Prims) : St → Option (Ex × St) := run T pr tail_DoTask

theorem tail_no {y0 y1 y2 y3 y8 y9 y10 y11 y12 y13 y14 y15 y16 y17 y18 y19 y20 y21 y22 : AV} {B0 B1 X3 X4 : Blk} {G : List Blk} {j1 j2 n m : Nat} {a b t c : Int} {ls : List Ld} {ss : List Sg} {e : Option Nat} (hn : ls.length = n) (hm : ss.length = m) (hn2 : n ≤ 1048576) (hm2 : m ≤ 1048576) (h1 : ∀ B2 B5, (B0 :: B1 :: B2 :: X3 :: X4 :: B5 :: G)[j1]? = some (.cells (encL ls) true)) (h2 : ∀ B2 B5, (B0 :: B1 :: B2 :: X3 :: X4 :: B5 :: G)[j2]? = some (.cells (encS ss) true)) {ok : Bool} (hno : (ok && stOk ls ss a b t (IntKind.i64.wrap (c + 1))) = false) :
    tailF_DoTask pr ⟨[y0, y1, y2, y3, .ptr (some (H.length + 2, 0)), .bool false, .ptr (some (H.length + 5, 0)), .bool ok, y8, y9, y10, y11, y12, y13, y14, y15, y16, y17, y18, y19, y20, y21, y22], ⟨H ++ (B0 :: B1 :: .cells [.slice none 0 0 none, .int .i64 0, .int .i64 0, .slice none 0 0 none, .int .i64 0, .int .i64 0] true :: X3 :: X4 :: .cells [slL (H.length + j1) n none, .int .i64 a, .int .i64 b, slS (H.length + j2) m none, .int .i64 t, .int .i64 c] true :: G), e⟩⟩ =
      some (Ex.ret, ⟨[y0, y1, y2, y3, .ptr (some (H.length + 2, 0)), .bool false, .ptr (some (H.length + 5, 0)), .bool ok, y8, y9, y10, y11, y12, y13, y14, y15, y16, y17, y18, y19, y20, .bool true, y22], ⟨H ++ (B0 :: B1 :: .cells [.slice none 0 0 none, .int .i64 0, .int .i64 0, .slice none 0 0 none, .int .i64 0, .int .i64 0] true :: X3 :: X4 :: .cells [slL (H.length + j1) n none, .int .i64 a, .int .i64 b, slS (H.length + j2) m none, .int .i64 t, .int .i64 (IntKind.i64.wrap (c + 1))] true :: G), e⟩⟩) := by
  have hc1 : ∀ B2 B5, cellsAt (H ++ (B0 :: B1 :: B2 :: X3 :: X4 :: B5 :: G)) (H.length + j1) = some (encL ls) := fun B2 B5 => by rw [cellsAt_newk]; exact cellsAt_get (h1 B2 B5)
  have hc2 : ∀ B2 B5, cellsAt (H ++ (B0 :: B1 :: B2 :: X3 :: X4 :: B5 :: G)) (H.length + j2) = some (encS ss) := fun B2 B5 => by rw [cellsAt_newk]; exact cellsAt_get (h2 B2 B5)
  have hist := fun B2 B5 e => isStand_at (pr := pr) (e := e) (c1 := none) (c2 := none) hn hm hm2 a b t (IntKind.i64.wrap (c + 1)) (hc1 B2 B5) (hc2 B2 B5)
  unfold tailF_DoTask tail_DoTask
  simp only [sndC, c_i_DoTask]
  cases ok with
  | false => simp +contextual only [fillParts, under_slice, under_sliceN, Nat.add_assoc, Nat.add_lt_add_iff_left, Nat.lt_irrefl, clean_minEsc, clean_none, Nat.le_add_right, Nat.le_refl, Int.reduceEq, not_true_eq_false, not_false_eq_true, decide_true, decide_false, go_sem, entry, joinEsc, if_pos, reduceIte, Nat.reduceAdd, Nat.reduceLeDiff, Nat.reduceLT, Nat.reduceEqDiff]
  | true =>
    rw [Bool.true_and] at hno
    rw [hno] at hist
    simp +contextual only [fillParts, hist, under_slice, under_sliceN, Nat.add_assoc, Nat.add_lt_add_iff_left, Nat.lt_irrefl, clean_minEsc, clean_none, Nat.le_add_right, Nat.le_refl, Int.reduceEq, not_true_eq_false, not_false_eq_true, decide_true, decide_false, go_sem, entry, joinEsc, if_pos, reduceIte, Nat.reduceAdd, Nat.reduceLeDiff, Nat.reduceLT, Nat.reduceEqDiff]

theorem tail_yes {y0 y1 y2 y3 y8 y9 y10 y11 y12 y13 y14 y15 y16 y17 y18 y19 y20 y21 y22 : AV} {B0 B1 X3 X4 : Blk} {G : List Blk} {j1 j2 n m : Nat} {a b t c : Int} {ls : List Ld} {ss : List Sg} {e : Option Nat} (hn : ls.length = n) (hm : ss.length = m) (hn2 : n ≤ 1048576) (hm2 : m ≤ 1048576) (h1 : ∀ B2 B5, (B0 :: B1 :: B2 :: X3 :: X4 :: B5 :: G)[j1]? = some (.cells (encL ls) true)) (h2 : ∀ B2 B5, (B0 :: B1 :: B2 :: X3 :: X4 :: B5 :: G)[j2]? = some (.cells (encS ss) true)) (h3 : 3 ≤ j1) (hyes : stOk ls ss a b t (IntKind.i64.wrap (c + 1)) = true) :
    tailF_DoTask pr ⟨[y0, y1, y2, y3, .ptr (some (H.length + 2, 0)), .bool false, .ptr (some (H.length + 5, 0)), .bool true, y8, y9, y10, y11, y12, y13, y14, y15, y16, y17, y18, y19, y20, y21, y22], ⟨H ++ (B0 :: B1 :: .cells [.slice none 0 0 none, .int .i64 0, .int .i64 0, .slice none 0 0 none, .int .i64 0, .int .i64 0] true :: X3 :: X4 :: .cells [slL (H.length + j1) n none, .int .i64 a, .int .i64 b, slS (H.length + j2) m none, .int .i64 t, .int .i64 c] true :: G), e⟩⟩ =
      some (Ex.ret, ⟨[y0, y1, y2, y3, .ptr (some (H.length + 2, 0)), .bool true, .ptr (some (H.length + 5, 0)), .bool true, y8, y9, y10, y11, y12, y13, y14, y15, y16, y17, y18, y19, y20, .bool false, .bool (!decide (sideW ls a b = 0))], ⟨H ++ (B0 :: B1 :: .cells [slL (H.length + j1) n none, .int .i64 a, .int .i64 b, slS (H.length + j2) m none, .int .i64 (if decide (sideW ls a b = 0) = true then t else IntKind.i64.wrap (t + 1)), .int .i64 (IntKind.i64.wrap (c + 1))] true :: X3 :: X4 :: .cells [slL (H.length + j1) n none, .int .i64 a, .int .i64 b, slS (H.length + j2) m none, .int .i64 (if decide (sideW ls a b = 0) = true then t else IntKind.i64.wrap (t + 1)), .int .i64 (IntKind.i64.wrap (c + 1))] true :: G), minEsc e (H.length + 2)⟩⟩) := by
  have hc1 : ∀ B2 B5, cellsAt (H ++ (B0 :: B1 :: B2 :: X3 :: X4 :: B5 :: G)) (H.length + j1) = some (encL ls) := fun B2 B5 => by rw [cellsAt_newk]; exact cellsAt_get (h1 B2 B5)
  have hc2 : ∀ B2 B5, cellsAt (H ++ (B0 :: B1 :: B2 :: X3 :: X4 :: B5 :: G)) (H.length + j2) = some (encS ss) := fun B2 B5 => by rw [cellsAt_newk]; exact cellsAt_get (h2 B2 B5)
  have hist := fun B2 B5 e => isStand_at (pr := pr) (e := e) (c1 := none) (c2 := none) hn hm hm2 a b t (IntKind.i64.wrap (c + 1)) (hc1 B2 B5) (hc2 B2 B5)
  have hside := fun B2 B5 e => tipSide_at (pr := pr) (e := e) (c1 := none) hn hn2 a b (hc1 B2 B5)
  have hlt : ¬ (j1 < 2 + 1) := by omega
  unfold tailF_DoTask tail_DoTask
  simp only [sndC, c_i_DoTask]
  rw [hyes] at hist
  by_cases ht : sideW ls a b = 0
  · rw [ht] at hside
    simp +contextual only [fillParts, hist, hside, ht, hlt, under_slice, under_sliceN, Nat.add_assoc, Nat.add_lt_add_iff_left, Nat.lt_irrefl, clean_minEsc, clean_none, Nat.le_add_right, Nat.le_refl, Int.reduceEq, not_true_eq_false, not_false_eq_true, decide_true, decide_false, go_sem, entry, joinEsc, if_pos, reduceIte, Nat.reduceAdd, Nat.reduceLeDiff, Nat.reduceLT, Nat.reduceEqDiff]
  · simp +contextual only [fillParts, hist, hside, ht, hlt, under_slice, under_sliceN, Nat.add_assoc, Nat.add_lt_add_iff_left, Nat.lt_irrefl, clean_minEsc, clean_none, Nat.le_add_right, Nat.le_refl, Int.reduceEq, not_true_eq_false, not_false_eq_true, decide_true, decide_false, go_sem, entry, joinEsc, if_pos, reduceIte, Nat.reduceAdd, Nat.reduceLeDiff, Nat.reduceLT, Nat.reduceEqDiff]

end Go.Proofs.Ytlocjmbfcdfjfaa.Slim

/- Tasks of a stand: the program's DoTask, by the kinds of tasks. -/
namespace Go.Proofs.Ytlocjmbfcdfjfaa.Slim

open Go

set_option linter.unusedSimpArgs false

set_option linter.unusedVariables false

variable {pr : Prims} {H : List Blk} {e : Option Nat}

def rest3_DoTask : ACode := sndC (sndC (sndC c_i_DoTask))

def rest4_DoTask : ACode := sndC (sndC (sndC (sndC c_i_DoTask)))

noncomputable def rest3F_DoTask (pr : Prims) : St → Option (Ex × St) := run T pr rest3_DoTask

noncomputable def rest4F_DoTask (pr : Prims) : St → Option (Ex × St) := run T pr rest4_DoTask

theorem tail_fold : run T pr tail_DoTask = tailF_DoTask pr := rfl

theorem rest3_fold : run T pr rest3_DoTask = rest3F_DoTask pr := rfl

theorem rest4_fold : run T pr rest4_DoTask = rest4F_DoTask pr := rfl

theorem mayT_1 (ls : List Ld) (ss : List Sg) (x y z : Int) : mayT ls ss 1 x y z = decide (z = 0) := by simp [mayT]

theorem mayT_2 (ls : List Ld) (ss : List Sg) (x y z : Int) : mayT ls ss 2 x y z = (((decide (0 ≤ x) && decide (x ≤ (ls.length : Int) - 1)) && decide (y = 0)) && decide (z = 0)) := by simp [mayT]

theorem mayT_3 (ls : List Ld) (ss : List Sg) (x y z : Int) : mayT ls ss 3 x y z = ((decide (0 ≤ x) && decide (x ≤ (ls.length : Int) - 1)) && decide (z = 0)) := by simp [mayT]

theorem mayT_4 (ls : List Ld) (ss : List Sg) (x y z : Int) : mayT ls ss 4 x y z = decide (z = 0) := by simp [mayT]

theorem mayT_5 (ls : List Ld) (ss : List Sg) (x y z : Int) : mayT ls ss 5 x y z = true := by simp [mayT]

theorem mayT_6 (ls : List Ld) (ss : List Sg) (x y z : Int) : mayT ls ss 6 x y z = (((decide (0 ≤ x) && decide (x ≤ (ss.length : Int) - 1)) && decide (y = 0)) && decide (z = 0)) := by simp [mayT]

set_option maxHeartbeats 8000000 in
theorem DoTask_1 {q1 q2 : Nat} {c1 c2 : Option Nat} {ls : List Ld} {ss : List Sg} {a b t c : Int} (h1 : cellsAt H q1 = some (encL ls)) (h2 : cellsAt H q2 = some (encS ss)) (hn : ls.length ≤ 1048575) (hm : ss.length ≤ 1048575) (k x y z : Int) (hv : stOk ls ss a b t c = true) :
    call T pr f_i_DoTask [stV (slL q1 ls.length c1) a b (slS q2 ss.length c2) t c, tkV k x y z] ⟨H, e⟩ = endCall a_i_DoTask ⟨H, e⟩ (rest3F_DoTask pr ⟨[stV (slL q1 ls.length c1) a b (slS q2 ss.length c2) t c, tkV k x y z, .ptr (some (H.length, 0)), .ptr (some (H.length + 1, 0)), .ptr (some (H.length + 2, 0)), .bool false, .ptr (some (H.length + 5, 0)), .bool false, .undef, .undef, .bool false, .undef, .undef, .undef, .undef, .undef, .undef, .undef, .undef, .undef, .undef, .undef, .undef], ⟨H ++ [.cells [slL q1 ls.length c1, .int .i64 a, .int .i64 b, slS q2 ss.length c2, .int .i64 t, .int .i64 c] true, .cells [.int .i64 k, .int .i64 x, .int .i64 y, .int .i64 z] true, .cells [.slice none 0 0 none, .int .i64 0, .int .i64 0, .slice none 0 0 none, .int .i64 0, .int .i64 0] true, .cells (encL ls) true, .cells (encS ss) true, .cells [slL (H.length + 3) (ls.length) none, .int .i64 a, .int .i64 b, slS (H.length + 4) (ss.length) none, .int .i64 t, .int .i64 c] true], none⟩⟩) := by
  have hvalid := fun G => isStand_at (pr := pr) (e := none) (c1 := c1) (c2 := c2) (ls := ls) (ss := ss) rfl rfl (by omega) a b t c (cells_mono h1 G) (cells_mono h2 G)
  rw [hv] at hvalid
  have hcopy := fun G => e_i_copyStand (pr := pr) (e := none) (c1 := c1) (c2 := c2) (cells_mono h1 G) (cells_mono h2 G) (by omega) (by omega) a b t c
  have hfold := rest3_fold (pr := pr)
  simp only [rest3_DoTask, sndC, c_i_DoTask] at hfold
  rw [call_eq t_i_DoTask]
  generalize hA : endCall a_i_DoTask = EC
  simp (config := { maxSteps := 2000000, contextual := true }) only [a_i_DoTask] at hA
  simp (config := { maxSteps := 2000000, contextual := true }) only [a_i_DoTask, c_i_DoTask, hA, hfold, hvalid, hcopy, under_slice, under_sliceN, Nat.add_assoc, Nat.add_lt_add_iff_left, Nat.lt_irrefl, clean_minEsc, clean_none, Nat.le_add_right, Nat.le_refl, Int.reduceEq, not_true_eq_false, not_false_eq_true, decide_true, decide_false, go_sem, entry, joinEsc, if_pos, reduceIte, Nat.reduceAdd, Nat.reduceLeDiff, Nat.reduceLT, Nat.reduceEqDiff]

set_option maxHeartbeats 8000000 in
theorem DoTask_2 {q1 q2 : Nat} {c1 c2 : Option Nat} {ls : List Ld} {ss : List Sg} {a b t c : Int} (hn : ls.length ≤ 1048575) (hm : ss.length ≤ 1048575) (k x y z : Int) :
    rest3F_DoTask pr ⟨[stV (slL q1 ls.length c1) a b (slS q2 ss.length c2) t c, tkV k x y z, .ptr (some (H.length, 0)), .ptr (some (H.length + 1, 0)), .ptr (some (H.length + 2, 0)), .bool false, .ptr (some (H.length + 5, 0)), .bool false, .undef, .undef, .bool false, .undef, .undef, .undef, .undef, .undef, .undef, .undef, .undef, .undef, .undef, .undef, .undef], ⟨H ++ [.cells [slL q1 ls.length c1, .int .i64 a, .int .i64 b, slS q2 ss.length c2, .int .i64 t, .int .i64 c] true, .cells [.int .i64 k, .int .i64 x, .int .i64 y, .int .i64 z] true, .cells [.slice none 0 0 none, .int .i64 0, .int .i64 0, .slice none 0 0 none, .int .i64 0, .int .i64 0] true, .cells (encL ls) true, .cells (encS ss) true, .cells [slL (H.length + 3) (ls.length) none, .int .i64 a, .int .i64 b, slS (H.length + 4) (ss.length) none, .int .i64 t, .int .i64 c] true], none⟩⟩ = rest4F_DoTask pr ⟨[stV (slL q1 ls.length c1) a b (slS q2 ss.length c2) t c, tkV k x y z, .ptr (some (H.length, 0)), .ptr (some (H.length + 1, 0)), .ptr (some (H.length + 2, 0)), .bool false, .ptr (some (H.length + 5, 0)), .bool false, .bool (decide (0 ≤ x) && decide (x ≤ (ls.length : Int) - 1)), .bool (decide (0 ≤ x) && decide (x ≤ (ss.length : Int) - 1)), .bool false, .undef, .undef, .undef, .undef, .undef, .undef, .undef, .undef, .undef, .undef, .undef, .undef], ⟨H ++ [.cells [slL q1 ls.length c1, .int .i64 a, .int .i64 b, slS q2 ss.length c2, .int .i64 t, .int .i64 c] true, .cells [.int .i64 k, .int .i64 x, .int .i64 y, .int .i64 z] true, .cells [.slice none 0 0 none, .int .i64 0, .int .i64 0, .slice none 0 0 none, .int .i64 0, .int .i64 0] true, .cells (encL ls) true, .cells (encS ss) true, .cells [slL (H.length + 3) (ls.length) none, .int .i64 a, .int .i64 b, slS (H.length + 4) (ss.length) none, .int .i64 t, .int .i64 c] true], none⟩⟩ := by
  have hw1 : IntKind.i64.wrap ((ls.length : Int) - 1) = (ls.length : Int) - 1 := wrap64 (by omega) (by omega)
  have hw2 : IntKind.i64.wrap ((ss.length : Int) - 1) = (ss.length : Int) - 1 := wrap64 (by omega) (by omega)
  have hfold := rest4_fold (pr := pr)
  simp only [rest4_DoTask, sndC, c_i_DoTask] at hfold
  unfold rest3F_DoTask rest3_DoTask
  simp only [sndC, c_i_DoTask]
  simp (config := { maxSteps := 2000000, contextual := true }) only [hfold, e_i_within, hw1, hw2, under_slice, under_sliceN, Nat.add_assoc, Nat.add_lt_add_iff_left, Nat.lt_irrefl, clean_minEsc, clean_none, Nat.le_add_right, Nat.le_refl, Int.reduceEq, not_true_eq_false, not_false_eq_true, decide_true, decide_false, go_sem, entry, joinEsc, if_pos, reduceIte, Nat.reduceAdd, Nat.reduceLeDiff, Nat.reduceLT, Nat.reduceEqDiff]

set_option maxHeartbeats 8000000 in
theorem DoTask_k1 {q1 q2 : Nat} {c1 c2 : Option Nat} {ls : List Ld} {ss : List Sg} {a b t c : Int} (hn : ls.length ≤ 1048575) (hm : ss.length ≤ 1048575) (x : Int) (y z : Int) {isL isS : Bool} :
    rest4F_DoTask pr ⟨[stV (slL q1 ls.length c1) a b (slS q2 ss.length c2) t c, tkV 1 x y z, .ptr (some (H.length, 0)), .ptr (some (H.length + 1, 0)), .ptr (some (H.length + 2, 0)), .bool false, .ptr (some (H.length + 5, 0)), .bool false, .bool isL, .bool isS, .bool false, .undef, .undef, .undef, .undef, .undef, .undef, .undef, .undef, .undef, .undef, .undef, .undef], ⟨H ++ [.cells [slL q1 ls.length c1, .int .i64 a, .int .i64 b, slS q2 ss.length c2, .int .i64 t, .int .i64 c] true, .cells [.int .i64 1, .int .i64 x, .int .i64 y, .int .i64 z] true, .cells [.slice none 0 0 none, .int .i64 0, .int .i64 0, .slice none 0 0 none, .int .i64 0, .int .i64 0] true, .cells (encL ls) true, .cells (encS ss) true, .cells [slL (H.length + 3) (ls.length) none, .int .i64 a, .int .i64 b, slS (H.length + 4) (ss.length) none, .int .i64 t, .int .i64 c] true], none⟩⟩ = tailF_DoTask pr ⟨[stV (slL q1 ls.length c1) a b (slS q2 ss.length c2) t c, tkV 1 x y z, .ptr (some (H.length, 0)), .ptr (some (H.length + 1, 0)), .ptr (some (H.length + 2, 0)), .bool false, .ptr (some (H.length + 5, 0)), .bool (decide (z = 0)), .bool isL, .bool isS, .bool false, .int .i64 1, .bool true, .undef, .undef, .undef, .undef, .undef, .undef, .undef, .undef, .undef, .undef], ⟨H ++ [.cells [slL q1 ls.length c1, .int .i64 a, .int .i64 b, slS q2 ss.length c2, .int .i64 t, .int .i64 c] true, .cells [.int .i64 1, .int .i64 x, .int .i64 y, .int .i64 z] true, .cells [.slice none 0 0 none, .int .i64 0, .int .i64 0, .slice none 0 0 none, .int .i64 0, .int .i64 0] true, .dead, .cells (encS ss) true, .cells [slL (H.length + 7) (ls.length + 1) none, .int .i64 a, .int .i64 b, slS (H.length + 4) (ss.length) none, .int .i64 t, .int .i64 c] true, .cells [.int .i64 x, .int .i64 y] true, .cells (encL (ls ++ [(x, y)])) true], (minEsc none (H.length + 5))⟩⟩ := by
  have happ := fun L b q c e' (hb : L[b]? = some (.cells (encL ls) true)) hq => append_gen (e := e') (L := L) (b := b) (q := q) (n := ls.length) (sz := 2) (bytes := 16) (c := c) (cs := encL ls) (new := [.int .i64 x, .int .i64 y]) hb hq (encL_length ls) rfl (by unfold maxBytes; omega)
  have hap2 : encL ls ++ [AV.int .i64 x, .int .i64 y] = encL (ls ++ [(x, y)]) := by rw [encL_append]; rfl
  have hfold := tail_fold (pr := pr)
  simp only [tail_DoTask, sndC, c_i_DoTask] at hfold
  unfold rest4F_DoTask rest4_DoTask
  simp only [sndC, c_i_DoTask]
  simp (config := { maxSteps := 2000000, contextual := true }) only [hfold, fillParts, or_true, true_or, Option.some.injEq, eq_self, happ, hap2, under_slice, under_sliceN, Nat.add_assoc, Nat.add_lt_add_iff_left, Nat.lt_irrefl, clean_minEsc, clean_none, Nat.le_add_right, Nat.le_refl, Int.reduceEq, not_true_eq_false, not_false_eq_true, decide_true, decide_false, go_sem, entry, joinEsc, if_pos, reduceIte, Nat.reduceAdd, Nat.reduceLeDiff, Nat.reduceLT, Nat.reduceEqDiff]

set_option maxHeartbeats 8000000 in
theorem DoTask_k2 (hp : HasDelete pr) {q1 q2 : Nat} {c1 c2 : Option Nat} {ls : List Ld} {ss : List Sg} {a b t c : Int} (hn : ls.length ≤ 1048575) (hm : ss.length ≤ 1048575) {x : Nat} (hi : x < ls.length) (y z : Int) {isL isS : Bool} :
    rest4F_DoTask pr ⟨[stV (slL q1 ls.length c1) a b (slS q2 ss.length c2) t c, tkV 2 x y z, .ptr (some (H.length, 0)), .ptr (some (H.length + 1, 0)), .ptr (some (H.length + 2, 0)), .bool false, .ptr (some (H.length + 5, 0)), .bool false, .bool true, .bool isS, .bool false, .undef, .undef, .undef, .undef, .undef, .undef, .undef, .undef, .undef, .undef, .undef, .undef], ⟨H ++ [.cells [slL q1 ls.length c1, .int .i64 a, .int .i64 b, slS q2 ss.length c2, .int .i64 t, .int .i64 c] true, .cells [.int .i64 2, .int .i64 x, .int .i64 y, .int .i64 z] true, .cells [.slice none 0 0 none, .int .i64 0, .int .i64 0, .slice none 0 0 none, .int .i64 0, .int .i64 0] true, .cells (encL ls) true, .cells (encS ss) true, .cells [slL (H.length + 3) (ls.length) none, .int .i64 a, .int .i64 b, slS (H.length + 4) (ss.length) none, .int .i64 t, .int .i64 c] true], none⟩⟩ = tailF_DoTask pr ⟨[stV (slL q1 ls.length c1) a b (slS q2 ss.length c2) t c, tkV 2 x y z, .ptr (some (H.length, 0)), .ptr (some (H.length + 1, 0)), .ptr (some (H.length + 2, 0)), .bool false, .ptr (some (H.length + 5, 0)), .bool (decide (y = 0) && decide (z = 0)), .bool true, .bool isS, .bool false, .int .i64 2, .bool false, .bool true, .bool true, .undef, .undef, .undef, .undef, .undef, .undef, .undef, .undef], ⟨H ++ [.cells [slL q1 ls.length c1, .int .i64 a, .int .i64 b, slS q2 ss.length c2, .int .i64 t, .int .i64 c] true, .cells [.int .i64 2, .int .i64 x, .int .i64 y, .int .i64 z] true, .cells [.slice none 0 0 none, .int .i64 0, .int .i64 0, .slice none 0 0 none, .int .i64 0, .int .i64 0] true, .dead, .cells (encS ss) true, .cells [slL (H.length + 7) (ls.length - 1) none, .int .i64 a, .int .i64 b, slS (H.length + 4) (ss.length) none, .int .i64 t, .int .i64 c] true, .dead, .cells (encL (ls.eraseIdx x)) true], (minEsc none (H.length + 5))⟩⟩ := by
  have hdel : ∀ L e b cap, L[b]? = some (.cells (encL ls) true) → call T pr f_slices_Delete_Si_Load_i_Load [.slice (some (b, 0)) 2 ls.length cap, .int .i64 x, .int .i64 (x + 1 : Nat)] ⟨L, e⟩ = some (.slice (some (L.length + 1, 0)) 2 (ls.length - 1) none, ⟨L.set b .dead ++ [.dead, .cells (encL (ls.eraseIdx x)) true], e⟩) := by
    intro L e b cap hb
    rw [hp.1 L e b ls.length x cap (encL ls) hb (encL_length ls) hi, encL_erase]
  have hfold := tail_fold (pr := pr)
  simp only [tail_DoTask, sndC, c_i_DoTask] at hfold
  unfold rest4F_DoTask rest4_DoTask
  simp only [sndC, c_i_DoTask]
  by_cases hy : y = 0
  · subst hy
    simp (config := { maxSteps := 2000000, contextual := true }) only [hfold, fillParts, or_true, true_or, Option.some.injEq, eq_self, hdel, wrap_succ (show x < 9223372036854775807 by omega), under_slice, under_sliceN, Nat.add_assoc, Nat.add_lt_add_iff_left, Nat.lt_irrefl, clean_minEsc, clean_none, Nat.le_add_right, Nat.le_refl, Int.reduceEq, not_true_eq_false, not_false_eq_true, decide_true, decide_false, go_sem, entry, joinEsc, if_pos, reduceIte, Nat.reduceAdd, Nat.reduceLeDiff, Nat.reduceLT, Nat.reduceEqDiff]
  · simp (config := { maxSteps := 2000000, contextual := true }) only [hy, hfold, fillParts, or_true, true_or, Option.some.injEq, eq_self, hdel, wrap_succ (show x < 9223372036854775807 by omega), under_slice, under_sliceN, Nat.add_assoc, Nat.add_lt_add_iff_left, Nat.lt_irrefl, clean_minEsc, clean_none, Nat.le_add_right, Nat.le_refl, Int.reduceEq, not_true_eq_false, not_false_eq_true, decide_true, decide_false, go_sem, entry, joinEsc, if_pos, reduceIte, Nat.reduceAdd, Nat.reduceLeDiff, Nat.reduceLT, Nat.reduceEqDiff]

set_option maxHeartbeats 8000000 in
theorem DoTask_k2n {q1 q2 : Nat} {c1 c2 : Option Nat} {ls : List Ld} {ss : List Sg} {a b t c : Int} (hn : ls.length ≤ 1048575) (hm : ss.length ≤ 1048575) (x : Int) (y z : Int) {isL isS : Bool} :
    rest4F_DoTask pr ⟨[stV (slL q1 ls.length c1) a b (slS q2 ss.length c2) t c, tkV 2 x y z, .ptr (some (H.length, 0)), .ptr (some (H.length + 1, 0)), .ptr (some (H.length + 2, 0)), .bool false, .ptr (some (H.length + 5, 0)), .bool false, .bool false, .bool isS, .bool false, .undef, .undef, .undef, .undef, .undef, .undef, .undef, .undef, .undef, .undef, .undef, .undef], ⟨H ++ [.cells [slL q1 ls.length c1, .int .i64 a, .int .i64 b, slS q2 ss.length c2, .int .i64 t, .int .i64 c] true, .cells [.int .i64 2, .int .i64 x, .int .i64 y, .int .i64 z] true, .cells [.slice none 0 0 none, .int .i64 0, .int .i64 0, .slice none 0 0 none, .int .i64 0, .int .i64 0] true, .cells (encL ls) true, .cells (encS ss) true, .cells [slL (H.length + 3) (ls.length) none, .int .i64 a, .int .i64 b, slS (H.length + 4) (ss.length) none, .int .i64 t, .int .i64 c] true], none⟩⟩ = tailF_DoTask pr ⟨[stV (slL q1 ls.length c1) a b (slS q2 ss.length c2) t c, tkV 2 x y z, .ptr (some (H.length, 0)), .ptr (some (H.length + 1, 0)), .ptr (some (H.length + 2, 0)), .bool false, .ptr (some (H.length + 5, 0)), .bool false, .bool false, .bool isS, .bool false, .int .i64 2, .bool false, .bool true, .bool false, .undef, .undef, .undef, .undef, .undef, .undef, .undef, .undef], ⟨H ++ [.cells [slL q1 ls.length c1, .int .i64 a, .int .i64 b, slS q2 ss.length c2, .int .i64 t, .int .i64 c] true, .cells [.int .i64 2, .int .i64 x, .int .i64 y, .int .i64 z] true, .cells [.slice none 0 0 none, .int .i64 0, .int .i64 0, .slice none 0 0 none, .int .i64 0, .int .i64 0] true, .cells (encL ls) true, .cells (encS ss) true, .cells [slL (H.length + 3) (ls.length) none, .int .i64 a, .int .i64 b, slS (H.length + 4) (ss.length) none, .int .i64 t, .int .i64 c] true], none⟩⟩ := by
  have hfold := tail_fold (pr := pr)
  simp only [tail_DoTask, sndC, c_i_DoTask] at hfold
  unfold rest4F_DoTask rest4_DoTask
  simp only [sndC, c_i_DoTask]
  simp (config := { maxSteps := 2000000, contextual := true }) only [hfold, fillParts, or_true, true_or, Option.some.injEq, eq_self, under_slice, under_sliceN, Nat.add_assoc, Nat.add_lt_add_iff_left, Nat.lt_irrefl, clean_minEsc, clean_none, Nat.le_add_right, Nat.le_refl, Int.reduceEq, not_true_eq_false, not_false_eq_true, decide_true, decide_false, go_sem, entry, joinEsc, if_pos, reduceIte, Nat.reduceAdd, Nat.reduceLeDiff, Nat.reduceLT, Nat.reduceEqDiff]

set_option maxHeartbeats 8000000 in
theorem DoTask_k3 {q1 q2 : Nat} {c1 c2 : Option Nat} {ls : List Ld} {ss : List Sg} {a b t c : Int} (hn : ls.length ≤ 1048575) (hm : ss.length ≤ 1048575) {x : Nat} (hi : x < ls.length) (y z : Int) {isL isS : Bool} :
    rest4F_DoTask pr ⟨[stV (slL q1 ls.length c1) a b (slS q2 ss.length c2) t c, tkV 3 x y z, .ptr (some (H.length, 0)), .ptr (some (H.length + 1, 0)), .ptr (some (H.length + 2, 0)), .bool false, .ptr (some (H.length + 5, 0)), .bool false, .bool true, .bool isS, .bool false, .undef, .undef, .undef, .undef, .undef, .undef, .undef, .undef, .undef, .undef, .undef, .undef], ⟨H ++ [.cells [slL q1 ls.length c1, .int .i64 a, .int .i64 b, slS q2 ss.length c2, .int .i64 t, .int .i64 c] true, .cells [.int .i64 3, .int .i64 x, .int .i64 y, .int .i64 z] true, .cells [.slice none 0 0 none, .int .i64 0, .int .i64 0, .slice none 0 0 none, .int .i64 0, .int .i64 0] true, .cells (encL ls) true, .cells (encS ss) true, .cells [slL (H.length + 3) (ls.length) none, .int .i64 a, .int .i64 b, slS (H.length + 4) (ss.length) none, .int .i64 t, .int .i64 c] true], none⟩⟩ = tailF_DoTask pr ⟨[stV (slL q1 ls.length c1) a b (slS q2 ss.length c2) t c, tkV 3 x y z, .ptr (some (H.length, 0)), .ptr (some (H.length + 1, 0)), .ptr (some (H.length + 2, 0)), .bool false, .ptr (some (H.length + 5, 0)), .bool (decide (z = 0)), .bool true, .bool isS, .bool false, .int .i64 3, .bool false, .bool false, .undef, .bool true, .bool true, .undef, .undef, .undef, .undef, .undef, .undef], ⟨H ++ [.cells [slL q1 ls.length c1, .int .i64 a, .int .i64 b, slS q2 ss.length c2, .int .i64 t, .int .i64 c] true, .cells [.int .i64 3, .int .i64 x, .int .i64 y, .int .i64 z] true, .cells [.slice none 0 0 none, .int .i64 0, .int .i64 0, .slice none 0 0 none, .int .i64 0, .int .i64 0] true, .cells (encL (movd ls x y)) true, .cells (encS ss) true, .cells [slL (H.length + 3) (ls.length) none, .int .i64 a, .int .i64 b, slS (H.length + 4) (ss.length) none, .int .i64 t, .int .i64 c] true], none⟩⟩ := by
  have hle : x * 2 + 1 ≤ (encL ls).length := by rw [encL_length]; omega
  have hle2 : x * 2 + 2 ≤ (encL ls).length := by rw [encL_length]; omega
  have hfold := tail_fold (pr := pr)
  simp only [tail_DoTask, sndC, c_i_DoTask] at hfold
  unfold rest4F_DoTask rest4_DoTask
  simp only [sndC, c_i_DoTask]
  simp (config := { maxSteps := 2000000, contextual := true }) only [hfold, fillParts, or_true, true_or, Option.some.injEq, eq_self, hi, hle, hle2, setRange_movd y hi, under_slice, under_sliceN, Nat.add_assoc, Nat.add_lt_add_iff_left, Nat.lt_irrefl, clean_minEsc, clean_none, Nat.le_add_right, Nat.le_refl, Int.reduceEq, not_true_eq_false, not_false_eq_true, decide_true, decide_false, go_sem, entry, joinEsc, if_pos, reduceIte, Nat.reduceAdd, Nat.reduceLeDiff, Nat.reduceLT, Nat.reduceEqDiff]

set_option maxHeartbeats 8000000 in
theorem DoTask_k3n {q1 q2 : Nat} {c1 c2 : Option Nat} {ls : List Ld} {ss : List Sg} {a b t c : Int} (hn : ls.length ≤ 1048575) (hm : ss.length ≤ 1048575) (x : Int) (y z : Int) {isL isS : Bool} :
    rest4F_DoTask pr ⟨[stV (slL q1 ls.length c1) a b (slS q2 ss.length c2) t c, tkV 3 x y z, .ptr (some (H.length, 0)), .ptr (some (H.length + 1, 0)), .ptr (some (H.length + 2, 0)), .bool false, .ptr (some (H.length + 5, 0)), .bool false, .bool false, .bool isS, .bool false, .undef, .undef, .undef, .undef, .undef, .undef, .undef, .undef, .undef, .undef, .undef, .undef], ⟨H ++ [.cells [slL q1 ls.length c1, .int .i64 a, .int .i64 b, slS q2 ss.length c2, .int .i64 t, .int .i64 c] true, .cells [.int .i64 3, .int .i64 x, .int .i64 y, .int .i64 z] true, .cells [.slice none 0 0 none, .int .i64 0, .int .i64 0, .slice none 0 0 none, .int .i64 0, .int .i64 0] true, .cells (encL ls) true, .cells (encS ss) true, .cells [slL (H.length + 3) (ls.length) none, .int .i64 a, .int .i64 b, slS (H.length + 4) (ss.length) none, .int .i64 t, .int .i64 c] true], none⟩⟩ = tailF_DoTask pr ⟨[stV (slL q1 ls.length c1) a b (slS q2 ss.length c2) t c, tkV 3 x y z, .ptr (some (H.length, 0)), .ptr (some (H.length + 1, 0)), .ptr (some (H.length + 2, 0)), .bool false, .ptr (some (H.length + 5, 0)), .bool false, .bool false, .bool isS, .bool false, .int .i64 3, .bool false, .bool false, .undef, .bool true, .bool false, .undef, .undef, .undef, .undef, .undef, .undef], ⟨H ++ [.cells [slL q1 ls.length c1, .int .i64 a, .int .i64 b, slS q2 ss.length c2, .int .i64 t, .int .i64 c] true, .cells [.int .i64 3, .int .i64 x, .int .i64 y, .int .i64 z] true, .cells [.slice none 0 0 none, .int .i64 0, .int .i64 0, .slice none 0 0 none, .int .i64 0, .int .i64 0] true, .cells (encL ls) true, .cells (encS ss) true, .cells [slL (H.length + 3) (ls.length) none, .int .i64 a, .int .i64 b, slS (H.length + 4) (ss.length) none, .int .i64 t, .int .i64 c] true], none⟩⟩ := by
  have hfold := tail_fold (pr := pr)
  simp only [tail_DoTask, sndC, c_i_DoTask] at hfold
  unfold rest4F_DoTask rest4_DoTask
  simp only [sndC, c_i_DoTask]
  simp (config := { maxSteps := 2000000, contextual := true }) only [hfold, fillParts, or_true, true_or, Option.some.injEq, eq_self, under_slice, under_sliceN, Nat.add_assoc, Nat.add_lt_add_iff_left, Nat.lt_irrefl, clean_minEsc, clean_none, Nat.le_add_right, Nat.le_refl, Int.reduceEq, not_true_eq_false, not_false_eq_true, decide_true, decide_false, go_sem, entry, joinEsc, if_pos, reduceIte, Nat.reduceAdd, Nat.reduceLeDiff, Nat.reduceLT, Nat.reduceEqDiff]

set_option maxHeartbeats 8000000 in
theorem DoTask_k4 {q1 q2 : Nat} {c1 c2 : Option Nat} {ls : List Ld} {ss : List Sg} {a b t c : Int} (hn : ls.length ≤ 1048575) (hm : ss.length ≤ 1048575) (x : Int) (y z : Int) {isL isS : Bool} :
    rest4F_DoTask pr ⟨[stV (slL q1 ls.length c1) a b (slS q2 ss.length c2) t c, tkV 4 x y z, .ptr (some (H.length, 0)), .ptr (some (H.length + 1, 0)), .ptr (some (H.length + 2, 0)), .bool false, .ptr (some (H.length + 5, 0)), .bool false, .bool isL, .bool isS, .bool false, .undef, .undef, .undef, .undef, .undef, .undef, .undef, .undef, .undef, .undef, .undef, .undef], ⟨H ++ [.cells [slL q1 ls.length c1, .int .i64 a, .int .i64 b, slS q2 ss.length c2, .int .i64 t, .int .i64 c] true, .cells [.int .i64 4, .int .i64 x, .int .i64 y, .int .i64 z] true, .cells [.slice none 0 0 none, .int .i64 0, .int .i64 0, .slice none 0 0 none, .int .i64 0, .int .i64 0] true, .cells (encL ls) true, .cells (encS ss) true, .cells [slL (H.length + 3) (ls.length) none, .int .i64 a, .int .i64 b, slS (H.length + 4) (ss.length) none, .int .i64 t, .int .i64 c] true], none⟩⟩ = tailF_DoTask pr ⟨[stV (slL q1 ls.length c1) a b (slS q2 ss.length c2) t c, tkV 4 x y z, .ptr (some (H.length, 0)), .ptr (some (H.length + 1, 0)), .ptr (some (H.length + 2, 0)), .bool false, .ptr (some (H.length + 5, 0)), .bool (decide (z = 0)), .bool isL, .bool isS, .bool false, .int .i64 4, .bool false, .bool false, .undef, .bool false, .undef, .bool true, .undef, .undef, .undef, .undef, .undef], ⟨H ++ [.cells [slL q1 ls.length c1, .int .i64 a, .int .i64 b, slS q2 ss.length c2, .int .i64 t, .int .i64 c] true, .cells [.int .i64 4, .int .i64 x, .int .i64 y, .int .i64 z] true, .cells [.slice none 0 0 none, .int .i64 0, .int .i64 0, .slice none 0 0 none, .int .i64 0, .int .i64 0] true, .cells (encL ls) true, .cells (encS ss) true, .cells [slL (H.length + 3) (ls.length) none, .int .i64 x, .int .i64 y, slS (H.length + 4) (ss.length) none, .int .i64 t, .int .i64 c] true], none⟩⟩ := by
  have hfold := tail_fold (pr := pr)
  simp only [tail_DoTask, sndC, c_i_DoTask] at hfold
  unfold rest4F_DoTask rest4_DoTask
  simp only [sndC, c_i_DoTask]
  simp (config := { maxSteps := 2000000, contextual := true }) only [hfold, fillParts, or_true, true_or, Option.some.injEq, eq_self, under_slice, under_sliceN, Nat.add_assoc, Nat.add_lt_add_iff_left, Nat.lt_irrefl, clean_minEsc, clean_none, Nat.le_add_right, Nat.le_refl, Int.reduceEq, not_true_eq_false, not_false_eq_true, decide_true, decide_false, go_sem, entry, joinEsc, if_pos, reduceIte, Nat.reduceAdd, Nat.reduceLeDiff, Nat.reduceLT, Nat.reduceEqDiff]

set_option maxHeartbeats 8000000 in
theorem DoTask_k5 {q1 q2 : Nat} {c1 c2 : Option Nat} {ls : List Ld} {ss : List Sg} {a b t c : Int} (hn : ls.length ≤ 1048575) (hm : ss.length ≤ 1048575) (x : Int) (y z : Int) {isL isS : Bool} :
    rest4F_DoTask pr ⟨[stV (slL q1 ls.length c1) a b (slS q2 ss.length c2) t c, tkV 5 x y z, .ptr (some (H.length, 0)), .ptr (some (H.length + 1, 0)), .ptr (some (H.length + 2, 0)), .bool false, .ptr (some (H.length + 5, 0)), .bool false, .bool isL, .bool isS, .bool false, .undef, .undef, .undef, .undef, .undef, .undef, .undef, .undef, .undef, .undef, .undef, .undef], ⟨H ++ [.cells [slL q1 ls.length c1, .int .i64 a, .int .i64 b, slS q2 ss.length c2, .int .i64 t, .int .i64 c] true, .cells [.int .i64 5, .int .i64 x, .int .i64 y, .int .i64 z] true, .cells [.slice none 0 0 none, .int .i64 0, .int .i64 0, .slice none 0 0 none, .int .i64 0, .int .i64 0] true, .cells (encL ls) true, .cells (encS ss) true, .cells [slL (H.length + 3) (ls.length) none, .int .i64 a, .int .i64 b, slS (H.length + 4) (ss.length) none, .int .i64 t, .int .i64 c] true], none⟩⟩ = tailF_DoTask pr ⟨[stV (slL q1 ls.length c1) a b (slS q2 ss.length c2) t c, tkV 5 x y z, .ptr (some (H.length, 0)), .ptr (some (H.length + 1, 0)), .ptr (some (H.length + 2, 0)), .bool false, .ptr (some (H.length + 5, 0)), .bool true, .bool isL, .bool isS, .bool false, .int .i64 5, .bool false, .bool false, .undef, .bool false, .undef, .bool false, .bool true, .undef, .undef, .undef, .undef], ⟨H ++ [.cells [slL q1 ls.length c1, .int .i64 a, .int .i64 b, slS q2 ss.length c2, .int .i64 t, .int .i64 c] true, .cells [.int .i64 5, .int .i64 x, .int .i64 y, .int .i64 z] true, .cells [.slice none 0 0 none, .int .i64 0, .int .i64 0, .slice none 0 0 none, .int .i64 0, .int .i64 0] true, .cells (encL ls) true, .dead, .cells [slL (H.length + 3) (ls.length) none, .int .i64 a, .int .i64 b, slS (H.length + 7) (ss.length + 1) none, .int .i64 t, .int .i64 c] true, .cells [.int .i64 x, .int .i64 y, .int .i64 z] true, .cells (encS (ss ++ [(x, y, z)])) true], (minEsc none (H.length + 5))⟩⟩ := by
  have happ := fun L b q c e' (hb : L[b]? = some (.cells (encS ss) true)) hq => append_gen (e := e') (L := L) (b := b) (q := q) (n := ss.length) (sz := 3) (bytes := 24) (c := c) (cs := encS ss) (new := [.int .i64 x, .int .i64 y, .int .i64 z]) hb hq (encS_length ss) rfl (by unfold maxBytes; omega)
  have hap2 : encS ss ++ [AV.int .i64 x, .int .i64 y, .int .i64 z] = encS (ss ++ [(x, y, z)]) := by rw [encS_append]; rfl
  have hfold := tail_fold (pr := pr)
  simp only [tail_DoTask, sndC, c_i_DoTask] at hfold
  unfold rest4F_DoTask rest4_DoTask
  simp only [sndC, c_i_DoTask]
  simp (config := { maxSteps := 2000000, contextual := true }) only [hfold, fillParts, or_true, true_or, Option.some.injEq, eq_self, happ, hap2, under_slice, under_sliceN, Nat.add_assoc, Nat.add_lt_add_iff_left, Nat.lt_irrefl, clean_minEsc, clean_none, Nat.le_add_right, Nat.le_refl, Int.reduceEq, not_true_eq_false, not_false_eq_true, decide_true, decide_false, go_sem, entry, joinEsc, if_pos, reduceIte, Nat.reduceAdd, Nat.reduceLeDiff, Nat.reduceLT, Nat.reduceEqDiff]

set_option maxHeartbeats 8000000 in
theorem DoTask_k6 (hp : HasDelete pr) {q1 q2 : Nat} {c1 c2 : Option Nat} {ls : List Ld} {ss : List Sg} {a b t c : Int} (hn : ls.length ≤ 1048575) (hm : ss.length ≤ 1048575) {x : Nat} (hi : x < ss.length) (y z : Int) {isL isS : Bool} :
    rest4F_DoTask pr ⟨[stV (slL q1 ls.length c1) a b (slS q2 ss.length c2) t c, tkV 6 x y z, .ptr (some (H.length, 0)), .ptr (some (H.length + 1, 0)), .ptr (some (H.length + 2, 0)), .bool false, .ptr (some (H.length + 5, 0)), .bool false, .bool isL, .bool true, .bool false, .undef, .undef, .undef, .undef, .undef, .undef, .undef, .undef, .undef, .undef, .undef, .undef], ⟨H ++ [.cells [slL q1 ls.length c1, .int .i64 a, .int .i64 b, slS q2 ss.length c2, .int .i64 t, .int .i64 c] true, .cells [.int .i64 6, .int .i64 x, .int .i64 y, .int .i64 z] true, .cells [.slice none 0 0 none, .int .i64 0, .int .i64 0, .slice none 0 0 none, .int .i64 0, .int .i64 0] true, .cells (encL ls) true, .cells (encS ss) true, .cells [slL (H.length + 3) (ls.length) none, .int .i64 a, .int .i64 b, slS (H.length + 4) (ss.length) none, .int .i64 t, .int .i64 c] true], none⟩⟩ = tailF_DoTask pr ⟨[stV (slL q1 ls.length c1) a b (slS q2 ss.length c2) t c, tkV 6 x y z, .ptr (some (H.length, 0)), .ptr (some (H.length + 1, 0)), .ptr (some (H.length + 2, 0)), .bool false, .ptr (some (H.length + 5, 0)), .bool (decide (y = 0) && decide (z = 0)), .bool isL, .bool true, .bool false, .int .i64 6, .bool false, .bool false, .undef, .bool false, .undef, .bool false, .bool false, .bool true, .bool true, .undef, .undef], ⟨H ++ [.cells [slL q1 ls.length c1, .int .i64 a, .int .i64 b, slS q2 ss.length c2, .int .i64 t, .int .i64 c] true, .cells [.int .i64 6, .int .i64 x, .int .i64 y, .int .i64 z] true, .cells [.slice none 0 0 none, .int .i64 0, .int .i64 0, .slice none 0 0 none, .int .i64 0, .int .i64 0] true, .cells (encL ls) true, .dead, .cells [slL (H.length + 3) (ls.length) none, .int .i64 a, .int .i64 b, slS (H.length + 7) (ss.length - 1) none, .int .i64 t, .int .i64 c] true, .dead, .cells (encS (ss.eraseIdx x)) true], (minEsc none (H.length + 5))⟩⟩ := by
  have hdel : ∀ L e b cap, L[b]? = some (.cells (encS ss) true) → call T pr f_slices_Delete_Si_Stage_i_Stage [.slice (some (b, 0)) 3 ss.length cap, .int .i64 x, .int .i64 (x + 1 : Nat)] ⟨L, e⟩ = some (.slice (some (L.length + 1, 0)) 3 (ss.length - 1) none, ⟨L.set b .dead ++ [.dead, .cells (encS (ss.eraseIdx x)) true], e⟩) := by
    intro L e b cap hb
    rw [hp.2 L e b ss.length x cap (encS ss) hb (encS_length ss) hi, encS_erase]
  have hfold := tail_fold (pr := pr)
  simp only [tail_DoTask, sndC, c_i_DoTask] at hfold
  unfold rest4F_DoTask rest4_DoTask
  simp only [sndC, c_i_DoTask]
  by_cases hy : y = 0
  · subst hy
    simp (config := { maxSteps := 2000000, contextual := true }) only [hfold, fillParts, or_true, true_or, Option.some.injEq, eq_self, hdel, wrap_succ (show x < 9223372036854775807 by omega), under_slice, under_sliceN, Nat.add_assoc, Nat.add_lt_add_iff_left, Nat.lt_irrefl, clean_minEsc, clean_none, Nat.le_add_right, Nat.le_refl, Int.reduceEq, not_true_eq_false, not_false_eq_true, decide_true, decide_false, go_sem, entry, joinEsc, if_pos, reduceIte, Nat.reduceAdd, Nat.reduceLeDiff, Nat.reduceLT, Nat.reduceEqDiff]
  · simp (config := { maxSteps := 2000000, contextual := true }) only [hy, hfold, fillParts, or_true, true_or, Option.some.injEq, eq_self, hdel, wrap_succ (show x < 9223372036854775807 by omega), under_slice, under_sliceN, Nat.add_assoc, Nat.add_lt_add_iff_left, Nat.lt_irrefl, clean_minEsc, clean_none, Nat.le_add_right, Nat.le_refl, Int.reduceEq, not_true_eq_false, not_false_eq_true, decide_true, decide_false, go_sem, entry, joinEsc, if_pos, reduceIte, Nat.reduceAdd, Nat.reduceLeDiff, Nat.reduceLT, Nat.reduceEqDiff]

set_option maxHeartbeats 8000000 in
theorem DoTask_k6n {q1 q2 : Nat} {c1 c2 : Option Nat} {ls : List Ld} {ss : List Sg} {a b t c : Int} (hn : ls.length ≤ 1048575) (hm : ss.length ≤ 1048575) (x : Int) (y z : Int) {isL isS : Bool} :
    rest4F_DoTask pr ⟨[stV (slL q1 ls.length c1) a b (slS q2 ss.length c2) t c, tkV 6 x y z, .ptr (some (H.length, 0)), .ptr (some (H.length + 1, 0)), .ptr (some (H.length + 2, 0)), .bool false, .ptr (some (H.length + 5, 0)), .bool false, .bool isL, .bool false, .bool false, .undef, .undef, .undef, .undef, .undef, .undef, .undef, .undef, .undef, .undef, .undef, .undef], ⟨H ++ [.cells [slL q1 ls.length c1, .int .i64 a, .int .i64 b, slS q2 ss.length c2, .int .i64 t, .int .i64 c] true, .cells [.int .i64 6, .int .i64 x, .int .i64 y, .int .i64 z] true, .cells [.slice none 0 0 none, .int .i64 0, .int .i64 0, .slice none 0 0 none, .int .i64 0, .int .i64 0] true, .cells (encL ls) true, .cells (encS ss) true, .cells [slL (H.length + 3) (ls.length) none, .int .i64 a, .int .i64 b, slS (H.length + 4) (ss.length) none, .int .i64 t, .int .i64 c] true], none⟩⟩ = tailF_DoTask pr ⟨[stV (slL q1 ls.length c1) a b (slS q2 ss.length c2) t c, tkV 6 x y z, .ptr (some (H.length, 0)), .ptr (some (H.length + 1, 0)), .ptr (some (H.length + 2, 0)), .bool false, .ptr (some (H.length + 5, 0)), .bool false, .bool isL, .bool false, .bool false, .int .i64 6, .bool false, .bool false, .undef, .bool false, .undef, .bool false, .bool false, .bool true, .bool false, .undef, .undef], ⟨H ++ [.cells [slL q1 ls.length c1, .int .i64 a, .int .i64 b, slS q2 ss.length c2, .int .i64 t, .int .i64 c] true, .cells [.int .i64 6, .int .i64 x, .int .i64 y, .int .i64 z] true, .cells [.slice none 0 0 none, .int .i64 0, .int .i64 0, .slice none 0 0 none, .int .i64 0, .int .i64 0] true, .cells (encL ls) true, .cells (encS ss) true, .cells [slL (H.length + 3) (ls.length) none, .int .i64 a, .int .i64 b, slS (H.length + 4) (ss.length) none, .int .i64 t, .int .i64 c] true], none⟩⟩ := by
  have hfold := tail_fold (pr := pr)
  simp only [tail_DoTask, sndC, c_i_DoTask] at hfold
  unfold rest4F_DoTask rest4_DoTask
  simp only [sndC, c_i_DoTask]
  simp (config := { maxSteps := 2000000, contextual := true }) only [hfold, fillParts, or_true, true_or, Option.some.injEq, eq_self, under_slice, under_sliceN, Nat.add_assoc, Nat.add_lt_add_iff_left, Nat.lt_irrefl, clean_minEsc, clean_none, Nat.le_add_right, Nat.le_refl, Int.reduceEq, not_true_eq_false, not_false_eq_true, decide_true, decide_false, go_sem, entry, joinEsc, if_pos, reduceIte, Nat.reduceAdd, Nat.reduceLeDiff, Nat.reduceLT, Nat.reduceEqDiff]

set_option maxHeartbeats 8000000 in
theorem DoTask_ke {q1 q2 : Nat} {c1 c2 : Option Nat} {ls : List Ld} {ss : List Sg} {a b t c : Int} (k x y z : Int) (k1 : ¬ k = 1) (k2 : ¬ k = 2) (k3 : ¬ k = 3) (k4 : ¬ k = 4) (k5 : ¬ k = 5) (k6 : ¬ k = 6) {isL isS : Bool} :
    rest4F_DoTask pr ⟨[stV (slL q1 ls.length c1) a b (slS q2 ss.length c2) t c, tkV k x y z, .ptr (some (H.length, 0)), .ptr (some (H.length + 1, 0)), .ptr (some (H.length + 2, 0)), .bool false, .ptr (some (H.length + 5, 0)), .bool false, .bool isL, .bool isS, .bool false, .undef, .undef, .undef, .undef, .undef, .undef, .undef, .undef, .undef, .undef, .undef, .undef], ⟨H ++ [.cells [slL q1 ls.length c1, .int .i64 a, .int .i64 b, slS q2 ss.length c2, .int .i64 t, .int .i64 c] true, .cells [.int .i64 k, .int .i64 x, .int .i64 y, .int .i64 z] true, .cells [.slice none 0 0 none, .int .i64 0, .int .i64 0, .slice none 0 0 none, .int .i64 0, .int .i64 0] true, .cells (encL ls) true, .cells (encS ss) true, .cells [slL (H.length + 3) (ls.length) none, .int .i64 a, .int .i64 b, slS (H.length + 4) (ss.length) none, .int .i64 t, .int .i64 c] true], none⟩⟩ = tailF_DoTask pr ⟨[stV (slL q1 ls.length c1) a b (slS q2 ss.length c2) t c, tkV k x y z, .ptr (some (H.length, 0)), .ptr (some (H.length + 1, 0)), .ptr (some (H.length + 2, 0)), .bool false, .ptr (some (H.length + 5, 0)), .bool false, .bool isL, .bool isS, .bool false, .int .i64 k, .bool false, .bool false, .undef, .bool false, .undef, .bool false, .bool false, .bool false, .undef, .undef, .undef], ⟨H ++ [.cells [slL q1 ls.length c1, .int .i64 a, .int .i64 b, slS q2 ss.length c2, .int .i64 t, .int .i64 c] true, .cells [.int .i64 k, .int .i64 x, .int .i64 y, .int .i64 z] true, .cells [.slice none 0 0 none, .int .i64 0, .int .i64 0, .slice none 0 0 none, .int .i64 0, .int .i64 0] true, .cells (encL ls) true, .cells (encS ss) true, .cells [slL (H.length + 3) (ls.length) none, .int .i64 a, .int .i64 b, slS (H.length + 4) (ss.length) none, .int .i64 t, .int .i64 c] true], none⟩⟩ := by
  have hfold := tail_fold (pr := pr)
  simp only [tail_DoTask, sndC, c_i_DoTask] at hfold
  unfold rest4F_DoTask rest4_DoTask
  simp only [sndC, c_i_DoTask]
  simp (config := { maxSteps := 2000000, contextual := true }) only [hfold, fillParts, k1, k2, k3, k4, k5, k6, under_slice, under_sliceN, Nat.add_assoc, Nat.add_lt_add_iff_left, Nat.lt_irrefl, clean_minEsc, clean_none, Nat.le_add_right, Nat.le_refl, Int.reduceEq, not_true_eq_false, not_false_eq_true, decide_true, decide_false, go_sem, entry, joinEsc, if_pos, reduceIte, Nat.reduceAdd, Nat.reduceLeDiff, Nat.reduceLT, Nat.reduceEqDiff]

end Go.Proofs.Ytlocjmbfcdfjfaa.Slim

/- Tasks of a stand: DoTask, told whole; the law. -/
namespace Go.Proofs.Ytlocjmbfcdfjfaa.Slim

open Go

set_option linter.unusedSimpArgs false

set_option linter.unusedVariables false

variable {pr : Prims} {H : List Blk} {e : Option Nat}

theorem fin_no (B0 B1 X3 X4 B5 : Blk) (G : List Blk) (y0 y1 y2 y3 y6 : AV) (ys : List AV) (e1 : Option Nat) (hc : clean H.length e1 = true) :
    endCall a_i_DoTask ⟨H, e⟩ (some (Ex.ret, ⟨y0 :: y1 :: y2 :: y3 :: .ptr (some (H.length + 2, 0)) :: .bool false :: y6 :: ys, ⟨H ++ (B0 :: B1 :: .cells [.slice none 0 0 none, .int .i64 0, .int .i64 0, .slice none 0 0 none, .int .i64 0, .int .i64 0] true :: X3 :: X4 :: B5 :: G), e1⟩⟩)) = some (.tup [noStand, .bool false], ⟨H, e⟩) := by
  have hfN : ∀ (G : List Blk) (e0 e1 : Option Nat), clean H.length e1 = true → finish 2 H.length e0 (.tup [noStand, .bool false]) ⟨H ++ G, e1⟩ = some (.tup [noStand, .bool false], ⟨H, e0⟩) :=
    fun G e0 e1 hc => finish_standN 0 0 0 0 false e0 e1 hc
  simp +contextual only [a_i_DoTask, hfN, hc, go_sem, entry, joinEsc, if_pos, reduceIte, Nat.reduceAdd, Nat.reduceLeDiff, Nat.reduceLT, Nat.reduceEqDiff]

theorem fin_yes (B0 B1 X3 X4 B5 : Blk) (G : List Blk) (y0 y1 y2 y3 y6 : AV) (ys : List AV) (e1 : Option Nat) {j1 j2 n m : Nat} {a b t c : Int} {ls : List Ld} {ss : List Sg} (hc : clean H.length e1 = true) (hn : ls.length = n) (hm : ss.length = m) (hj : j1 ≠ j2)
    (h1 : ∀ B2, (B0 :: B1 :: B2 :: X3 :: X4 :: B5 :: G)[j1]? = some (.cells (encL ls) true)) (h2 : ∀ B2, (B0 :: B1 :: B2 :: X3 :: X4 :: B5 :: G)[j2]? = some (.cells (encS ss) true)) :
    endCall a_i_DoTask ⟨H, e⟩ (some (Ex.ret, ⟨y0 :: y1 :: y2 :: y3 :: .ptr (some (H.length + 2, 0)) :: .bool true :: y6 :: ys, ⟨H ++ (B0 :: B1 :: .cells [slL (H.length + j1) n none, .int .i64 a, .int .i64 b, slS (H.length + j2) m none, .int .i64 t, .int .i64 c] true :: X3 :: X4 :: B5 :: G), e1⟩⟩)) =
      some (.tup [stV (slL H.length n none) a b (slS (H.length + 1) m none) t c, .bool true], ⟨H ++ [.cells (encL ls) true, .cells (encS ss) true], e⟩) := by
  have hf : ∀ (B2 : Blk), finish 2 H.length e (.tup [stV (slL (H.length + j1) n none) a b (slS (H.length + j2) m none) t c, .bool true]) ⟨H ++ (B0 :: B1 :: B2 :: X3 :: X4 :: B5 :: G), e1⟩ =
      some (.tup [stV (slL H.length n none) a b (slS (H.length + 1) m none) t c, .bool true], ⟨H ++ [.cells (encL ls) true, .cells (encS ss) true], e⟩) :=
    fun B2 => finish_standB a b t c true e e1 hc (h1 B2) (h2 B2) hj (under_encL _ _) (under_encS _ _)
  simp +contextual only [a_i_DoTask, hf, go_sem, entry, joinEsc, if_pos, reduceIte, Nat.reduceAdd, Nat.reduceLeDiff, Nat.reduceLT, Nat.reduceEqDiff]

theorem DoTask_r1 {q1 q2 : Nat} {c1 c2 : Option Nat} {ls : List Ld} {ss : List Sg} {a b t c : Int} (h1 : cellsAt H q1 = some (encL ls)) (h2 : cellsAt H q2 = some (encS ss)) (hn : ls.length ≤ 1048575) (hm : ss.length ≤ 1048575) (x y z : Int) (hv : stOk ls ss a b t c = true) :
    call T pr f_i_DoTask [stV (slL q1 ls.length c1) a b (slS q2 ss.length c2) t c, tkV 1 x y z] ⟨H, e⟩ =
      doRes H e (doOk ls ss a b t c 1 x y z) (rowT ls 1 x y) (chainT ss 1 x y z) (baseA a 1 x) (baseA b 1 y) (tipsT ls a b t 1 x y) (wr (c + 1)) := by
  rw [DoTask_1 h1 h2 hn hm 1 x y z hv, DoTask_2 hn hm 1 x y z]
  unfold doRes doOk tipsT wr
  have er : rowT ls 1 x y = ls ++ [(x, y)] := by simp [rowT]
  have ec : chainT ss 1 x y z = ss := by simp [chainT]
  have ea : ∀ a x, baseA a 1 x = a := fun a x => by simp [baseA]
  rw [mayT_1, er, ec, ea, ea]
  have hrl : (ls ++ [(x, y)]).length = ls.length + 1 := by simp
  have hcl : ss.length = ss.length := rfl
  rw [DoTask_k1 hn hm x y z]
  cases hz : decide (z = 0) with
  | false =>
    rw [Bool.false_and]
    rw [tail_no (B0 := .cells [slL q1 ls.length c1, .int .i64 a, .int .i64 b, slS q2 ss.length c2, .int .i64 t, .int .i64 c] true) (B1 := .cells [.int .i64 1, .int .i64 x, .int .i64 y, .int .i64 z] true) (X3 := .dead) (X4 := (.cells (encS ss) true)) (G := [.cells [.int .i64 x, .int .i64 y] true, .cells (encL (ls ++ [(x, y)])) true]) (n := ls.length + 1) (m := ss.length) (ls := ls ++ [(x, y)]) (ss := ss) (a := a) (b := b) (t := t) (c := c) (j1 := 7) (j2 := 4) hrl hcl (by omega) (by omega) (fun _ _ => rfl) (fun _ _ => rfl) rfl]
    rw [fin_no _ _ _ _ _ _ _ _ _ _ _ _ _ (by first | rfl | simp [clean, minEsc])]
    rw [if_neg (by simp)]
  | true =>
    rw [Bool.true_and]
    cases hg : stOk (ls ++ [(x, y)]) (ss) a b t (IntKind.i64.wrap (c + 1)) with
    | false =>
      rw [tail_no (B0 := .cells [slL q1 ls.length c1, .int .i64 a, .int .i64 b, slS q2 ss.length c2, .int .i64 t, .int .i64 c] true) (B1 := .cells [.int .i64 1, .int .i64 x, .int .i64 y, .int .i64 z] true) (X3 := .dead) (X4 := (.cells (encS ss) true)) (G := [.cells [.int .i64 x, .int .i64 y] true, .cells (encL (ls ++ [(x, y)])) true]) (n := ls.length + 1) (m := ss.length) (ls := ls ++ [(x, y)]) (ss := ss) (a := a) (b := b) (t := t) (c := c) (j1 := 7) (j2 := 4) hrl hcl (by omega) (by omega) (fun _ _ => rfl) (fun _ _ => rfl) (by rw [hg, Bool.and_false])]
      rw [fin_no _ _ _ _ _ _ _ _ _ _ _ _ _ (by first | rfl | simp [clean, minEsc])]
      rw [if_neg (by simp)]
    | true =>
      rw [tail_yes (B0 := .cells [slL q1 ls.length c1, .int .i64 a, .int .i64 b, slS q2 ss.length c2, .int .i64 t, .int .i64 c] true) (B1 := .cells [.int .i64 1, .int .i64 x, .int .i64 y, .int .i64 z] true) (X3 := .dead) (X4 := (.cells (encS ss) true)) (G := [.cells [.int .i64 x, .int .i64 y] true, .cells (encL (ls ++ [(x, y)])) true]) (n := ls.length + 1) (m := ss.length) (ls := ls ++ [(x, y)]) (ss := ss) (a := a) (b := b) (t := t) (c := c) (j1 := 7) (j2 := 4) hrl hcl (by omega) (by omega) (fun _ _ => rfl) (fun _ _ => rfl) (by omega) hg]
      rw [fin_yes _ _ _ _ _ _ _ _ _ _ _ _ _ (by simp [clean, minEsc]) hrl hcl (by decide) (fun _ => rfl) (fun _ => rfl), hrl, hcl]
      rfl

theorem DoTask_r2 (hp : HasDelete pr) {q1 q2 : Nat} {c1 c2 : Option Nat} {ls : List Ld} {ss : List Sg} {a b t c : Int} (h1 : cellsAt H q1 = some (encL ls)) (h2 : cellsAt H q2 = some (encS ss)) (hn : ls.length ≤ 1048575) (hm : ss.length ≤ 1048575) (x y z : Int) (hv : stOk ls ss a b t c = true) :
    call T pr f_i_DoTask [stV (slL q1 ls.length c1) a b (slS q2 ss.length c2) t c, tkV 2 x y z] ⟨H, e⟩ =
      doRes H e (doOk ls ss a b t c 2 x y z) (rowT ls 2 x y) (chainT ss 2 x y z) (baseA a 2 x) (baseA b 2 y) (tipsT ls a b t 2 x y) (wr (c + 1)) := by
  rw [DoTask_1 h1 h2 hn hm 2 x y z hv, DoTask_2 hn hm 2 x y z]
  unfold doRes doOk tipsT wr
  have er : rowT ls 2 x y = ls.eraseIdx x.toNat := by simp [rowT]
  have ec : chainT ss 2 x y z = ss := by simp [chainT]
  have ea : ∀ a x, baseA a 2 x = a := fun a x => by simp [baseA]
  rw [mayT_2, er, ec, ea, ea]
  cases hb : (decide (0 ≤ x) && decide (x ≤ (ls.length : Int) - 1)) with
  | false =>
    have hrl : ls.length = ls.length := rfl
    have hcl : ss.length = ss.length := rfl
    rw [DoTask_k2n (isL := false) hn hm x y z, Bool.false_and, Bool.false_and, Bool.false_and]
    rw [tail_no (B0 := .cells [slL q1 ls.length c1, .int .i64 a, .int .i64 b, slS q2 ss.length c2, .int .i64 t, .int .i64 c] true) (B1 := .cells [.int .i64 2, .int .i64 x, .int .i64 y, .int .i64 z] true) (X3 := (.cells (encL ls) true)) (X4 := (.cells (encS ss) true)) (G := []) (n := ls.length) (m := ss.length) (ls := ls) (ss := ss) (a := a) (b := b) (t := t) (c := c) (j1 := 3) (j2 := 4) hrl hcl (by omega) (by omega) (fun _ _ => rfl) (fun _ _ => rfl) rfl]
    rw [fin_no _ _ _ _ _ _ _ _ _ _ _ _ _ (by first | rfl | simp [clean, minEsc])]
    rw [if_neg (by simp)]
  | true =>
    have hbb : 0 ≤ x ∧ x ≤ (ls.length : Int) - 1 := by simpa using hb
    obtain ⟨i, rfl⟩ : ∃ i : Nat, x = i := ⟨x.toNat, by omega⟩
    have hi : i < ls.length := by omega
    have hrl : (ls.eraseIdx i).length = ls.length - 1 := by rw [List.length_eraseIdx, if_pos hi]
    have hcl : ss.length = ss.length := rfl
    rw [DoTask_k2 hp (isL := false) hn hm hi y z, Int.toNat_natCast, Bool.true_and]
    cases hz : (decide (y = 0) && decide (z = 0)) with
    | false =>
      rw [Bool.false_and]
      rw [tail_no (B0 := .cells [slL q1 ls.length c1, .int .i64 a, .int .i64 b, slS q2 ss.length c2, .int .i64 t, .int .i64 c] true) (B1 := .cells [.int .i64 2, .int .i64 i, .int .i64 y, .int .i64 z] true) (X3 := .dead) (X4 := (.cells (encS ss) true)) (G := [.dead, .cells (encL (ls.eraseIdx i)) true]) (n := ls.length - 1) (m := ss.length) (ls := ls.eraseIdx i) (ss := ss) (a := a) (b := b) (t := t) (c := c) (j1 := 7) (j2 := 4) hrl hcl (by omega) (by omega) (fun _ _ => rfl) (fun _ _ => rfl) rfl]
      rw [fin_no _ _ _ _ _ _ _ _ _ _ _ _ _ (by first | rfl | simp [clean, minEsc])]
      rw [if_neg (by simp)]
    | true =>
      rw [Bool.true_and]
      cases hg : stOk (ls.eraseIdx i) (ss) a b t (IntKind.i64.wrap (c + 1)) with
      | false =>
        rw [tail_no (B0 := .cells [slL q1 ls.length c1, .int .i64 a, .int .i64 b, slS q2 ss.length c2, .int .i64 t, .int .i64 c] true) (B1 := .cells [.int .i64 2, .int .i64 i, .int .i64 y, .int .i64 z] true) (X3 := .dead) (X4 := (.cells (encS ss) true)) (G := [.dead, .cells (encL (ls.eraseIdx i)) true]) (n := ls.length - 1) (m := ss.length) (ls := ls.eraseIdx i) (ss := ss) (a := a) (b := b) (t := t) (c := c) (j1 := 7) (j2 := 4) hrl hcl (by omega) (by omega) (fun _ _ => rfl) (fun _ _ => rfl) (by rw [hg, Bool.and_false])]
        rw [fin_no _ _ _ _ _ _ _ _ _ _ _ _ _ (by first | rfl | simp [clean, minEsc])]
        rw [if_neg (by simp)]
      | true =>
        rw [tail_yes (B0 := .cells [slL q1 ls.length c1, .int .i64 a, .int .i64 b, slS q2 ss.length c2, .int .i64 t, .int .i64 c] true) (B1 := .cells [.int .i64 2, .int .i64 i, .int .i64 y, .int .i64 z] true) (X3 := .dead) (X4 := (.cells (encS ss) true)) (G := [.dead, .cells (encL (ls.eraseIdx i)) true]) (n := ls.length - 1) (m := ss.length) (ls := ls.eraseIdx i) (ss := ss) (a := a) (b := b) (t := t) (c := c) (j1 := 7) (j2 := 4) hrl hcl (by omega) (by omega) (fun _ _ => rfl) (fun _ _ => rfl) (by omega) hg]
        rw [fin_yes _ _ _ _ _ _ _ _ _ _ _ _ _ (by simp [clean, minEsc]) hrl hcl (by decide) (fun _ => rfl) (fun _ => rfl), hrl, hcl]
        rfl

theorem DoTask_r3 {q1 q2 : Nat} {c1 c2 : Option Nat} {ls : List Ld} {ss : List Sg} {a b t c : Int} (h1 : cellsAt H q1 = some (encL ls)) (h2 : cellsAt H q2 = some (encS ss)) (hn : ls.length ≤ 1048575) (hm : ss.length ≤ 1048575) (x y z : Int) (hv : stOk ls ss a b t c = true) :
    call T pr f_i_DoTask [stV (slL q1 ls.length c1) a b (slS q2 ss.length c2) t c, tkV 3 x y z] ⟨H, e⟩ =
      doRes H e (doOk ls ss a b t c 3 x y z) (rowT ls 3 x y) (chainT ss 3 x y z) (baseA a 3 x) (baseA b 3 y) (tipsT ls a b t 3 x y) (wr (c + 1)) := by
  rw [DoTask_1 h1 h2 hn hm 3 x y z hv, DoTask_2 hn hm 3 x y z]
  unfold doRes doOk tipsT wr
  have er : rowT ls 3 x y = movd ls x.toNat y := by simp [rowT]
  have ec : chainT ss 3 x y z = ss := by simp [chainT]
  have ea : ∀ a x, baseA a 3 x = a := fun a x => by simp [baseA]
  rw [mayT_3, er, ec, ea, ea]
  cases hb : (decide (0 ≤ x) && decide (x ≤ (ls.length : Int) - 1)) with
  | false =>
    have hrl : ls.length = ls.length := rfl
    have hcl : ss.length = ss.length := rfl
    rw [DoTask_k3n (isL := false) hn hm x y z, Bool.false_and, Bool.false_and]
    rw [tail_no (B0 := .cells [slL q1 ls.length c1, .int .i64 a, .int .i64 b, slS q2 ss.length c2, .int .i64 t, .int .i64 c] true) (B1 := .cells [.int .i64 3, .int .i64 x, .int .i64 y, .int .i64 z] true) (X3 := (.cells (encL ls) true)) (X4 := (.cells (encS ss) true)) (G := []) (n := ls.length) (m := ss.length) (ls := ls) (ss := ss) (a := a) (b := b) (t := t) (c := c) (j1 := 3) (j2 := 4) hrl hcl (by omega) (by omega) (fun _ _ => rfl) (fun _ _ => rfl) rfl]
    rw [fin_no _ _ _ _ _ _ _ _ _ _ _ _ _ (by first | rfl | simp [clean, minEsc])]
    rw [if_neg (by simp)]
  | true =>
    have hbb : 0 ≤ x ∧ x ≤ (ls.length : Int) - 1 := by simpa using hb
    obtain ⟨i, rfl⟩ : ∃ i : Nat, x = i := ⟨x.toNat, by omega⟩
    have hi : i < ls.length := by omega
    have hrl : (movd ls i y).length = ls.length := movd_length ls i y
    have hcl : ss.length = ss.length := rfl
    rw [DoTask_k3 (isL := false) hn hm hi y z, Int.toNat_natCast, Bool.true_and]
    cases hz : decide (z = 0) with
    | false =>
      rw [Bool.false_and]
      rw [tail_no (B0 := .cells [slL q1 ls.length c1, .int .i64 a, .int .i64 b, slS q2 ss.length c2, .int .i64 t, .int .i64 c] true) (B1 := .cells [.int .i64 3, .int .i64 i, .int .i64 y, .int .i64 z] true) (X3 := (.cells (encL (movd ls i y)) true)) (X4 := (.cells (encS ss) true)) (G := []) (n := ls.length) (m := ss.length) (ls := movd ls i y) (ss := ss) (a := a) (b := b) (t := t) (c := c) (j1 := 3) (j2 := 4) hrl hcl (by omega) (by omega) (fun _ _ => rfl) (fun _ _ => rfl) rfl]
      rw [fin_no _ _ _ _ _ _ _ _ _ _ _ _ _ (by first | rfl | simp [clean, minEsc])]
      rw [if_neg (by simp)]
    | true =>
      rw [Bool.true_and]
      cases hg : stOk (movd ls i y) (ss) a b t (IntKind.i64.wrap (c + 1)) with
      | false =>
        rw [tail_no (B0 := .cells [slL q1 ls.length c1, .int .i64 a, .int .i64 b, slS q2 ss.length c2, .int .i64 t, .int .i64 c] true) (B1 := .cells [.int .i64 3, .int .i64 i, .int .i64 y, .int .i64 z] true) (X3 := (.cells (encL (movd ls i y)) true)) (X4 := (.cells (encS ss) true)) (G := []) (n := ls.length) (m := ss.length) (ls := movd ls i y) (ss := ss) (a := a) (b := b) (t := t) (c := c) (j1 := 3) (j2 := 4) hrl hcl (by omega) (by omega) (fun _ _ => rfl) (fun _ _ => rfl) (by rw [hg, Bool.and_false])]
        rw [fin_no _ _ _ _ _ _ _ _ _ _ _ _ _ (by first | rfl | simp [clean, minEsc])]
        rw [if_neg (by simp)]
      | true =>
        rw [tail_yes (B0 := .cells [slL q1 ls.length c1, .int .i64 a, .int .i64 b, slS q2 ss.length c2, .int .i64 t, .int .i64 c] true) (B1 := .cells [.int .i64 3, .int .i64 i, .int .i64 y, .int .i64 z] true) (X3 := (.cells (encL (movd ls i y)) true)) (X4 := (.cells (encS ss) true)) (G := []) (n := ls.length) (m := ss.length) (ls := movd ls i y) (ss := ss) (a := a) (b := b) (t := t) (c := c) (j1 := 3) (j2 := 4) hrl hcl (by omega) (by omega) (fun _ _ => rfl) (fun _ _ => rfl) (by omega) hg]
        rw [fin_yes _ _ _ _ _ _ _ _ _ _ _ _ _ (by simp [clean, minEsc]) hrl hcl (by decide) (fun _ => rfl) (fun _ => rfl), hrl, hcl]
        rfl

theorem DoTask_r4 {q1 q2 : Nat} {c1 c2 : Option Nat} {ls : List Ld} {ss : List Sg} {a b t c : Int} (h1 : cellsAt H q1 = some (encL ls)) (h2 : cellsAt H q2 = some (encS ss)) (hn : ls.length ≤ 1048575) (hm : ss.length ≤ 1048575) (x y z : Int) (hv : stOk ls ss a b t c = true) :
    call T pr f_i_DoTask [stV (slL q1 ls.length c1) a b (slS q2 ss.length c2) t c, tkV 4 x y z] ⟨H, e⟩ =
      doRes H e (doOk ls ss a b t c 4 x y z) (rowT ls 4 x y) (chainT ss 4 x y z) (baseA a 4 x) (baseA b 4 y) (tipsT ls a b t 4 x y) (wr (c + 1)) := by
  rw [DoTask_1 h1 h2 hn hm 4 x y z hv, DoTask_2 hn hm 4 x y z]
  unfold doRes doOk tipsT wr
  have er : rowT ls 4 x y = ls := by simp [rowT]
  have ec : chainT ss 4 x y z = ss := by simp [chainT]
  have ea : ∀ a x, baseA a 4 x = x := fun a x => by simp [baseA]
  rw [mayT_4, er, ec, ea, ea]
  have hrl : ls.length = ls.length := rfl
  have hcl : ss.length = ss.length := rfl
  rw [DoTask_k4 hn hm x y z]
  cases hz : decide (z = 0) with
  | false =>
    rw [Bool.false_and]
    rw [tail_no (B0 := .cells [slL q1 ls.length c1, .int .i64 a, .int .i64 b, slS q2 ss.length c2, .int .i64 t, .int .i64 c] true) (B1 := .cells [.int .i64 4, .int .i64 x, .int .i64 y, .int .i64 z] true) (X3 := (.cells (encL ls) true)) (X4 := (.cells (encS ss) true)) (G := []) (n := ls.length) (m := ss.length) (ls := ls) (ss := ss) (a := x) (b := y) (t := t) (c := c) (j1 := 3) (j2 := 4) hrl hcl (by omega) (by omega) (fun _ _ => rfl) (fun _ _ => rfl) rfl]
    rw [fin_no _ _ _ _ _ _ _ _ _ _ _ _ _ (by first | rfl | simp [clean, minEsc])]
    rw [if_neg (by simp)]
  | true =>
    rw [Bool.true_and]
    cases hg : stOk (ls) (ss) x y t (IntKind.i64.wrap (c + 1)) with
    | false =>
      rw [tail_no (B0 := .cells [slL q1 ls.length c1, .int .i64 a, .int .i64 b, slS q2 ss.length c2, .int .i64 t, .int .i64 c] true) (B1 := .cells [.int .i64 4, .int .i64 x, .int .i64 y, .int .i64 z] true) (X3 := (.cells (encL ls) true)) (X4 := (.cells (encS ss) true)) (G := []) (n := ls.length) (m := ss.length) (ls := ls) (ss := ss) (a := x) (b := y) (t := t) (c := c) (j1 := 3) (j2 := 4) hrl hcl (by omega) (by omega) (fun _ _ => rfl) (fun _ _ => rfl) (by rw [hg, Bool.and_false])]
      rw [fin_no _ _ _ _ _ _ _ _ _ _ _ _ _ (by first | rfl | simp [clean, minEsc])]
      rw [if_neg (by simp)]
    | true =>
      rw [tail_yes (B0 := .cells [slL q1 ls.length c1, .int .i64 a, .int .i64 b, slS q2 ss.length c2, .int .i64 t, .int .i64 c] true) (B1 := .cells [.int .i64 4, .int .i64 x, .int .i64 y, .int .i64 z] true) (X3 := (.cells (encL ls) true)) (X4 := (.cells (encS ss) true)) (G := []) (n := ls.length) (m := ss.length) (ls := ls) (ss := ss) (a := x) (b := y) (t := t) (c := c) (j1 := 3) (j2 := 4) hrl hcl (by omega) (by omega) (fun _ _ => rfl) (fun _ _ => rfl) (by omega) hg]
      rw [fin_yes _ _ _ _ _ _ _ _ _ _ _ _ _ (by simp [clean, minEsc]) hrl hcl (by decide) (fun _ => rfl) (fun _ => rfl), hrl, hcl]
      rfl

theorem DoTask_r5 {q1 q2 : Nat} {c1 c2 : Option Nat} {ls : List Ld} {ss : List Sg} {a b t c : Int} (h1 : cellsAt H q1 = some (encL ls)) (h2 : cellsAt H q2 = some (encS ss)) (hn : ls.length ≤ 1048575) (hm : ss.length ≤ 1048575) (x y z : Int) (hv : stOk ls ss a b t c = true) :
    call T pr f_i_DoTask [stV (slL q1 ls.length c1) a b (slS q2 ss.length c2) t c, tkV 5 x y z] ⟨H, e⟩ =
      doRes H e (doOk ls ss a b t c 5 x y z) (rowT ls 5 x y) (chainT ss 5 x y z) (baseA a 5 x) (baseA b 5 y) (tipsT ls a b t 5 x y) (wr (c + 1)) := by
  rw [DoTask_1 h1 h2 hn hm 5 x y z hv, DoTask_2 hn hm 5 x y z]
  unfold doRes doOk tipsT wr
  have er : rowT ls 5 x y = ls := by simp [rowT]
  have ec : chainT ss 5 x y z = ss ++ [(x, y, z)] := by simp [chainT]
  have ea : ∀ a x, baseA a 5 x = a := fun a x => by simp [baseA]
  rw [mayT_5, er, ec, ea, ea]
  have hrl : ls.length = ls.length := rfl
  have hcl : (ss ++ [(x, y, z)]).length = ss.length + 1 := by simp
  rw [DoTask_k5 hn hm x y z, Bool.true_and]
  cases hg : stOk (ls) (ss ++ [(x, y, z)]) a b t (IntKind.i64.wrap (c + 1)) with
  | false =>
    rw [tail_no (B0 := .cells [slL q1 ls.length c1, .int .i64 a, .int .i64 b, slS q2 ss.length c2, .int .i64 t, .int .i64 c] true) (B1 := .cells [.int .i64 5, .int .i64 x, .int .i64 y, .int .i64 z] true) (X3 := (.cells (encL ls) true)) (X4 := .dead) (G := [.cells [.int .i64 x, .int .i64 y, .int .i64 z] true, .cells (encS (ss ++ [(x, y, z)])) true]) (n := ls.length) (m := ss.length + 1) (ls := ls) (ss := ss ++ [(x, y, z)]) (a := a) (b := b) (t := t) (c := c) (j1 := 3) (j2 := 7) hrl hcl (by omega) (by omega) (fun _ _ => rfl) (fun _ _ => rfl) (by rw [hg, Bool.and_false])]
    rw [fin_no _ _ _ _ _ _ _ _ _ _ _ _ _ (by first | rfl | simp [clean, minEsc])]
    rw [if_neg (by simp)]
  | true =>
    rw [tail_yes (B0 := .cells [slL q1 ls.length c1, .int .i64 a, .int .i64 b, slS q2 ss.length c2, .int .i64 t, .int .i64 c] true) (B1 := .cells [.int .i64 5, .int .i64 x, .int .i64 y, .int .i64 z] true) (X3 := (.cells (encL ls) true)) (X4 := .dead) (G := [.cells [.int .i64 x, .int .i64 y, .int .i64 z] true, .cells (encS (ss ++ [(x, y, z)])) true]) (n := ls.length) (m := ss.length + 1) (ls := ls) (ss := ss ++ [(x, y, z)]) (a := a) (b := b) (t := t) (c := c) (j1 := 3) (j2 := 7) hrl hcl (by omega) (by omega) (fun _ _ => rfl) (fun _ _ => rfl) (by omega) hg]
    rw [fin_yes _ _ _ _ _ _ _ _ _ _ _ _ _ (by simp [clean, minEsc]) hrl hcl (by decide) (fun _ => rfl) (fun _ => rfl), hrl, hcl]
    rfl

theorem DoTask_r6 (hp : HasDelete pr) {q1 q2 : Nat} {c1 c2 : Option Nat} {ls : List Ld} {ss : List Sg} {a b t c : Int} (h1 : cellsAt H q1 = some (encL ls)) (h2 : cellsAt H q2 = some (encS ss)) (hn : ls.length ≤ 1048575) (hm : ss.length ≤ 1048575) (x y z : Int) (hv : stOk ls ss a b t c = true) :
    call T pr f_i_DoTask [stV (slL q1 ls.length c1) a b (slS q2 ss.length c2) t c, tkV 6 x y z] ⟨H, e⟩ =
      doRes H e (doOk ls ss a b t c 6 x y z) (rowT ls 6 x y) (chainT ss 6 x y z) (baseA a 6 x) (baseA b 6 y) (tipsT ls a b t 6 x y) (wr (c + 1)) := by
  rw [DoTask_1 h1 h2 hn hm 6 x y z hv, DoTask_2 hn hm 6 x y z]
  unfold doRes doOk tipsT wr
  have er : rowT ls 6 x y = ls := by simp [rowT]
  have ec : chainT ss 6 x y z = ss.eraseIdx x.toNat := by simp [chainT]
  have ea : ∀ a x, baseA a 6 x = a := fun a x => by simp [baseA]
  rw [mayT_6, er, ec, ea, ea]
  cases hb : (decide (0 ≤ x) && decide (x ≤ (ss.length : Int) - 1)) with
  | false =>
    have hrl : ls.length = ls.length := rfl
    have hcl : ss.length = ss.length := rfl
    rw [DoTask_k6n (isS := false) hn hm x y z, Bool.false_and, Bool.false_and, Bool.false_and]
    rw [tail_no (B0 := .cells [slL q1 ls.length c1, .int .i64 a, .int .i64 b, slS q2 ss.length c2, .int .i64 t, .int .i64 c] true) (B1 := .cells [.int .i64 6, .int .i64 x, .int .i64 y, .int .i64 z] true) (X3 := (.cells (encL ls) true)) (X4 := (.cells (encS ss) true)) (G := []) (n := ls.length) (m := ss.length) (ls := ls) (ss := ss) (a := a) (b := b) (t := t) (c := c) (j1 := 3) (j2 := 4) hrl hcl (by omega) (by omega) (fun _ _ => rfl) (fun _ _ => rfl) rfl]
    rw [fin_no _ _ _ _ _ _ _ _ _ _ _ _ _ (by first | rfl | simp [clean, minEsc])]
    rw [if_neg (by simp)]
  | true =>
    have hbb : 0 ≤ x ∧ x ≤ (ss.length : Int) - 1 := by simpa using hb
    obtain ⟨i, rfl⟩ : ∃ i : Nat, x = i := ⟨x.toNat, by omega⟩
    have hi : i < ss.length := by omega
    have hrl : ls.length = ls.length := rfl
    have hcl : (ss.eraseIdx i).length = ss.length - 1 := by rw [List.length_eraseIdx, if_pos hi]
    rw [DoTask_k6 hp (isS := false) hn hm hi y z, Int.toNat_natCast, Bool.true_and]
    cases hz : (decide (y = 0) && decide (z = 0)) with
    | false =>
      rw [Bool.false_and]
      rw [tail_no (B0 := .cells [slL q1 ls.length c1, .int .i64 a, .int .i64 b, slS q2 ss.length c2, .int .i64 t, .int .i64 c] true) (B1 := .cells [.int .i64 6, .int .i64 i, .int .i64 y, .int .i64 z] true) (X3 := (.cells (encL ls) true)) (X4 := .dead) (G := [.dead, .cells (encS (ss.eraseIdx i)) true]) (n := ls.length) (m := ss.length - 1) (ls := ls) (ss := ss.eraseIdx i) (a := a) (b := b) (t := t) (c := c) (j1 := 3) (j2 := 7) hrl hcl (by omega) (by omega) (fun _ _ => rfl) (fun _ _ => rfl) rfl]
      rw [fin_no _ _ _ _ _ _ _ _ _ _ _ _ _ (by first | rfl | simp [clean, minEsc])]
      rw [if_neg (by simp)]
    | true =>
      rw [Bool.true_and]
      cases hg : stOk (ls) (ss.eraseIdx i) a b t (IntKind.i64.wrap (c + 1)) with
      | false =>
        rw [tail_no (B0 := .cells [slL q1 ls.length c1, .int .i64 a, .int .i64 b, slS q2 ss.length c2, .int .i64 t, .int .i64 c] true) (B1 := .cells [.int .i64 6, .int .i64 i, .int .i64 y, .int .i64 z] true) (X3 := (.cells (encL ls) true)) (X4 := .dead) (G := [.dead, .cells (encS (ss.eraseIdx i)) true]) (n := ls.length) (m := ss.length - 1) (ls := ls) (ss := ss.eraseIdx i) (a := a) (b := b) (t := t) (c := c) (j1 := 3) (j2 := 7) hrl hcl (by omega) (by omega) (fun _ _ => rfl) (fun _ _ => rfl) (by rw [hg, Bool.and_false])]
        rw [fin_no _ _ _ _ _ _ _ _ _ _ _ _ _ (by first | rfl | simp [clean, minEsc])]
        rw [if_neg (by simp)]
      | true =>
        rw [tail_yes (B0 := .cells [slL q1 ls.length c1, .int .i64 a, .int .i64 b, slS q2 ss.length c2, .int .i64 t, .int .i64 c] true) (B1 := .cells [.int .i64 6, .int .i64 i, .int .i64 y, .int .i64 z] true) (X3 := (.cells (encL ls) true)) (X4 := .dead) (G := [.dead, .cells (encS (ss.eraseIdx i)) true]) (n := ls.length) (m := ss.length - 1) (ls := ls) (ss := ss.eraseIdx i) (a := a) (b := b) (t := t) (c := c) (j1 := 3) (j2 := 7) hrl hcl (by omega) (by omega) (fun _ _ => rfl) (fun _ _ => rfl) (by omega) hg]
        rw [fin_yes _ _ _ _ _ _ _ _ _ _ _ _ _ (by simp [clean, minEsc]) hrl hcl (by decide) (fun _ => rfl) (fun _ => rfl), hrl, hcl]
        rfl

theorem DoTask_re {q1 q2 : Nat} {c1 c2 : Option Nat} {ls : List Ld} {ss : List Sg} {a b t c : Int} (h1 : cellsAt H q1 = some (encL ls)) (h2 : cellsAt H q2 = some (encS ss)) (hn : ls.length ≤ 1048575) (hm : ss.length ≤ 1048575) (k x y z : Int) (hv : stOk ls ss a b t c = true) (k1 : ¬ k = 1) (k2 : ¬ k = 2) (k3 : ¬ k = 3) (k4 : ¬ k = 4) (k5 : ¬ k = 5) (k6 : ¬ k = 6) :
    call T pr f_i_DoTask [stV (slL q1 ls.length c1) a b (slS q2 ss.length c2) t c, tkV k x y z] ⟨H, e⟩ =
      doRes H e (doOk ls ss a b t c k x y z) (rowT ls k x y) (chainT ss k x y z) (baseA a k x) (baseA b k y) (tipsT ls a b t k x y) (wr (c + 1)) := by
  rw [DoTask_1 h1 h2 hn hm k x y z hv, DoTask_2 hn hm k x y z]
  unfold doRes doOk tipsT wr
  have em : mayT ls ss k x y z = false := by simp [mayT, k1, k2, k3, k4, k5, k6]
  rw [em, Bool.false_and, DoTask_ke k x y z k1 k2 k3 k4 k5 k6]
  have hrl : ls.length = ls.length := rfl
  have hcl : ss.length = ss.length := rfl
  rw [tail_no (B0 := .cells [slL q1 ls.length c1, .int .i64 a, .int .i64 b, slS q2 ss.length c2, .int .i64 t, .int .i64 c] true) (B1 := .cells [.int .i64 k, .int .i64 x, .int .i64 y, .int .i64 z] true) (X3 := (.cells (encL ls) true)) (X4 := (.cells (encS ss) true)) (G := []) (n := ls.length) (m := ss.length) (ls := ls) (ss := ss) (a := a) (b := b) (t := t) (c := c) (j1 := 3) (j2 := 4) hrl hcl (by omega) (by omega) (fun _ _ => rfl) (fun _ _ => rfl) rfl]
  rw [fin_no _ _ _ _ _ _ _ _ _ _ _ _ _ (by first | rfl | simp [clean, minEsc])]
  rw [if_neg (by simp)]

theorem e_i_DoTask (hp : HasDelete pr) {q1 q2 : Nat} {c1 c2 : Option Nat} {ls : List Ld} {ss : List Sg} {a b t c : Int} (h1 : cellsAt H q1 = some (encL ls)) (h2 : cellsAt H q2 = some (encS ss)) (hn : ls.length ≤ 1048575) (hm : ss.length ≤ 1048575) (k x y z : Int) (hv : stOk ls ss a b t c = true) :
    call T pr f_i_DoTask [stV (slL q1 ls.length c1) a b (slS q2 ss.length c2) t c, tkV k x y z] ⟨H, e⟩ =
      doRes H e (doOk ls ss a b t c k x y z) (rowT ls k x y) (chainT ss k x y z) (baseA a k x) (baseA b k y) (tipsT ls a b t k x y) (wr (c + 1)) := by
  by_cases k1 : k = 1
  · subst k1; exact DoTask_r1 h1 h2 hn hm x y z hv
  by_cases k2 : k = 2
  · subst k2; exact DoTask_r2 hp h1 h2 hn hm x y z hv
  by_cases k3 : k = 3
  · subst k3; exact DoTask_r3 h1 h2 hn hm x y z hv
  by_cases k4 : k = 4
  · subst k4; exact DoTask_r4 h1 h2 hn hm x y z hv
  by_cases k5 : k = 5
  · subst k5; exact DoTask_r5 h1 h2 hn hm x y z hv
  by_cases k6 : k = 6
  · subst k6; exact DoTask_r6 hp h1 h2 hn hm x y z hv
  exact DoTask_re h1 h2 hn hm k x y z hv k1 k2 k3 k4 k5 k6

end Go.Proofs.Ytlocjmbfcdfjfaa.Slim

/- Tasks of a stand: the law of DoTask. -/
namespace Go.Proofs.Ytlocjmbfcdfjfaa.Slim

open Go

set_option linter.unusedSimpArgs false

set_option linter.unusedVariables false

variable {pr : Prims} {H : List Blk} {e : Option Nat}

theorem e_l_toTask (k x y z : Int) : call T pr f_l_toTask [tkV k x y z] ⟨H, e⟩ = some (tkV k x y z, ⟨H, e⟩) := by
  rw [call_eq t_l_toTask]
  simp +contextual only [a_l_toTask, c_l_toTask, fillParts, go_sem, entry, joinEsc, if_pos, reduceIte, Nat.reduceAdd, Nat.reduceLeDiff, Nat.reduceLT, Nat.reduceEqDiff]

theorem st_small {ls : List Ld} {ss : List Sg} {a b t c : Int} (h : stOk ls ss a b t c = true) : ls.length ≤ 12 ∧ ss.length ≤ 5 := by
  unfold stOk rowOk chainOk at h
  simp only [Bool.and_eq_true, decide_eq_true_eq] at h
  exact ⟨h.1.1, h.2.1.2⟩

theorem e_s_DoTask_no {q1 q2 : Nat} {c1 c2 : Option Nat} {ls : List Ld} {ss : List Sg} (h1 : cellsAt H q1 = some (encL ls)) (h2 : cellsAt H q2 = some (encS ss)) (hm : ss.length ≤ 1048576) (a b t c k x y z : Int) (hv : stOk ls ss a b t c = false) :
    call T pr f_s_DoTask [stV (slL q1 ls.length c1) a b (slS q2 ss.length c2) t c, tkV k x y z] ⟨H, e⟩ = some (.tup [noStand, .bool false], ⟨H, e⟩) := by
  have hfN : ∀ (G : List Blk) (e0 e1 : Option Nat), clean H.length e1 = true → finish 2 H.length e0 (.tup [noStand, .bool false]) ⟨H ++ G, e1⟩ = some (.tup [noStand, .bool false], ⟨H, e0⟩) :=
    fun G e0 e1 hc => finish_standN 0 0 0 0 false e0 e1 hc
  have hgood := fun G => good_at (pr := pr) (e := none) (c1 := c1) (c2 := c2) (ls := ls) (ss := ss) rfl rfl hm a b t c (cells_mono h1 G) (cells_mono h2 G)
  rw [hv] at hgood
  rw [call_eq t_s_DoTask]
  simp +contextual only [a_s_DoTask, c_s_DoTask, fillParts, hgood, hfN, under_sliceN, clean_minEsc, clean_none, Nat.le_add_right, decide_true, go_sem, entry, joinEsc, if_pos, reduceIte, Nat.reduceAdd, Nat.reduceLeDiff, Nat.reduceLT, Nat.reduceEqDiff]

theorem e_i_DoTask_no {q1 q2 : Nat} {c1 c2 : Option Nat} {ls : List Ld} {ss : List Sg} (h1 : cellsAt H q1 = some (encL ls)) (h2 : cellsAt H q2 = some (encS ss)) (hm : ss.length ≤ 1048576) (a b t c k x y z : Int) (hv : stOk ls ss a b t c = false) :
    call T pr f_i_DoTask [stV (slL q1 ls.length c1) a b (slS q2 ss.length c2) t c, tkV k x y z] ⟨H, e⟩ = some (.tup [noStand, .bool false], ⟨H, e⟩) := by
  have hfN : ∀ (G : List Blk) (e0 e1 : Option Nat), clean H.length e1 = true → finish 2 H.length e0 (.tup [noStand, .bool false]) ⟨H ++ G, e1⟩ = some (.tup [noStand, .bool false], ⟨H, e0⟩) :=
    fun G e0 e1 hc => finish_standN 0 0 0 0 false e0 e1 hc
  have his := fun G => isStand_at (pr := pr) (e := none) (c1 := c1) (c2 := c2) (ls := ls) (ss := ss) rfl rfl hm a b t c (cells_mono h1 G) (cells_mono h2 G)
  rw [hv] at his
  rw [call_eq t_i_DoTask]
  simp +contextual only [a_i_DoTask, c_i_DoTask, fillParts, his, hfN, under_sliceN, clean_minEsc, clean_none, Nat.le_add_right, decide_true, go_sem, entry, joinEsc, if_pos, reduceIte, Nat.reduceAdd, Nat.reduceLeDiff, Nat.reduceLT, Nat.reduceEqDiff]

theorem e_s_DoTask {q1 q2 : Nat} {c1 c2 : Option Nat} {ls : List Ld} {ss : List Sg} (h1 : cellsAt H q1 = some (encL ls)) (h2 : cellsAt H q2 = some (encS ss)) (a b t c k x y z : Int) (hv : stOk ls ss a b t c = true) :
    call T pr f_s_DoTask [stV (slL q1 ls.length c1) a b (slS q2 ss.length c2) t c, tkV k x y z] ⟨H, e⟩ =
      doRes H e (doOk ls ss a b t c k x y z) (rowT ls k x y) (chainT ss k x y z) (baseA a k x) (baseA b k y) (tipsT ls a b t k x y) (wr (c + 1)) := by
  have hs := st_small hv
  have hfN : ∀ (G : List Blk) (e0 e1 : Option Nat), clean H.length e1 = true → finish 2 H.length e0 (.tup [noStand, .bool false]) ⟨H ++ G, e1⟩ = some (.tup [noStand, .bool false], ⟨H, e0⟩) :=
    fun G e0 e1 hc => finish_standN 0 0 0 0 false e0 e1 hc
  have hgood := fun G => good_at (pr := pr) (e := none) (c1 := c1) (c2 := c2) (ls := ls) (ss := ss) rfl rfl (by omega) a b t c (cells_mono h1 G) (cells_mono h2 G)
  rw [hv] at hgood
  have hdo := fun G => e_s_l12Do (pr := pr) (e := none) (H := H ++ G) (c1 := c1) (c2 := c2) (cells_mono h1 G) (cells_mono h2 G) (by omega) (by omega) a b t c k x y z
  unfold doRes at hdo ⊢
  generalize rowT ls k x y = ls' at hdo ⊢
  generalize chainT ss k x y z = ss' at hdo ⊢
  generalize baseA a k x = a' at hdo ⊢
  generalize baseA b k y = b' at hdo ⊢
  generalize tipsT ls a b t k x y = t' at hdo ⊢
  generalize wr (c + 1) = c' at hdo ⊢
  have hf : ∀ (B0 B1 B2 : Blk) (e0 e1 : Option Nat), clean H.length e1 = true → finish 2 H.length e0 (.tup [stV (slL (H.length + 3) ls'.length none) a' b' (slS (H.length + 4) ss'.length none) t' c', .bool true]) ⟨H ++ [B0, B1, B2, .cells (encL ls') true, .cells (encS ss') true], e1⟩ =
      some (.tup [stV (slL H.length ls'.length none) a' b' (slS (H.length + 1) ss'.length none) t' c', .bool true], ⟨H ++ [.cells (encL ls') true, .cells (encS ss') true], e0⟩) :=
    fun B0 B1 B2 e0 e1 hc => finish_standB a' b' t' c' true e0 e1 hc rfl rfl (by decide) (under_encL _ _) (under_encS _ _)
  rw [call_eq t_s_DoTask]
  cases hk : doOk ls ss a b t c k x y z with
  | false =>
    simp only [hk, Bool.false_eq_true, if_false] at hdo
    simp +contextual only [a_s_DoTask, c_s_DoTask, fillParts, hgood, hdo, hfN, under_sliceN, clean_minEsc, clean_none, Nat.le_add_right, decide_true, go_sem, entry, joinEsc, if_pos, reduceIte, Nat.reduceAdd, Nat.reduceLeDiff, Nat.reduceLT, Nat.reduceEqDiff]
  | true =>
    simp only [hk, if_true] at hdo
    simp +contextual only [a_s_DoTask, c_s_DoTask, fillParts, hgood, hdo, hf, under_slice, under_sliceN, Nat.add_assoc, Nat.add_lt_add_iff_left, Nat.lt_irrefl, decide_false, clean_minEsc, clean_none, Nat.le_add_right, Nat.le_refl, decide_true, go_sem, entry, joinEsc, if_pos, reduceIte, Nat.reduceAdd, Nat.reduceLeDiff, Nat.reduceLT, Nat.reduceEqDiff]

theorem law_DoTask (hp : HasDelete pr) {row chain : AV} {ls : List Ld} {ss : List Sg} (ha : ArgL H row ls) (hs : ArgS H chain ss) (a b t k kd x y z : Int) : ∃ m', call T pr f_l_FnExactDoTask [stV row a b chain t k, tkV kd x y z] ⟨H, none⟩ = some (.bool true, m') := by
  refine ⟨⟨H, none⟩, ?_⟩
  have hsz : ∀ G e', call T pr f_l_szStand [stV row a b chain t k, .int .i64 1048576] ⟨G, e'⟩ = some (.int .i64 (if ls.length + ss.length ≤ 1048576 then 1048576 - ((ls.length + ss.length : Nat) : Int) else -1), ⟨G, e'⟩) := by
    obtain ⟨p, sz, c, rfl, h2, h3⟩ := ha
    obtain ⟨p', sz', c', rfl, h2', h3'⟩ := hs
    exact fun G e' => e_l_szStand h2 h2' a b t k
  rw [call_eq t_l_FnExactDoTask]
  by_cases hn : ls.length + ss.length ≤ 1048576
  · have hneg : ¬ (1048576 - ((ls.length + ss.length : Nat) : Int) < 0) := by omega
    have hto := fun G => e_l_toStand (pr := pr) (e := none) (ha.more G) (hs.more G) (by omega) (by omega) a b t k
    have hn1 : ls.length ≤ 1048576 := by omega
    have hm1 : ss.length ≤ 1048576 := by omega
    have heq : ∀ L q1 q2 k1 k2 q3 q4 k3 k4, cellsAt L q1 = some (encL ls) → cellsAt L q2 = some (encL ls) → cellsAt L q3 = some (encS ss) → cellsAt L q4 = some (encS ss) → call T pr f_l_eqStand [stV (slL q1 ls.length k1) a b (slS q3 ss.length k3) t k, stV (slL q2 ls.length k2) a b (slS q4 ss.length k4) t k] ⟨L, none⟩ = some (.bool true, ⟨L, none⟩) :=
      fun L q1 q2 k1 k2 q3 q4 k3 k4 h1 h2 h3 h4 => e_l_eqStand (fun G => e_l_eqLoadS (cells_mono h1 G) (cells_mono h2 G) (by omega)) (fun G => e_l_eqStageS (cells_mono h3 G) (cells_mono h4 G) (by omega)) a b t k
    have hmark : ∀ L q1 q2 c1 c2, q1 ≠ q2 → L[q1]? = some (.cells (encL ls) true) → L[q2]? = some (.cells (encS ss) true) → call T pr f_l_markStand [stV (slL q1 ls.length c1) a b (slS q2 ss.length c2) t k, .int .i64 1] ⟨L, none⟩ = some (.int .i64 ((1 + ls.length * 2 + ss.length * 3 : Nat) : Int), ⟨markMem L q1 q2 ls.length ss.length 1, none⟩) :=
      fun L q1 q2 c1 c2 hne h1 h2 => e_l_markStand h1 h2 hne hn1 hm1 a b t k 1 (by omega)
    have hk0 : ¬ (((1 + ls.length * 2 + ss.length * 3 : Nat) : Int) < 0) := by omega
    have hk0' : ¬ (((1 + (ls.length * 2 + ss.length * 3) : Nat) : Int) < 0) := by omega
    have h10 : ¬ ((1 : Int) < 0) := by omega
    have hno : ∀ (hsi : ∀ L q q' c c', cellsAt L q = some (encL ls) → cellsAt L q' = some (encS ss) → call T pr f_s_DoTask [stV (slL q ls.length c) a b (slS q' ss.length c') t k, tkV kd x y z] ⟨L, none⟩ = some (.tup [noStand, .bool false], ⟨L, none⟩))
        (hii : ∀ L q q' c c', cellsAt L q = some (encL ls) → cellsAt L q' = some (encS ss) → call T pr f_i_DoTask [stV (slL q ls.length c) a b (slS q' ss.length c') t k, tkV kd x y z] ⟨L, none⟩ = some (.tup [noStand, .bool false], ⟨L, none⟩)),
        endCall a_l_FnExactDoTask ⟨H, none⟩ (run T pr a_l_FnExactDoTask.code ⟨entry a_l_FnExactDoTask [stV row a b chain t k, tkV kd x y z], ⟨H, none⟩⟩) = some (.bool true, ⟨H, none⟩) := by
      intro hsi hii
      have heqn := fun L p1 p2 p3 p4 s1 s2 s3 s4 k1 k2 k3 k4 x y z w => e_l_eqStand (pr := pr) (H := L) (e := none) (r1 := .slice p1 s1 0 k1) (r2 := .slice p2 s2 0 k2) (c1 := .slice p3 s3 0 k3) (c2 := .slice p4 s4 0 k4) (fun G => e_l_eqLoadS_none) (fun G => e_l_eqStageS_none) x y z w
      have hheld := fun L p1 p2 s1 s2 c1 c2 x y z w => e_l_heldStand_none (pr := pr) (H := L) (e := none) (p1 := p1) (p2 := p2) (s1 := s1) (s2 := s2) (c1 := c1) (c2 := c2) x y z w 1 (by omega)
      simp +contextual only [a_l_FnExactDoTask, c_l_FnExactDoTask, hsz, hn, hneg, hto, e_l_toTask, hsi, hii, heq, heqn, hheld, e_l_markStand_none, hmark, hk0, hk0', h10, markMem_new, ne_eq, Nat.add_right_inj, Nat.add_left_cancel_iff, Nat.reduceEqDiff, not_false_eq_true, under_slice, under_sliceN, Nat.add_assoc, Nat.add_lt_add_iff_left, Nat.lt_add_right_iff_pos, decide_true, decide_false, beq_self_eq_true, go_sem, entry, joinEsc, if_pos, reduceIte, Nat.reduceAdd, Nat.reduceLeDiff, Nat.reduceLT, Nat.reduceEqDiff]
    cases hv : stOk ls ss a b t k with
    | false =>
      exact hno (fun L q q' c c' h1 h2 => e_s_DoTask_no h1 h2 hm1 a b t k kd x y z hv) (fun L q q' c c' h1 h2 => e_i_DoTask_no h1 h2 hm1 a b t k kd x y z hv)
    | true =>
      have hsm := st_small hv
      cases hd : doOk ls ss a b t k kd x y z with
      | false =>
        refine hno (fun L q q' c c' h1 h2 => ?_) (fun L q q' c c' h1 h2 => ?_)
        · rw [e_s_DoTask h1 h2 a b t k kd x y z hv, hd]; rfl
        · rw [e_i_DoTask hp h1 h2 (by omega) (by omega) kd x y z hv, hd]; rfl
      | true =>
        have hsi := fun L q q' c c' h1 h2 => e_s_DoTask (pr := pr) (H := L) (e := none) (q1 := q) (q2 := q') (c1 := c) (c2 := c') (ls := ls) (ss := ss) h1 h2 a b t k kd x y z hv
        have hii := fun L q q' c c' h1 h2 => e_i_DoTask (pr := pr) (H := L) (e := none) hp (q1 := q) (q2 := q') (c1 := c) (c2 := c') (ls := ls) (ss := ss) h1 h2 (by omega) (by omega) kd x y z hv
        simp only [hd, doRes, if_true] at hsi hii
        have hr1 := rowT_length ls kd x y
        have hc1 := chainT_length ss kd x y z
        generalize rowT ls kd x y = ls' at hsi hii hr1
        generalize chainT ss kd x y z = ss' at hsi hii hc1
        generalize baseA a kd x = a' at hsi hii
        generalize baseA b kd y = b' at hsi hii
        generalize tipsT ls a b t kd x y = t' at hsi hii
        generalize wr (k + 1) = c' at hsi hii
        have heqr : ∀ L q1 q2 k1 k2 q3 q4 k3 k4, cellsAt L q1 = some (encL ls') → cellsAt L q2 = some (encL ls') → cellsAt L q3 = some (encS ss') → cellsAt L q4 = some (encS ss') → call T pr f_l_eqStand [stV (slL q1 ls'.length k1) a' b' (slS q3 ss'.length k3) t' c', stV (slL q2 ls'.length k2) a' b' (slS q4 ss'.length k4) t' c'] ⟨L, none⟩ = some (.bool true, ⟨L, none⟩) :=
          fun L q1 q2 k1 k2 q3 q4 k3 k4 h1 h2 h3 h4 => e_l_eqStand (fun G => e_l_eqLoadS (cells_mono h1 G) (cells_mono h2 G) (by omega)) (fun G => e_l_eqStageS (cells_mono h3 G) (cells_mono h4 G) (by omega)) a' b' t' c'
        have hmarkr : ∀ L q1 q2 c1 c2, q1 ≠ q2 → L[q1]? = some (.cells (encL ls') true) → L[q2]? = some (.cells (encS ss') true) → call T pr f_l_markStand [stV (slL q1 ls'.length c1) a' b' (slS q2 ss'.length c2) t' c', .int .i64 1] ⟨L, none⟩ = some (.int .i64 ((1 + ls'.length * 2 + ss'.length * 3 : Nat) : Int), ⟨markMem L q1 q2 ls'.length ss'.length 1, none⟩) :=
          fun L q1 q2 c1 c2 hne h1 h2 => e_l_markStand h1 h2 hne (by omega) (by omega) a' b' t' c' 1 (by omega)
        have hheld : ∀ L q1 q2 c1 c2, cellsAt L q1 = some (encL (markedL 1 ls'.length)) → cellsAt L q2 = some (encS (markedS (1 + ls'.length * 2) ss'.length)) → call T pr f_l_heldStand [stV (slL q1 ls'.length c1) a' b' (slS q2 ss'.length c2) t' c', .int .i64 1] ⟨L, none⟩ = some (.int .i64 ((1 + ls'.length * 2 + ss'.length * 3 : Nat) : Int), ⟨L, none⟩) :=
          fun L q1 q2 c1 c2 h1 h2 => e_l_heldStand (x := 1) h1 h2 (by omega) (by omega) a' b' t' c' (by omega)
        have hk1 : ¬ (((1 + ls'.length * 2 + ss'.length * 3 : Nat) : Int) < 0) := by omega
        have hk1' : ¬ (((1 + (ls'.length * 2 + ss'.length * 3) : Nat) : Int) < 0) := by omega
        simp +contextual only [a_l_FnExactDoTask, c_l_FnExactDoTask, hsz, hn, hneg, hto, e_l_toTask, hsi, hii, heq, heqr, hheld, hmarkr, hmark, hk0, hk0', hk1, hk1', h10, markMem_new, ne_eq, Nat.add_right_inj, Nat.add_left_cancel_iff, Nat.reduceEqDiff, not_false_eq_true, under_slice, under_sliceN, Nat.add_assoc, Nat.add_lt_add_iff_left, Nat.lt_add_right_iff_pos, decide_true, decide_false, beq_self_eq_true, go_sem, entry, joinEsc, if_pos, reduceIte, Nat.reduceAdd, Nat.reduceLeDiff, Nat.reduceLT, Nat.reduceEqDiff]
  · simp +contextual only [a_l_FnExactDoTask, c_l_FnExactDoTask, hsz, hn, decide_true, show ((-1 : Int) < 0) by omega, go_sem, entry, joinEsc, if_pos, reduceIte, Nat.reduceAdd, Nat.reduceLeDiff, Nat.reduceLT, Nat.reduceEqDiff]

end Go.Proofs.Ytlocjmbfcdfjfaa.Slim

/- The slim machine: walking by what holds at the end; loops by invariants. -/
namespace Go.Proofs.Ytlocjmbfcdfjfaa.Slim
open Go
set_option linter.unusedVariables false
set_option linter.unusedSimpArgs false

section
variable {T : Table} {pr : Prims} {H : List Blk} {e : Option Nat}

/-- code comes to an end, of which this holds -/
def Wp (r : Option (Ex × St)) (Q : Ex → St → Prop) : Prop := ∃ ex st, r = some (ex, st) ∧ Q ex st
/-- a call (or an operation) comes to an end, of which this holds -/
def Wc (r : Option (AV × Mem)) (Q : AV → Mem → Prop) : Prop := ∃ v m, r = some (v, m) ∧ Q v m

theorem Wp.mono {r : Option (Ex × St)} {P Q : Ex → St → Prop} (h : Wp r P) (k : ∀ ex st, P ex st → Q ex st) : Wp r Q := by
  obtain ⟨ex, st, h1, h2⟩ := h
  exact ⟨ex, st, h1, k _ _ h2⟩
theorem Wc.mono {r : Option (AV × Mem)} {P Q : AV → Mem → Prop} (h : Wc r P) (k : ∀ v m, P v m → Q v m) : Wc r Q := by
  obtain ⟨v, m, h1, h2⟩ := h
  exact ⟨v, m, h1, k _ _ h2⟩
theorem Wc.eq {r : Option (AV × Mem)} {v : AV} {m : Mem} (h : Wc r fun v' m' => v' = v ∧ m' = m) : r = some (v, m) := by
  obtain ⟨_, _, h1, rfl, rfl⟩ := h
  exact h1
theorem Wc.of_eq {r : Option (AV × Mem)} {v : AV} {m : Mem} {Q : AV → Mem → Prop} (h : r = some (v, m)) (k : Q v m) : Wc r Q := ⟨v, m, h, k⟩

@[congr] theorem Wp_congr {r r' : Option (Ex × St)} {Q : Ex → St → Prop} (h : r = r') : Wp r Q = Wp r' Q := by rw [h]
@[congr] theorem Wc_congr {r r' : Option (AV × Mem)} {Q : AV → Mem → Prop} (h : r = r') : Wc r Q = Wc r' Q := by rw [h]

theorem Wp_some (ex : Ex) (st : St) (Q : Ex → St → Prop) : Wp (some (ex, st)) Q = Q ex st := by
  apply propext
  constructor
  · rintro ⟨_, _, h1, h2⟩; cases h1; exact h2
  · exact fun h => ⟨_, _, rfl, h⟩
theorem Wp_none (Q : Ex → St → Prop) : Wp none Q = False := by
  apply propext
  constructor
  · rintro ⟨_, _, h1, _⟩; cases h1
  · exact False.elim
theorem Wp_ite (c : Prop) [Decidable c] (a b : Option (Ex × St)) (Q : Ex → St → Prop) : Wp (if c then a else b) Q = ((c → Wp a Q) ∧ (¬ c → Wp b Q)) := by
  by_cases h : c <;> simp [h]
theorem Wc_some (v : AV) (m : Mem) (Q : AV → Mem → Prop) : Wc (some (v, m)) Q = Q v m := by
  apply propext
  constructor
  · rintro ⟨_, _, h1, h2⟩; cases h1; exact h2
  · exact fun h => ⟨_, _, rfl, h⟩
theorem Wc_none (Q : AV → Mem → Prop) : Wc none Q = False := by
  apply propext
  constructor
  · rintro ⟨_, _, h1, _⟩; cases h1
  · exact False.elim
theorem Wc_ite (c : Prop) [Decidable c] (a b : Option (AV × Mem)) (Q : AV → Mem → Prop) : Wc (if c then a else b) Q = ((c → Wc a Q) ∧ (¬ c → Wc b Q)) := by
  by_cases h : c <;> simp [h]

def seqQ (f : St → Option (Ex × St)) (Q : Ex → St → Prop) : Ex → St → Prop
  | .normal, st => Wp (f st) Q
  | ex, st => Q ex st
theorem seqQ_normal (f : St → Option (Ex × St)) (Q : Ex → St → Prop) (st : St) : seqQ f Q .normal st = Wp (f st) Q := Eq.trans rfl rfl
theorem seqQ_exit (f : St → Option (Ex × St)) (Q : Ex → St → Prop) (k : Nat) (st : St) : seqQ f Q (.exit k) st = Q (.exit k) st := Eq.trans rfl rfl
theorem seqQ_ret (f : St → Option (Ex × St)) (Q : Ex → St → Prop) (st : St) : seqQ f Q .ret st = Q .ret st := Eq.trans rfl rfl
theorem Wp_thenRun (r : Option (Ex × St)) (f : St → Option (Ex × St)) (Q : Ex → St → Prop) : Wp (thenRun r f) Q = Wp r (seqQ f Q) := by
  cases r with
  | none => simp only [thenRun_none, Wp_none]
  | some p =>
    obtain ⟨ex, st⟩ := p
    cases ex <;> simp only [thenRun_normal, thenRun_ret, thenRun_exit, Wp_some, seqQ]

def blkQ (id : Nat) (Q : Ex → St → Prop) : Ex → St → Prop
  | .exit k, st => if k = id then Q .normal st else Q (.exit k) st
  | ex, st => Q ex st
theorem blkQ_normal (id : Nat) (Q : Ex → St → Prop) (st : St) : blkQ id Q .normal st = Q .normal st := Eq.trans rfl rfl
theorem blkQ_ret (id : Nat) (Q : Ex → St → Prop) (st : St) : blkQ id Q .ret st = Q .ret st := Eq.trans rfl rfl
theorem blkQ_same (id : Nat) (Q : Ex → St → Prop) (st : St) : blkQ id Q (.exit id) st = Q .normal st := by simp [blkQ]
theorem blkQ_exit (id k : Nat) (Q : Ex → St → Prop) (st : St) : blkQ id Q (.exit k) st = if k = id then Q .normal st else Q (.exit k) st := Eq.trans rfl rfl
theorem Wp_inBlock (id : Nat) (r : Option (Ex × St)) (Q : Ex → St → Prop) : Wp (inBlock id r) Q = Wp r (blkQ id Q) := by
  cases r with
  | none => simp only [inBlock_none, Wp_none]
  | some p =>
    obtain ⟨ex, st⟩ := p
    cases ex with
    | normal => simp only [inBlock_normal, Wp_some, blkQ]
    | ret => simp only [inBlock_ret, Wp_some, blkQ]
    | exit k => by_cases h : k = id <;> simp only [inBlock_exit, h, if_true, if_false, Wp_some, blkQ]

/-- behind a region's operation -/
def opQ (tm : List AV) (outs : List (Nat × Nat)) (f : AV → Mem → Option (List AV × Mem)) (Q : Ex → St → Prop) : AV → Mem → Prop := fun v m => Wp (outRun tm outs (f v m)) Q
theorem opQ_at (tm : List AV) (outs : List (Nat × Nat)) (f : AV → Mem → Option (List AV × Mem)) (Q : Ex → St → Prop) (v : AV) (m : Mem) : opQ tm outs f Q v m = Wp (outRun tm outs (f v m)) Q := Eq.trans rfl rfl
theorem Wp_opThen (tm : List AV) (outs : List (Nat × Nat)) (r : Option (AV × Mem)) (f : AV → Mem → Option (List AV × Mem)) (Q : Ex → St → Prop) :
    Wp (outRun tm outs (opThen r f)) Q = Wc r (opQ tm outs f Q) := by
  cases r with
  | none => simp only [opThen_none, outRun_none, Wp_none, Wc_none]
  | some p =>
    obtain ⟨v, m⟩ := p
    simp only [opThen_some, Wc_some, opQ]

/-- behind a guarded operation -/
theorem Wp_guardP (tm : List AV) (outs : List (Nat × Nat)) (p : Prop) [Decidable p] (r : Option (AV × Mem)) (m : Mem) (f : AV → Mem → Option (List AV × Mem)) (Q : Ex → St → Prop) :
    Wp (outRun tm outs (guardP p r m f)) Q = ((p → Wc r (opQ tm outs f Q)) ∧ (¬ p → Wp (outRun tm outs (f (.tup []) m)) Q)) := by
  by_cases h : p
  · simp only [h, guardP_true, Wp_opThen, true_imp_iff, not_true_eq_false, false_imp_iff, and_true]
  · simp only [h, guardP_false, not_false_eq_true, true_imp_iff, false_imp_iff, true_and]

/-- behind a call's code -/
def retQ (F : AFun) (m : Mem) (Q : AV → Mem → Prop) : Ex → St → Prop
  | .exit _, _ => False
  | _, st => Wc (finRun F m st) Q
theorem retQ_normal (F : AFun) (m : Mem) (Q : AV → Mem → Prop) (st : St) : retQ F m Q .normal st = Wc (finRun F m st) Q := Eq.trans rfl rfl
theorem retQ_ret (F : AFun) (m : Mem) (Q : AV → Mem → Prop) (st : St) : retQ F m Q .ret st = Wc (finRun F m st) Q := Eq.trans rfl rfl
theorem Wc_endCall (F : AFun) (m : Mem) (r : Option (Ex × St)) (Q : AV → Mem → Prop) : Wc (endCall F m r) Q = Wp r (retQ F m Q) := by
  cases r with
  | none => simp only [endCall_none, Wc_none, Wp_none]
  | some p =>
    obtain ⟨ex, st⟩ := p
    cases ex <;> simp only [endCall_normal, endCall_ret, endCall_exit, Wc_none, Wp_some, retQ]

theorem call_wc {f : FuncId} {F : AFun} (h : T f = some F) (args : List AV) (m : Mem) (Q : AV → Mem → Prop) : Wc (call T pr f args m) Q = Wp (run T pr F.code ⟨entry F args, { m with esc := none }⟩) (retQ F m Q) := by
  rw [call_eq h, Wc_endCall]

/-! loops -/
/-- what a loop's round must bring -/
abbrev Holds (I : St → Prop) (st : St) : Prop := I st
@[congr] theorem Holds_congr {I : St → Prop} {st st' : St} (h : st = st') : Holds I st = Holds I st' := by rw [h]
def loopQ (I : St → Prop) (Q : Ex → St → Prop) : Ex → St → Prop
  | .normal, st => Holds I st
  | ex, st => Q ex st
theorem loopQ_normal (I : St → Prop) (Q : Ex → St → Prop) (st : St) : loopQ I Q .normal st = Holds I st := Eq.trans rfl rfl
theorem loopQ_exit (I : St → Prop) (Q : Ex → St → Prop) (k : Nat) (st : St) : loopQ I Q (.exit k) st = Q (.exit k) st := Eq.trans rfl rfl
theorem loopQ_ret (I : St → Prop) (Q : Ex → St → Prop) (st : St) : loopQ I Q .ret st = Q .ret st := Eq.trans rfl rfl

theorem Wp_loop {b : ACode} {Q : Ex → St → Prop} (I : Nat → St → Prop) (hs : ∀ k st, I k st → Wp (run T pr b st) (loopQ (fun st' => ∃ j, j < k ∧ I j st') Q)) :
    ∀ (n : Nat) (st : St), I n st → Wp (run T pr (.loop b) st) Q := by
  intro n
  induction n using Nat.strongRecOn with
  | _ n ih =>
    intro st h
    rw [run_loop, Wp_thenRun]
    refine (hs n st h).mono fun ex st' h' => ?_
    cases ex with
    | normal =>
      obtain ⟨j, hj, hI⟩ := h'
      exact ih j hj st' hI
    | exit k => exact h'
    | ret => exact h'

/-! the end of a call that keeps what its result names -/
theorem roots_slice_new (sz n o k : Nat) (c : Option Nat) : AV.roots H.length (.slice (some (H.length + k, o)) sz n c) = [H.length + k] := by simp [AV.roots]
theorem roots_slice_new0 (sz n o : Nat) (c : Option Nat) : AV.roots H.length (.slice (some (H.length, o)) sz n c) = [H.length] := by simp [AV.roots]
theorem roots_slice_none (lim sz n : Nat) (c : Option Nat) : AV.roots lim (.slice none sz n c) = [] := by simp [AV.roots]
theorem roots_slice_old {lim b : Nat} (sz n o : Nat) (c : Option Nat) (h : b < lim) : AV.roots lim (.slice (some (b, o)) sz n c) = [] := by simp [AV.roots, h]
theorem roots_ptr_new (o k : Nat) : AV.roots H.length (.ptr (some (H.length + k, o))) = [H.length + k] := by simp [AV.roots]
theorem roots_ptr_new0 (o : Nat) : AV.roots H.length (.ptr (some (H.length, o))) = [H.length] := by simp [AV.roots]
theorem roots_int (lim : Nat) (k : IntKind) (x : Int) : AV.roots lim (.int k x) = [] := by simp [AV.roots]
theorem roots_bool (lim : Nat) (x : Bool) : AV.roots lim (.bool x) = [] := by simp [AV.roots]
theorem roots_str (lim : Nat) (x : ByteArray) : AV.roots lim (.str x) = [] := by simp [AV.roots]
theorem roots_agg (lim : Nat) (cs : List AV) : AV.roots lim (.agg cs) = AV.roots.go lim cs := by simp [AV.roots]
theorem roots_tup (lim : Nat) (cs : List AV) : AV.roots lim (.tup cs) = AV.roots.go lim cs := by simp [AV.roots]
theorem roots_cons (lim : Nat) (c : AV) (cs : List AV) : AV.roots.go lim (c :: cs) = AV.roots lim c ++ AV.roots.go lim cs := by simp [AV.roots.go]
theorem roots_nil (lim : Nat) : AV.roots.go lim [] = [] := by simp [AV.roots.go]
theorem rename_slice (f : Nat → Nat) (b o sz n : Nat) (c : Option Nat) : AV.rename f (.slice (some (b, o)) sz n c) = .slice (some (f b, o)) sz n c := by simp [AV.rename]
theorem rename_slice_none (f : Nat → Nat) (sz n : Nat) (c : Option Nat) : AV.rename f (.slice none sz n c) = .slice none sz n c := by simp [AV.rename]
theorem rename_ptr (f : Nat → Nat) (b o : Nat) : AV.rename f (.ptr (some (b, o))) = .ptr (some (f b, o)) := by simp [AV.rename]
theorem rename_int (f : Nat → Nat) (k : IntKind) (x : Int) : AV.rename f (.int k x) = .int k x := by simp [AV.rename]
theorem rename_bool (f : Nat → Nat) (x : Bool) : AV.rename f (.bool x) = .bool x := by simp [AV.rename]
theorem rename_str (f : Nat → Nat) (x : ByteArray) : AV.rename f (.str x) = .str x := by simp [AV.rename]
theorem rename_agg (f : Nat → Nat) (cs : List AV) : AV.rename f (.agg cs) = .agg (AV.rename.go f cs) := by simp [AV.rename]
theorem rename_tup (f : Nat → Nat) (cs : List AV) : AV.rename f (.tup cs) = .tup (AV.rename.go f cs) := by simp [AV.rename]
theorem rename_cons (f : Nat → Nat) (c : AV) (cs : List AV) : AV.rename.go f (c :: cs) = AV.rename f c :: AV.rename.go f cs := by simp [AV.rename.go]
theorem rename_nil (f : Nat → Nat) : AV.rename.go f [] = [] := by simp [AV.rename.go]

def keepBlks (L : List Blk) (rs : List Nat) : List Blk := rs.map fun b => (L[b]?).getD .dead
theorem keepBlks_nil (L : List Blk) : keepBlks L [] = [] := Eq.trans rfl rfl
theorem keepBlks_cons (L : List Blk) (b : Nat) (rs : List Nat) : keepBlks L (b :: rs) = (L[b]?).getD .dead :: keepBlks L rs := Eq.trans rfl rfl
def flatAll (lim : Nat) (L : List Blk) (rs : List Nat) : Bool := rs.all fun b => flatBlk lim L[b]?
theorem flatAll_nil (lim : Nat) (L : List Blk) : flatAll lim L [] = true := Eq.trans rfl rfl
theorem flatAll_cons (lim : Nat) (L : List Blk) (b : Nat) (rs : List Nat) : flatAll lim L (b :: rs) = (flatBlk lim L[b]? && flatAll lim L rs) := Eq.trans rfl rfl
theorem flatBlk_cells (lim : Nat) (cs : List AV) (w : Bool) : flatBlk lim (some (.cells cs w)) = cs.all fun c => c.under lim := Eq.trans rfl rfl
theorem finish_two_eq (G : List Blk) (e0 e1 : Option Nat) (v : AV) : finish 2 H.length e0 v ⟨H ++ G, e1⟩ =
    if clean H.length e1 = true ∧ flatAll H.length (H ++ G) (dedup (v.roots H.length)) = true then some (v.rename (renum H.length (dedup (v.roots H.length))), ⟨H ++ keepBlks (H ++ G) (dedup (v.roots H.length)), e0⟩) else none := by
  unfold finish keepBlks flatAll
  simp
theorem finish_two_eq0 (e0 e1 : Option Nat) (v : AV) : finish 2 H.length e0 v ⟨H, e1⟩ =
    if clean H.length e1 = true ∧ flatAll H.length H (dedup (v.roots H.length)) = true then some (v.rename (renum H.length (dedup (v.roots H.length))), ⟨H ++ keepBlks H (dedup (v.roots H.length)), e0⟩) else none := by
  unfold finish keepBlks flatAll
  simp
theorem finish_one_eq (G : List Blk) (e0 e1 : Option Nat) (v : AV) : finish 1 H.length e0 v ⟨H ++ G, e1⟩ = if v.under H.length = true ∧ clean H.length e1 = true then some (v, ⟨H, e0⟩) else none := by
  unfold finish
  simp
theorem finish_one_eq0 (e0 e1 : Option Nat) (v : AV) : finish 1 H.length e0 v ⟨H, e1⟩ = if v.under H.length = true ∧ clean H.length e1 = true then some (v, ⟨H, e0⟩) else none := by
  unfold finish
  simp
theorem dedup_nil : dedup [] = [] := Eq.trans rfl rfl
theorem dedup_one (b : Nat) : dedup [b] = [b] := Eq.trans rfl rfl
theorem dedup_two (a b : Nat) : dedup [a, b] = if a = b then [a] else [a, b] := by
  by_cases h : a = b
  · simp [dedup, h]
  · have : ¬ b = a := fun h' => h h'.symm
    simp [dedup, h, this]
theorem renum_old {lim b : Nat} (rs : List Nat) (h : b < lim) : renum lim rs b = b := by simp [renum, h]
theorem renum_one (k : Nat) : renum H.length [H.length + k] (H.length + k) = H.length := by
  have h1 : ¬ H.length + k < H.length := by omega
  simp only [renum, h1, if_false, List.idxOf_cons_self, Nat.add_zero]
theorem renum_one0 : renum H.length [H.length] H.length = H.length := by simp [renum]
theorem renum_two0 {a b : Nat} (h : H.length ≤ a) : renum H.length [a, b] a = H.length := by
  have h1 : ¬ a < H.length := by omega
  simp [renum, h1]
theorem renum_two1 {a b : Nat} (h : H.length ≤ b) (hne : a ≠ b) : renum H.length [a, b] b = H.length + 1 := by
  have h1 : ¬ b < H.length := by omega
  have h2 : (a == b) = false := by simpa using hne
  simp [renum, h1, h2, List.idxOf_cons]

theorem finV_wc (F : AFun) (m : Mem) (st : St) (Q : AV → Mem → Prop) : Wc (finRun F m st) Q = Wc (finV F m (resultList st.tm st.m.H F.results) st.m) Q := Eq.trans rfl rfl

theorem get_more {α : Type} {L : List α} {j : Nat} {b : α} (h : L[j]? = some b) (X : List α) : (L ++ X)[j]? = some b := by
  rw [List.getElem?_append_left (List.getElem?_eq_some_iff.mp h).1]; exact h
theorem cellsAt_of {L : List Blk} {j : Nat} {cs : List AV} {w : Bool} (h : L[j]? = some (.cells cs w)) : cellsAt L j = some cs := by
  unfold cellsAt; rw [h]

theorem clean_none' (n : Nat) : clean n none = true := Eq.trans rfl rfl
theorem clean_some (n k : Nat) : clean n (some k) = decide (n ≤ k) := Eq.trans rfl rfl
theorem clean_ite (c : Prop) [Decidable c] (n : Nat) (a b : Option Nat) : clean n (if c then a else b) = if c then clean n a else clean n b := by split <;> rfl
theorem minEsc_none (b : Nat) : minEsc none b = some b := Eq.trans rfl rfl
theorem minEsc_some (a b : Nat) : minEsc (some a) b = some (min a b) := Eq.trans rfl rfl
end

end Go.Proofs.Ytlocjmbfcdfjfaa.Slim

/- Rows of elements of some cells each; slices of tasks. -/
namespace Go.Proofs.Ytlocjmbfcdfjfaa.Slim

open Go

set_option linter.unusedSimpArgs false

set_option linter.unusedVariables false

variable {pr : Prims} {H : List Blk} {e : Option Nat}

/-- rows of elements, each of which lies in k cells -/
def encE {α : Type} (f : α → List AV) : List α → List AV
  | [] => []
  | x :: xs => f x ++ encE f xs

section

variable {α : Type} {f : α → List AV} {k : Nat}

theorem encE_append : ∀ a b : List α, encE f (a ++ b) = encE f a ++ encE f b
  | [], b => rfl
  | x :: a, b => by rw [List.cons_append, encE, encE, encE_append a b, List.append_assoc]

theorem encE_length (hf : ∀ x, (f x).length = k) : ∀ xs : List α, (encE f xs).length = xs.length * k
  | [] => by simp [encE]
  | x :: xs => by rw [encE, List.length_append, hf, encE_length hf xs, List.length_cons, Nat.add_mul, Nat.one_mul, Nat.add_comm]

theorem encE_drop (hf : ∀ x, (f x).length = k) : ∀ (xs : List α) (i : Nat), (encE f xs).drop (i * k) = encE f (xs.drop i)
  | xs, 0 => by rw [Nat.zero_mul, List.drop_zero, List.drop_zero]
  | [], i + 1 => by simp [encE]
  | x :: xs, i + 1 => by
    rw [encE, Nat.add_mul, Nat.one_mul, Nat.add_comm, ← hf x, List.drop_length_add_append, hf x, List.drop_succ_cons, encE_drop hf xs i]

theorem encE_take (hf : ∀ x, (f x).length = k) : ∀ (xs : List α) (i : Nat), (encE f xs).take (i * k) = encE f (xs.take i)
  | xs, 0 => by simp [encE]
  | [], i + 1 => by simp [encE]
  | x :: xs, i + 1 => by
    rw [encE, Nat.add_mul, Nat.one_mul, Nat.add_comm, ← hf x, List.take_length_add_append, hf x, List.take_succ_cons, encE, encE_take hf xs i]

theorem encE_at (hf : ∀ x, (f x).length = k) {xs : List α} {i : Nat} {x : α} (h : xs[i]? = some x) : ∃ ys, (encE f xs).drop (i * k) = f x ++ ys ∧ i * k + k ≤ (encE f xs).length := by
  have hi := (List.getElem?_eq_some_iff.mp h).1
  refine ⟨encE f (xs.drop (i + 1)), ?_, ?_⟩
  · rw [encE_drop hf, List.drop_eq_getElem_cons hi, encE]
    rw [List.getElem?_eq_getElem hi] at h
    rw [Option.some.inj h]
  · rw [encE_length hf]
    have : (i + 1) * k ≤ xs.length * k := Nat.mul_le_mul_right _ hi
    rw [Nat.add_mul, Nat.one_mul] at this
    exact this

theorem part_encE (hf : ∀ x, (f x).length = k) {xs : List α} {i : Nat} {x : α} (h : xs[i]? = some x) : part true (encE f xs) (i * k) k = some (.agg (f x)) := by
  obtain ⟨ys, h1, h2⟩ := encE_at hf h
  rw [part_true, if_pos h2, h1, ← hf x, List.take_left']
  rfl

theorem part_encEj (hf : ∀ x, (f x).length = k) {xs : List α} {i j : Nat} {x : α} {c : AV} (sz : Nat) (h : xs[i]? = some x) (hc : (f x)[j]? = some c) : part false (encE f xs) (i * k + j) sz = some c := by
  obtain ⟨ys, h1, h2⟩ := encE_at hf h
  rw [part_false]
  have : (encE f xs)[i * k + j]? = ((encE f xs).drop (i * k))[j]? := by rw [List.getElem?_drop]
  rw [this, h1, List.getElem?_append_left (List.getElem?_eq_some_iff.mp hc).1, hc]

theorem part_encE0 (hf : ∀ x, (f x).length = k) {xs : List α} {i : Nat} {x : α} {c : AV} (sz : Nat) (h : xs[i]? = some x) (hc : (f x)[0]? = some c) : part false (encE f xs) (i * k) sz = some c := part_encEj (j := 0) hf sz h hc

theorem setRange_encE (hf : ∀ x, (f x).length = k) : ∀ {xs : List α} {i : Nat} (x : α), i < xs.length → setRange (encE f xs) (i * k) (f x) = encE f (xs.set i x)
  | [], i, x, h => by simp at h
  | y :: xs, 0, x, h => by
    unfold setRange
    rw [Nat.zero_mul, Nat.zero_add, List.set_cons_zero, encE, encE, hf x, ← hf y, List.drop_left']
    · simp
    · rfl
  | y :: xs, i + 1, x, h => by
    have ih := setRange_encE hf x (by simpa using h : i < xs.length)
    rw [List.set_cons_succ, encE, encE, ← ih]
    unfold setRange
    rw [Nat.add_mul, Nat.one_mul, Nat.add_comm (i * k) k]
    rw [← hf y, List.take_length_add_append, Nat.add_assoc, List.drop_length_add_append]
    simp only [List.append_assoc]

theorem setRange_one {cs : List AV} {o : Nat} (v : AV) (h : o < cs.length) : setRange cs o [v] = cs.set o v := by
  unfold setRange
  rw [List.set_eq_take_append_cons_drop, if_pos h]
  simp

theorem set_encE (hf : ∀ x, (f x).length = k) {j : Nat} {v : AV} {m m' : α} (hj : j < k) (hm : (f m).set j v = f m') : ∀ {Y : List α} {i : Nat}, Y[i]? = some m → (encE f Y).set (i * k + j) v = encE f (Y.set i m')
  | [], i, h => by simp at h
  | y :: Y, 0, h => by
    simp at h
    subst h
    rw [Nat.zero_mul, Nat.zero_add, List.set_cons_zero, encE, encE, ← hm, List.set_append_left _ _ (by rw [hf]; exact hj)]
  | y :: Y, i + 1, h => by
    rw [List.set_cons_succ, encE, encE, ← set_encE hf hj hm (by simpa using h : Y[i]? = some m), Nat.add_mul, Nat.one_mul, List.set_append_right _ _ (by rw [hf]; omega), hf]
    congr 2
    omega

theorem setRange_encEj (hf : ∀ x, (f x).length = k) {j : Nat} {v : AV} {m m' : α} {Y : List α} {i : Nat} (hY : Y[i]? = some m) (hj : j < k) (hm : (f m).set j v = f m') : setRange (encE f Y) (i * k + j) [v] = encE f (Y.set i m') := by
  obtain ⟨_, _, h2⟩ := encE_at hf hY
  rw [setRange_one v (by omega), set_encE hf hj hm hY]

theorem zeros_encE {z : α} : ∀ n, zeros n (f z) = encE f (List.replicate n z)
  | 0 => rfl
  | n + 1 => by
    have := zeros_encE (z := z) n
    unfold zeros at *
    rw [List.replicate_succ, List.flatten_cons, this, List.replicate_succ, encE]

theorem under_encE (hf : ∀ (x : α) (n : Nat), ((f x).all fun c => c.under n) = true) (n : Nat) : ∀ xs : List α, ((encE f xs).all fun c => c.under n) = true
  | [] => rfl
  | x :: xs => by rw [encE, List.all_append, hf, under_encE hf n xs]; rfl

end

abbrev Tk := Int × Int × Int × Int

def tkC (m : Tk) : List AV := [.int .i64 m.1, .int .i64 m.2.1, .int .i64 m.2.2.1, .int .i64 m.2.2.2]

theorem tkC_length (m : Tk) : (tkC m).length = 4 := rfl

theorem tkC_under (m : Tk) (n : Nat) : ((tkC m).all fun c => c.under n) = true := by simp [tkC, AV.under]

abbrev encT (ts : List Tk) : List AV := encE tkC ts

abbrev slT (b n : Nat) (c : Option Nat) : AV := .slice (some (b, 0)) 4 n c

def ArgT (H : List Blk) (av : AV) (ts : List Tk) : Prop :=
  ∃ p sz c, av = .slice p sz ts.length c ∧ ts.length ≤ maxLen ∧ (ts ≠ [] → sz = 4 ∧ ∃ b, p = some (b, 0) ∧ cellsAt H b = some (encT ts))

theorem ArgT.more {av : AV} {ls : List Tk} (h : ArgT H av ls) (G : List Blk) : ArgT (H ++ G) av ls := by
  obtain ⟨p, sz, c, h1, h2, h3⟩ := h
  refine ⟨p, sz, c, h1, h2, fun hne => ?_⟩
  obtain ⟨e1, b, e2, e3⟩ := h3 hne
  exact ⟨e1, b, e2, cells_mono e3 G⟩

theorem tasks_of : ∀ (es : List (List Int)), (∀ e ∈ es, e.length = 4) → ∃ ts : List Tk, es.flatten.map (AV.int .i64) = encT ts ∧ ts.length = es.length
  | [], _ => ⟨[], rfl, rfl⟩
  | x :: es, h => by
    obtain ⟨ts, h1, h2⟩ := tasks_of es fun e he => h e (by simp [he])
    match x, h x (by simp) with
    | [a, b, c, d], _ => exact ⟨(a, b, c, d) :: ts, by simp [encE, tkC, h1], by simp [h2]⟩

theorem argT_of {av : AV} {es : List (List Int)} (h : IsArg H av .i64 4 es) : ∃ ts, ArgT H av ts := by
  obtain ⟨h1, h2⟩ := h
  obtain ⟨ts, t1, t2⟩ := tasks_of es fun e he => (h1 e he).1
  rcases h2 with ⟨rfl, rfl⟩ | ⟨b, cap, rfl, h3, h4, h5⟩
  · simp at t2
    subst t2
    exact ⟨[], none, 0, none, rfl, by simp, fun h => absurd rfl h⟩
  · refine ⟨ts, some (b, 0), 4, some cap, by rw [t2], by omega, fun _ => ⟨rfl, b, rfl, ?_⟩⟩
    unfold cellsAt
    rw [h5, ← t1]

theorem e_l_szTaskS (n : Nat) (p : Option (Nat × Nat)) (sz : Nat) (c : Option Nat) (hn : n ≤ maxLen) (x : Nat) (hx : x ≤ 1048576) : call T pr f_l_szTaskS [.slice p sz n c, .int .i64 x] ⟨H, e⟩ = some (.int .i64 (if n ≤ x then (x : Int) - n else -1), ⟨H, e⟩) := by
  rw [call_eq t_l_szTaskS]
  have hm : maxLen = 9223372036854775807 := by decide
  simp +contextual only [a_l_szTaskS, c_l_szTaskS, go_sem, entry, joinEsc, if_pos, reduceIte, Nat.reduceAdd, Nat.reduceLeDiff, Nat.reduceLT, Nat.reduceEqDiff]
  rw [wrap64 (by omega) (by omega)]
  by_cases h1 : n ≤ x
  · rw [if_neg (by omega), if_pos h1]
  · rw [if_pos (by omega), if_neg h1]

theorem e_l_toTaskS {av : AV} {ts : List Tk} (ha : ArgT H av ts) (hn : ts.length ≤ 1048576) : call T pr f_l_toTaskS [av] ⟨H, e⟩ = some (slT H.length ts.length (some ts.length), ⟨H ++ [.cells (encT ts) true], e⟩) := by
  obtain ⟨p, sz, c, rfl, _, ha⟩ := ha
  apply Wc.eq
  rw [call_wc t_l_toTaskS]
  have hmb : (ts.length : Int) * ((32 : Nat) : Int) ≤ ((maxBytes : Nat) : Int) := by unfold maxBytes; omega
  simp +contextual only [a_l_toTaskS, c_l_toTaskS, hmb, Wp_some, Wp_none, Wp_ite, Wc_some, Wc_none, Wc_ite, Wp_thenRun, seqQ_normal, seqQ_exit, seqQ_ret, Wp_inBlock, blkQ_normal, blkQ_ret, blkQ_same, blkQ_exit, Wp_opThen, opQ_at, Wp_guardP, retQ_normal, retQ_ret, loopQ_normal, loopQ_exit, loopQ_ret, go_sem, entry, joinEsc, if_pos, reduceIte, Nat.reduceAdd, Nat.reduceLeDiff, Nat.reduceLT, Nat.reduceEqDiff]
  rw [show zeros ts.length [AV.int .i64 0, .int .i64 0, .int .i64 0, .int .i64 0] = encT (List.replicate ts.length (0, 0, 0, 0)) from zeros_encE (f := tkC) (z := (0, 0, 0, 0)) ts.length]
  refine Wp_loop (fun k st => ∃ (i : Nat) (X : List Tk) (y : AV), k + i = ts.length ∧ X.length = ts.length ∧ X.take i = ts.take i ∧ st = ⟨[.slice p sz ts.length c, .slice none 0 0 none, slT H.length ts.length (some ts.length), .int .i64 i, y], ⟨H ++ [.cells (encT X) true], none⟩⟩) ?_ ts.length _ ⟨0, _, _, rfl, by simp, by simp, rfl⟩
  rintro k _ ⟨i, X, y, hk, hX, ht, rfl⟩
  by_cases hi : i < ts.length
  · have hl : ts[i]? = some ts[i] := List.getElem?_eq_getElem hi
    obtain ⟨rfl, b, rfl, hb⟩ := ha (by intro h; rw [h] at hi; simp at hi)
    have hle : i * 4 + 4 ≤ (encT X).length := by rw [encE_length tkC_length]; omega
    have hset : setRange (encT X) (i * 4) [.int .i64 ts[i].1, .int .i64 ts[i].2.1, .int .i64 ts[i].2.2.1, .int .i64 ts[i].2.2.2] = encT (X.set i ts[i]) := setRange_encE tkC_length ts[i] (show i < X.length by omega)
    have hp : part true (encT ts) (i * 4) 4 = some (.agg [.int .i64 ts[i].1, .int .i64 ts[i].2.1, .int .i64 ts[i].2.2.1, .int .i64 ts[i].2.2.2]) := part_encE tkC_length hl
    simp +contextual only [w_l_toTaskS_1, cells_mono hb, hi, hp, e_l_toTask, hle, hset, wrap_succ (show i < 9223372036854775807 by omega), decide_true, Wp_some, Wp_none, Wp_ite, Wc_some, Wc_none, Wc_ite, Wp_thenRun, seqQ_normal, seqQ_exit, seqQ_ret, Wp_inBlock, blkQ_normal, blkQ_ret, blkQ_same, blkQ_exit, Wp_opThen, opQ_at, Wp_guardP, retQ_normal, retQ_ret, loopQ_normal, loopQ_exit, loopQ_ret, go_sem, entry, joinEsc, if_pos, reduceIte, Nat.reduceAdd, Nat.reduceLeDiff, Nat.reduceLT, Nat.reduceEqDiff]
    refine ⟨k - 1, by omega, i + 1, X.set i ts[i], _, by omega, by simp [hX], ?_, rfl⟩
    rw [List.take_add_one, List.take_add_one, hl, List.getElem?_set_self (by omega), List.take_set_of_le (Nat.le_refl _), ht]
  · obtain rfl : i = ts.length := by omega
    have hX2 : X = ts := by rwa [← hX, List.take_length, hX, List.take_length] at ht
    subst hX2
    simp +contextual only [w_l_toTaskS_1, hi, under_encE tkC_under, decide_false, Wp_some, Wp_none, Wp_ite, Wc_some, Wc_none, Wc_ite, Wp_thenRun, seqQ_normal, seqQ_exit, seqQ_ret, Wp_inBlock, blkQ_normal, blkQ_ret, blkQ_same, blkQ_exit, Wp_opThen, opQ_at, Wp_guardP, retQ_normal, retQ_ret, loopQ_normal, loopQ_exit, loopQ_ret, finish_one_eq, finish_one_eq0, finish_two_eq, finish_two_eq0, roots_slice_new, roots_slice_new0, roots_slice_none, roots_ptr_new, roots_ptr_new0, roots_int, roots_bool, roots_str, roots_agg, roots_tup, roots_cons, roots_nil, rename_slice, rename_slice_none, rename_ptr, rename_int, rename_bool, rename_str, rename_agg, rename_tup, rename_cons, rename_nil, keepBlks_nil, keepBlks_cons, flatAll_nil, flatAll_cons, flatBlk_cells, dedup_nil, dedup_one, dedup_two, renum_one, renum_one0, renum_two0, renum_two1, clean_none', clean_some, minEsc_none, minEsc_some, Nat.add_left_cancel_iff, Nat.le_add_right, Nat.le_refl, decide_true, go_sem, entry, joinEsc, if_pos, reduceIte, Nat.reduceAdd, Nat.reduceLeDiff, Nat.reduceLT, Nat.reduceEqDiff]

theorem e_l_eqTask (m : Tk) : call T pr f_l_eqTask [.agg (tkC m), .agg (tkC m)] ⟨H, e⟩ = some (.bool true, ⟨H, e⟩) := by
  rw [call_eq t_l_eqTask]
  simp +contextual only [a_l_eqTask, c_l_eqTask, tkC, decide_true, go_sem, entry, joinEsc, if_pos, reduceIte, Nat.reduceAdd, Nat.reduceLeDiff, Nat.reduceLT, Nat.reduceEqDiff]

theorem e_l_eqTaskS {b1 b2 : Nat} {c1 c2 : Option Nat} {ts : List Tk} (h1 : cellsAt H b1 = some (encT ts)) (h2 : cellsAt H b2 = some (encT ts)) (hn : ts.length ≤ 1048576) :
    call T pr f_l_eqTaskS [slT b1 ts.length c1, slT b2 ts.length c2] ⟨H, e⟩ = some (.bool true, ⟨H, e⟩) := by
  apply Wc.eq
  rw [call_wc t_l_eqTaskS]
  simp +contextual only [a_l_eqTaskS, c_l_eqTaskS, decide_true, Wp_some, Wp_none, Wp_ite, Wc_some, Wc_none, Wc_ite, Wp_thenRun, seqQ_normal, seqQ_exit, seqQ_ret, Wp_inBlock, blkQ_normal, blkQ_ret, blkQ_same, blkQ_exit, Wp_opThen, opQ_at, Wp_guardP, retQ_normal, retQ_ret, loopQ_normal, loopQ_exit, loopQ_ret, go_sem, entry, joinEsc, if_pos, reduceIte, Nat.reduceAdd, Nat.reduceLeDiff, Nat.reduceLT, Nat.reduceEqDiff]
  refine Wp_loop (fun k st => ∃ (i : Nat) (y z w : AV), k + i = ts.length ∧ st = ⟨[slT b1 ts.length c1, slT b2 ts.length c2, .bool false, .int .i64 i, y, z, w], ⟨H, none⟩⟩) ?_ ts.length _ ⟨0, _, _, _, rfl, rfl⟩
  rintro k _ ⟨i, y, z, w, hk, rfl⟩
  by_cases hi : i < ts.length
  · have hl : ts[i]? = some ts[i] := List.getElem?_eq_getElem hi
    simp +contextual only [w_l_eqTaskS_1, h1, h2, hi, part_encE tkC_length hl, e_l_eqTask, wrap_succ (show i < 9223372036854775807 by omega), decide_true, Wp_some, Wp_none, Wp_ite, Wc_some, Wc_none, Wc_ite, Wp_thenRun, seqQ_normal, seqQ_exit, seqQ_ret, Wp_inBlock, blkQ_normal, blkQ_ret, blkQ_same, blkQ_exit, Wp_opThen, opQ_at, Wp_guardP, retQ_normal, retQ_ret, loopQ_normal, loopQ_exit, loopQ_ret, go_sem, entry, joinEsc, if_pos, reduceIte, Nat.reduceAdd, Nat.reduceLeDiff, Nat.reduceLT, Nat.reduceEqDiff]
    exact ⟨k - 1, by omega, i + 1, _, _, _, by omega, rfl⟩
  · obtain rfl : i = ts.length := by omega
    simp +contextual only [w_l_eqTaskS_1, hi, decide_false, Wp_some, Wp_none, Wp_ite, Wc_some, Wc_none, Wc_ite, Wp_thenRun, seqQ_normal, seqQ_exit, seqQ_ret, Wp_inBlock, blkQ_normal, blkQ_ret, blkQ_same, blkQ_exit, Wp_opThen, opQ_at, Wp_guardP, retQ_normal, retQ_ret, loopQ_normal, loopQ_exit, loopQ_ret, go_sem, entry, joinEsc, if_pos, reduceIte, Nat.reduceAdd, Nat.reduceLeDiff, Nat.reduceLT, Nat.reduceEqDiff]

theorem e_l_markTaskS {L : List Blk} {b : Nat} {c : Option Nat} {ts : List Tk} (h : L[b]? = some (.cells (encT ts) true)) (hn : ts.length ≤ 1048576) (k : Nat) (hk : k ≤ 16777216) :
    ∃ X : List Tk, call T pr f_l_markTaskS [slT b ts.length c, .int .i64 k] ⟨L, e⟩ = some (.int .i64 ((k + ts.length * 4 : Nat) : Int), ⟨L.set b (.cells (encT X) true), e⟩) := by
  have hb := (List.getElem?_eq_some_iff.mp h).1
  suffices hW : Wc (call T pr f_l_markTaskS [slT b ts.length c, .int .i64 k] ⟨L, e⟩) (fun v m => ∃ X : List Tk, v = .int .i64 ((k + ts.length * 4 : Nat) : Int) ∧ m = ⟨L.set b (.cells (encT X) true), e⟩) by
    obtain ⟨v, m, hc, X, rfl, rfl⟩ := hW
    exact ⟨X, hc⟩
  rw [call_wc t_l_markTaskS]
  simp +contextual only [a_l_markTaskS, c_l_markTaskS, decide_true, Wp_some, Wp_none, Wp_ite, Wc_some, Wc_none, Wc_ite, Wp_thenRun, seqQ_normal, seqQ_exit, seqQ_ret, Wp_inBlock, blkQ_normal, blkQ_ret, blkQ_same, blkQ_exit, Wp_opThen, opQ_at, Wp_guardP, retQ_normal, retQ_ret, loopQ_normal, loopQ_exit, loopQ_ret, go_sem, entry, joinEsc, if_pos, reduceIte, Nat.reduceAdd, Nat.reduceLeDiff, Nat.reduceLT, Nat.reduceEqDiff]
  refine Wp_loop (fun j st => ∃ (i : Nat) (X : List Tk) (y : AV), j + i = ts.length ∧ X.length = ts.length ∧ st = ⟨[slT b ts.length c, .int .i64 ((k + i * 4 : Nat) : Int), .int .i64 0, .int .i64 i, y], ⟨L.set b (.cells (encT X) true), none⟩⟩) ?_ ts.length _ ⟨0, ts, _, rfl, rfl, by rw [set_same h, Nat.zero_mul]; rfl⟩
  rintro j _ ⟨i, X, y, hj, hX, rfl⟩
  by_cases hi : i < ts.length
  · have hiX : i < X.length := by omega
    have hg : ∀ Y : List AV, (L.set b (.cells Y true))[b]? = some (.cells Y true) := fun Y => List.getElem?_set_self hb
    have hle0 : ∀ Y : List Tk, Y.length = ts.length → i * 4 + 1 ≤ (encT Y).length := fun Y hY => by rw [encE_length tkC_length]; omega
    have hle1 : ∀ Y : List Tk, Y.length = ts.length → i * 4 + 1 + 1 ≤ (encT Y).length := fun Y hY => by rw [encE_length tkC_length]; omega
    have hle2 : ∀ Y : List Tk, Y.length = ts.length → i * 4 + 2 + 1 ≤ (encT Y).length := fun Y hY => by rw [encE_length tkC_length]; omega
    have hle3 : ∀ Y : List Tk, Y.length = ts.length → i * 4 + 3 + 1 ≤ (encT Y).length := fun Y hY => by rw [encE_length tkC_length]; omega
    have hst : ∀ (Y : List Tk) (j : Nat) (x : Int), Y.length = ts.length → j < 4 → ∃ Z : List Tk, Z.length = ts.length ∧ setRange (encT Y) (i * 4 + j) [.int .i64 x] = encT Z := by
      intro Y j x hY hj4
      obtain ⟨m, hm⟩ : ∃ m, Y[i]? = some m := ⟨_, List.getElem?_eq_getElem (by omega)⟩
      match j, hj4 with
      | 0, _ => exact ⟨Y.set i (x, m.2), by simp [hY], setRange_encEj tkC_length hm (by omega) rfl⟩
      | 1, _ => exact ⟨Y.set i (m.1, x, m.2.2), by simp [hY], setRange_encEj tkC_length hm (by omega) rfl⟩
      | 2, _ => exact ⟨Y.set i (m.1, m.2.1, x, m.2.2.2), by simp [hY], setRange_encEj tkC_length hm (by omega) rfl⟩
      | 3, _ => exact ⟨Y.set i (m.1, m.2.1, m.2.2.1, x), by simp [hY], setRange_encEj tkC_length hm (by omega) rfl⟩
    obtain ⟨X1, hX1, s1⟩ := hst X 0 ((k + i * 4 : Nat) : Int) hX (by omega)
    obtain ⟨X2, hX2, s2⟩ := hst X1 1 ((k + i * 4 + 1 : Nat) : Int) hX1 (by omega)
    obtain ⟨X3, hX3, s3⟩ := hst X2 2 ((k + i * 4 + 2 : Nat) : Int) hX2 (by omega)
    obtain ⟨X4, hX4, s4⟩ := hst X3 3 ((k + i * 4 + 3 : Nat) : Int) hX3 (by omega)
    rw [Nat.add_zero] at s1
    have hw1 : IntKind.i64.wrap (((k + i * 4 : Nat) : Int) + 1) = ((k + i * 4 + 1 : Nat) : Int) := wrap_succ (by omega)
    have hw2 : IntKind.i64.wrap (((k + i * 4 + 1 : Nat) : Int) + 1) = ((k + i * 4 + 2 : Nat) : Int) := wrap_succ (by omega)
    have hw3 : IntKind.i64.wrap (((k + i * 4 + 2 : Nat) : Int) + 1) = ((k + i * 4 + 3 : Nat) : Int) := wrap_succ (by omega)
    have hw4 : IntKind.i64.wrap (((k + i * 4 + 3 : Nat) : Int) + 1) = ((k + (i + 1) * 4 : Nat) : Int) := by rw [show k + (i + 1) * 4 = k + i * 4 + 3 + 1 by omega]; exact wrap_succ (by omega)
    simp +contextual only [w_l_markTaskS_1, hi, hg, hle0 X hX, hle1 X1 hX1, hle2 X2 hX2, hle3 X3 hX3, s1, s2, s3, s4, hw1, hw2, hw3, hw4, List.set_set, wrap_succ (show i < 9223372036854775807 by omega), decide_true, Wp_some, Wp_none, Wp_ite, Wc_some, Wc_none, Wc_ite, Wp_thenRun, seqQ_normal, seqQ_exit, seqQ_ret, Wp_inBlock, blkQ_normal, blkQ_ret, blkQ_same, blkQ_exit, Wp_opThen, opQ_at, Wp_guardP, retQ_normal, retQ_ret, loopQ_normal, loopQ_exit, loopQ_ret, go_sem, entry, joinEsc, if_pos, reduceIte, Nat.reduceAdd, Nat.reduceLeDiff, Nat.reduceLT, Nat.reduceEqDiff]
    exact ⟨j - 1, by omega, i + 1, X4, _, by omega, hX4, rfl⟩
  · obtain rfl : i = ts.length := by omega
    simp +contextual only [w_l_markTaskS_1, hi, finish_one_set, decide_false, Wp_some, Wp_none, Wp_ite, Wc_some, Wc_none, Wc_ite, Wp_thenRun, seqQ_normal, seqQ_exit, seqQ_ret, Wp_inBlock, blkQ_normal, blkQ_ret, blkQ_same, blkQ_exit, Wp_opThen, opQ_at, Wp_guardP, retQ_normal, retQ_ret, loopQ_normal, loopQ_exit, loopQ_ret, go_sem, entry, joinEsc, if_pos, reduceIte, Nat.reduceAdd, Nat.reduceLeDiff, Nat.reduceLT, Nat.reduceEqDiff]
    exact ⟨X, rfl⟩

end Go.Proofs.Ytlocjmbfcdfjfaa.Slim

/- Some tasks of a stand, one behind the other. -/
namespace Go.Proofs.Ytlocjmbfcdfjfaa.Slim

open Go

set_option linter.unusedSimpArgs false

set_option linter.unusedVariables false

variable {pr : Prims} {H : List Blk} {e : Option Nat}

/-- a stand's parts -/
structure Sd where
  ls : List Ld
  ss : List Sg
  a : Int
  b : Int
  t : Int
  c : Int

def Sd.ok (s : Sd) : Bool := stOk s.ls s.ss s.a s.b s.t s.c

/-- a task of a stand -/
def stepT (s : Sd) (m : Tk) : Option Sd :=
  if doOk s.ls s.ss s.a s.b s.t s.c m.1 m.2.1 m.2.2.1 m.2.2.2 = true then
    some ⟨rowT s.ls m.1 m.2.1 m.2.2.1, chainT s.ss m.1 m.2.1 m.2.2.1 m.2.2.2, baseA s.a m.1 m.2.1, baseA s.b m.1 m.2.2.1, tipsT s.ls s.a s.b s.t m.1 m.2.1 m.2.2.1, wr (s.c + 1)⟩
  else none

theorem stepT_ok {s s' : Sd} {m : Tk} (h : s.ok = true) (hs : stepT s m = some s') : s'.ok = true := by
  unfold stepT at hs
  split at hs
  · rename_i hd
    cases hs
    unfold doOk at hd
    rw [Bool.and_eq_true] at hd
    have h2 := hd.2
    unfold Sd.ok stOk restOk at *
    simp only [Bool.and_eq_true, decide_eq_true_eq] at *
    refine ⟨h2.1, h2.2.1, h2.2.2.1, h2.2.2.2.1, ?_⟩
    have hw : wr (s.c + 1) = s.c + 1 := wrap64 (by omega) (by omega)
    rw [hw] at h2 ⊢
    unfold tipsT
    split
    · omega
    · have hw2 : wr (s.t + 1) = s.t + 1 := wrap64 (by omega) (by omega)
      rw [hw2]
      omega
  · cases hs

/-- tasks up to the first one that is not possible -/
def tasksT (s : Sd) (i : Nat) : List Tk → Sd × Nat
  | [] => (s, i)
  | m :: ms => match stepT s m with
    | none => (s, i)
    | some s' => tasksT s' (i + 1) ms

theorem tasksT_ok : ∀ (ms : List Tk) (s : Sd) (i : Nat), s.ok = true → (tasksT s i ms).1.ok = true
  | [], s, i, h => h
  | m :: ms, s, i, h => by
    rw [tasksT]
    cases hs : stepT s m with
    | none => exact h
    | some s' => exact tasksT_ok ms s' (i + 1) (stepT_ok h hs)

theorem tasksT_le : ∀ (ms : List Tk) (s : Sd) (i : Nat), (tasksT s i ms).2 ≤ i + ms.length
  | [], s, i => by simp [tasksT]
  | m :: ms, s, i => by
    rw [tasksT, List.length_cons]
    cases hs : stepT s m with
    | none => simp
    | some s' => have := tasksT_le ms s' (i + 1); simp only; omega

theorem step_res (H : List Blk) (e : Option Nat) (s : Sd) (m : Tk) : doRes H e (doOk s.ls s.ss s.a s.b s.t s.c m.1 m.2.1 m.2.2.1 m.2.2.2) (rowT s.ls m.1 m.2.1 m.2.2.1) (chainT s.ss m.1 m.2.1 m.2.2.1 m.2.2.2) (baseA s.a m.1 m.2.1) (baseA s.b m.1 m.2.2.1) (tipsT s.ls s.a s.b s.t m.1 m.2.1 m.2.2.1) (wr (s.c + 1)) =
    match stepT s m with
    | some s' => some (.tup [stV (slL H.length s'.ls.length none) s'.a s'.b (slS (H.length + 1) s'.ss.length none) s'.t s'.c, .bool true], ⟨H ++ [.cells (encL s'.ls) true, .cells (encS s'.ss) true], e⟩)
    | none => some (.tup [noStand, .bool false], ⟨H, e⟩) := by
  unfold doRes stepT
  cases doOk s.ls s.ss s.a s.b s.t s.c m.1 m.2.1 m.2.2.1 m.2.2.2 <;> rfl

abbrev sdC (s : Sd) (p1 p2 : Nat) : List AV := [slL p1 s.ls.length none, .int .i64 s.a, .int .i64 s.b, slS p2 s.ss.length none, .int .i64 s.t, .int .i64 s.c]

theorem e_i_DoTasks_no {q1 q2 qt : Nat} {c1 c2 ct : Option Nat} {ls : List Ld} {ss : List Sg} {n : Nat} (h1 : cellsAt H q1 = some (encL ls)) (h2 : cellsAt H q2 = some (encS ss)) (hm : ss.length ≤ 1048576) (a b t c : Int) (hv : stOk ls ss a b t c = false) :
    call T pr f_i_DoTasks [stV (slL q1 ls.length c1) a b (slS q2 ss.length c2) t c, slT qt n ct] ⟨H, e⟩ = some (.tup [noStand, .int .i64 0, .bool false], ⟨H, e⟩) := by
  have his := fun G => isStand_at (pr := pr) (e := none) (c1 := c1) (c2 := c2) (ls := ls) (ss := ss) rfl rfl hm a b t c (cells_mono h1 G) (cells_mono h2 G)
  rw [hv] at his
  rw [call_eq t_i_DoTasks]
  simp +contextual only [a_i_DoTasks, c_i_DoTasks, fillParts, his, under_sliceN, finish_one_eq, finish_one_eq0, finish_two_eq, finish_two_eq0, roots_slice_new, roots_slice_new0, roots_slice_none, roots_ptr_new, roots_ptr_new0, roots_int, roots_bool, roots_str, roots_agg, roots_tup, roots_cons, roots_nil, rename_slice, rename_slice_none, rename_ptr, rename_int, rename_bool, rename_str, rename_agg, rename_tup, rename_cons, rename_nil, keepBlks_nil, keepBlks_cons, flatAll_nil, flatAll_cons, flatBlk_cells, dedup_nil, dedup_one, dedup_two, renum_one, renum_one0, renum_two0, renum_two1, clean_none', clean_some, minEsc_none, minEsc_some, Nat.add_left_cancel_iff, Nat.le_add_right, Nat.le_refl, decide_true, go_sem, entry, joinEsc, if_pos, reduceIte, Nat.reduceAdd, Nat.reduceLeDiff, Nat.reduceLT, Nat.reduceEqDiff]

theorem e_s_DoTasks_no {q1 q2 qt : Nat} {c1 c2 ct : Option Nat} {ls : List Ld} {ss : List Sg} {n : Nat} (h1 : cellsAt H q1 = some (encL ls)) (h2 : cellsAt H q2 = some (encS ss)) (hm : ss.length ≤ 1048576) (a b t c : Int) (hv : stOk ls ss a b t c = false) :
    call T pr f_s_DoTasks [stV (slL q1 ls.length c1) a b (slS q2 ss.length c2) t c, slT qt n ct] ⟨H, e⟩ = some (.tup [noStand, .int .i64 0, .bool false], ⟨H, e⟩) := by
  have his := fun G => good_at (pr := pr) (e := none) (c1 := c1) (c2 := c2) (ls := ls) (ss := ss) rfl rfl hm a b t c (cells_mono h1 G) (cells_mono h2 G)
  rw [hv] at his
  rw [call_eq t_s_DoTasks]
  simp +contextual only [a_s_DoTasks, c_s_DoTasks, fillParts, his, under_sliceN, finish_one_eq, finish_one_eq0, finish_two_eq, finish_two_eq0, roots_slice_new, roots_slice_new0, roots_slice_none, roots_ptr_new, roots_ptr_new0, roots_int, roots_bool, roots_str, roots_agg, roots_tup, roots_cons, roots_nil, rename_slice, rename_slice_none, rename_ptr, rename_int, rename_bool, rename_str, rename_agg, rename_tup, rename_cons, rename_nil, keepBlks_nil, keepBlks_cons, flatAll_nil, flatAll_cons, flatBlk_cells, dedup_nil, dedup_one, dedup_two, renum_one, renum_one0, renum_two0, renum_two1, clean_none', clean_some, minEsc_none, minEsc_some, Nat.add_left_cancel_iff, Nat.le_add_right, Nat.le_refl, decide_true, go_sem, entry, joinEsc, if_pos, reduceIte, Nat.reduceAdd, Nat.reduceLeDiff, Nat.reduceLT, Nat.reduceEqDiff]

theorem e_i_DoTasks (hp : HasDelete pr) {q1 q2 qt : Nat} {c1 c2 ct : Option Nat} {ls : List Ld} {ss : List Sg} {ts : List Tk} (h1 : cellsAt H q1 = some (encL ls)) (h2 : cellsAt H q2 = some (encS ss)) (ht : cellsAt H qt = some (encT ts)) (hn : ts.length ≤ 1048576) (a b t c : Int) (hv : stOk ls ss a b t c = true) :
    call T pr f_i_DoTasks [stV (slL q1 ls.length c1) a b (slS q2 ss.length c2) t c, slT qt ts.length ct] ⟨H, e⟩ =
      some (.tup [.agg (sdC (tasksT ⟨ls, ss, a, b, t, c⟩ 0 ts).1 H.length (H.length + 1)), .int .i64 ((tasksT ⟨ls, ss, a, b, t, c⟩ 0 ts).2 : Nat), .bool true], ⟨H ++ [.cells (encL (tasksT ⟨ls, ss, a, b, t, c⟩ 0 ts).1.ls) true, .cells (encS (tasksT ⟨ls, ss, a, b, t, c⟩ 0 ts).1.ss) true], e⟩) := by
  have hs := st_small hv
  have his := fun G => isStand_at (pr := pr) (e := none) (c1 := c1) (c2 := c2) (ls := ls) (ss := ss) rfl rfl (by omega) a b t c (cells_mono h1 G) (cells_mono h2 G)
  rw [hv] at his
  have hcp := fun G => e_i_copyStand (pr := pr) (e := none) (H := H ++ G) (c1 := c1) (c2 := c2) (cells_mono h1 G) (cells_mono h2 G) (by omega) (by omega) a b t c
  apply Wc.eq
  rw [call_wc t_i_DoTasks]
  simp +contextual only [a_i_DoTasks, c_i_DoTasks, his, hcp, under_slice, clean_minEsc, Nat.add_assoc, Wp_some, Wp_none, Wp_ite, Wc_some, Wc_none, Wc_ite, Wp_thenRun, seqQ_normal, seqQ_exit, seqQ_ret, Wp_inBlock, blkQ_normal, blkQ_ret, blkQ_same, blkQ_exit, Wp_opThen, opQ_at, Wp_guardP, retQ_normal, retQ_ret, loopQ_normal, loopQ_exit, loopQ_ret, go_sem, entry, joinEsc, if_pos, reduceIte, Nat.reduceAdd, Nat.reduceLeDiff, Nat.reduceLT, Nat.reduceEqDiff]
  refine Wp_loop (fun k st => ∃ (i : Nat) (s : Sd) (j1 j2 : Nat) (B0 B1 B2 B3 : Blk) (G : List Blk) (e' : Option Nat) (y7 y8 y9 y10 y11 y15 y16 : AV), k + i = ts.length ∧ s.ok = true ∧ tasksT s i (ts.drop i) = tasksT ⟨ls, ss, a, b, t, c⟩ 0 ts ∧ j1 ≠ j2 ∧ clean H.length e' = true ∧
      (∀ M N, (B0 :: M :: B2 :: B3 :: N :: G)[j1]? = some (.cells (encL s.ls) true)) ∧ (∀ M N, (B0 :: M :: B2 :: B3 :: N :: G)[j2]? = some (.cells (encS s.ss) true)) ∧
      (∃ v0 v1 v2 v3 v4 v5, B1 = .cells [v0, v1, v2, v3, v4, v5] true) ∧
      st = ⟨[stV (slL q1 ls.length c1) a b (slS q2 ss.length c2) t c, slT qt ts.length ct, .ptr (some (H.length, 0)), .ptr (some (H.length + 1, 0)), .int .i64 0, .bool false, .ptr (some (H.length + 4, 0)), y7, y8, y9, y10, y11, slT qt ts.length ct, .int .i64 ts.length, .int .i64 i, y15, y16], ⟨H ++ (B0 :: B1 :: B2 :: B3 :: .cells (sdC s (H.length + j1) (H.length + j2)) true :: G), e'⟩⟩) ?_ ts.length _
    ⟨0, ⟨ls, ss, a, b, t, c⟩, 2, 3, _, _, _, _, [], _, _, _, _, _, _, _, _, rfl, hv, rfl, by decide, ?_, fun M N => rfl, fun M N => rfl, ⟨_, _, _, _, _, _, rfl⟩, rfl⟩
  · rintro k _ ⟨i, s, j1, j2, B0, B1, B2, B3, G, e', y7, y8, y9, y10, y11, y15, y16, hk, hok, htt, hne, he', g1, g2, ⟨v0, v1, v2, v3, v4, v5, rfl⟩, rfl⟩
    by_cases hi : i < ts.length
    · obtain ⟨m, hm⟩ : ∃ m, ts[i]? = some m := ⟨_, List.getElem?_eq_getElem hi⟩
      have hd : ts.drop i = m :: ts.drop (i + 1) := by
        rw [List.drop_eq_getElem_cons hi]
        rw [List.getElem?_eq_getElem hi] at hm
        rw [Option.some.inj hm]
      have hpt : part true (encT ts) (i * 4) 4 = some (tkV m.1 m.2.1 m.2.2.1 m.2.2.2) := part_encE tkC_length hm
      have hg1 : ∀ M N X, cellsAt (B0 :: M :: B2 :: B3 :: N :: (G ++ X)) j1 = some (encL s.ls) := fun M N X => cellsAt_of (get_more (g1 M N) X)
      have hg2 : ∀ M N X, cellsAt (B0 :: M :: B2 :: B3 :: N :: (G ++ X)) j2 = some (encS s.ss) := fun M N X => cellsAt_of (get_more (g2 M N) X)
      have hss := st_small hok
      have hdo := fun L e' (h1 : cellsAt L (H.length + j1) = some (encL s.ls)) (h2 : cellsAt L (H.length + j2) = some (encS s.ss)) => (e_i_DoTask (pr := pr) (H := L) (e := e') hp (c1 := none) (c2 := none) h1 h2 (by omega) (by omega) m.1 m.2.1 m.2.2.1 m.2.2.2 hok).trans (step_res L e' s m)
      rw [hd, tasksT] at htt
      cases hst : stepT s m with
      | none =>
        simp only [hst] at hdo htt
        rw [← htt]
        have hk1 : ∀ M N X, (B0 :: M :: B2 :: B3 :: N :: (G ++ X))[j1]? = some (.cells (encL s.ls) true) := fun M N X => get_more (g1 M N) X
        have hk2 : ∀ M N X, (B0 :: M :: B2 :: B3 :: N :: (G ++ X))[j2]? = some (.cells (encS s.ss) true) := fun M N X => get_more (g2 M N) X
        simp +contextual only [w_i_DoTasks_1, fillParts, cells_mono ht, hi, hpt, hg1, hg2, hk1, hk2, hdo, under_sliceN, clean_ite, clean_minEsc, he', ne_eq, hne, not_false_eq_true, under_encL, under_encS, decide_true, Wp_some, Wp_none, Wp_ite, Wc_some, Wc_none, Wc_ite, Wp_thenRun, seqQ_normal, seqQ_exit, seqQ_ret, Wp_inBlock, blkQ_normal, blkQ_ret, blkQ_same, blkQ_exit, Wp_opThen, opQ_at, Wp_guardP, retQ_normal, retQ_ret, loopQ_normal, loopQ_exit, loopQ_ret, finish_one_eq, finish_one_eq0, finish_two_eq, finish_two_eq0, roots_slice_new, roots_slice_new0, roots_slice_none, roots_ptr_new, roots_ptr_new0, roots_int, roots_bool, roots_str, roots_agg, roots_tup, roots_cons, roots_nil, rename_slice, rename_slice_none, rename_ptr, rename_int, rename_bool, rename_str, rename_agg, rename_tup, rename_cons, rename_nil, keepBlks_nil, keepBlks_cons, flatAll_nil, flatAll_cons, flatBlk_cells, dedup_nil, dedup_one, dedup_two, renum_one, renum_one0, renum_two0, renum_two1, clean_none', clean_some, minEsc_none, minEsc_some, Nat.add_left_cancel_iff, Nat.le_add_right, Nat.le_refl, decide_true, go_sem, entry, joinEsc, if_pos, reduceIte, Nat.reduceAdd, Nat.reduceLeDiff, Nat.reduceLT, Nat.reduceEqDiff]
      | some s' =>
        simp only [hst] at hdo htt
        simp +contextual only [w_i_DoTasks_1, fillParts, cells_mono ht, hi, hpt, hg1, hg2, hdo, wrap_succ (show i < 9223372036854775807 by omega), under_sliceN, clean_ite, clean_minEsc, decide_true, Wp_some, Wp_none, Wp_ite, Wc_some, Wc_none, Wc_ite, Wp_thenRun, seqQ_normal, seqQ_exit, seqQ_ret, Wp_inBlock, blkQ_normal, blkQ_ret, blkQ_same, blkQ_exit, Wp_opThen, opQ_at, Wp_guardP, retQ_normal, retQ_ret, loopQ_normal, loopQ_exit, loopQ_ret, go_sem, entry, joinEsc, if_pos, reduceIte, Nat.reduceAdd, Nat.reduceLeDiff, Nat.reduceLT, Nat.reduceEqDiff]
        refine ⟨k - 1, by omega, i + 1, s', G.length + 6, G.length + 7, _, _, _, _, _, _, _, _, _, _, _, _, _, by omega, stepT_ok hok hst, htt, by omega, ?_, fun M N => ?_, fun M N => ?_, ⟨_, _, _, _, _, _, rfl⟩, rfl⟩
        · simp only [clean_ite, clean_minEsc, he', Nat.le_add_right, Nat.add_assoc, decide_true, Bool.true_and, ite_self]
        · show (G ++ _)[G.length + 1]? = _
          rw [blkAt_newk]; rfl
        · show (G ++ _)[G.length + 2]? = _
          rw [blkAt_newk]; rfl
    · obtain rfl : i = ts.length := by omega
      rw [List.drop_length, tasksT] at htt
      rw [← htt]
      simp +contextual only [w_i_DoTasks_1, fillParts, hi, g1, g2, under_sliceN, clean_ite, clean_minEsc, he', ne_eq, hne, not_false_eq_true, under_encL, under_encS, decide_true, decide_false, Wp_some, Wp_none, Wp_ite, Wc_some, Wc_none, Wc_ite, Wp_thenRun, seqQ_normal, seqQ_exit, seqQ_ret, Wp_inBlock, blkQ_normal, blkQ_ret, blkQ_same, blkQ_exit, Wp_opThen, opQ_at, Wp_guardP, retQ_normal, retQ_ret, loopQ_normal, loopQ_exit, loopQ_ret, finish_one_eq, finish_one_eq0, finish_two_eq, finish_two_eq0, roots_slice_new, roots_slice_new0, roots_slice_none, roots_ptr_new, roots_ptr_new0, roots_int, roots_bool, roots_str, roots_agg, roots_tup, roots_cons, roots_nil, rename_slice, rename_slice_none, rename_ptr, rename_int, rename_bool, rename_str, rename_agg, rename_tup, rename_cons, rename_nil, keepBlks_nil, keepBlks_cons, flatAll_nil, flatAll_cons, flatBlk_cells, dedup_nil, dedup_one, dedup_two, renum_one, renum_one0, renum_two0, renum_two1, clean_none', clean_some, minEsc_none, minEsc_some, Nat.add_left_cancel_iff, Nat.le_add_right, Nat.le_refl, decide_true, go_sem, entry, joinEsc, if_pos, reduceIte, Nat.reduceAdd, Nat.reduceLeDiff, Nat.reduceLT, Nat.reduceEqDiff]
  · simp only [clean_ite, clean_minEsc, clean_none', Nat.le_add_right, Nat.add_assoc, decide_true, Bool.true_and, ite_self]

theorem e_s_DoTasks {q1 q2 qt : Nat} {c1 c2 ct : Option Nat} {ls : List Ld} {ss : List Sg} {ts : List Tk} (h1 : cellsAt H q1 = some (encL ls)) (h2 : cellsAt H q2 = some (encS ss)) (ht : cellsAt H qt = some (encT ts)) (hn : ts.length ≤ 1048576) (a b t c : Int) (hv : stOk ls ss a b t c = true) :
    call T pr f_s_DoTasks [stV (slL q1 ls.length c1) a b (slS q2 ss.length c2) t c, slT qt ts.length ct] ⟨H, e⟩ =
      some (.tup [.agg (sdC (tasksT ⟨ls, ss, a, b, t, c⟩ 0 ts).1 H.length (H.length + 1)), .int .i64 ((tasksT ⟨ls, ss, a, b, t, c⟩ 0 ts).2 : Nat), .bool true], ⟨H ++ [.cells (encL (tasksT ⟨ls, ss, a, b, t, c⟩ 0 ts).1.ls) true, .cells (encS (tasksT ⟨ls, ss, a, b, t, c⟩ 0 ts).1.ss) true], e⟩) := by
  have hs := st_small hv
  have his := fun G => good_at (pr := pr) (e := none) (c1 := c1) (c2 := c2) (ls := ls) (ss := ss) rfl rfl (by omega) a b t c (cells_mono h1 G) (cells_mono h2 G)
  rw [hv] at his
  have hcp := fun G => e_s_l12Own (pr := pr) (e := none) (H := H ++ G) (c1 := c1) (c2 := c2) (cells_mono h1 G) (cells_mono h2 G) (by omega) (by omega) a b t c
  apply Wc.eq
  rw [call_wc t_s_DoTasks]
  simp +contextual only [a_s_DoTasks, c_s_DoTasks, his, hcp, under_slice, clean_minEsc, Nat.add_assoc, Wp_some, Wp_none, Wp_ite, Wc_some, Wc_none, Wc_ite, Wp_thenRun, seqQ_normal, seqQ_exit, seqQ_ret, Wp_inBlock, blkQ_normal, blkQ_ret, blkQ_same, blkQ_exit, Wp_opThen, opQ_at, Wp_guardP, retQ_normal, retQ_ret, loopQ_normal, loopQ_exit, loopQ_ret, go_sem, entry, joinEsc, if_pos, reduceIte, Nat.reduceAdd, Nat.reduceLeDiff, Nat.reduceLT, Nat.reduceEqDiff]
  refine Wp_loop (fun k st => ∃ (i : Nat) (s : Sd) (j1 j2 : Nat) (B0 B1 B2 B3 : Blk) (G : List Blk) (e' : Option Nat) (y8 y9 y10 y11 y12 : AV), k + i = ts.length ∧ s.ok = true ∧ tasksT s i (ts.drop i) = tasksT ⟨ls, ss, a, b, t, c⟩ 0 ts ∧ j1 ≠ j2 ∧ clean H.length e' = true ∧
      (∀ M N, (B0 :: M :: B2 :: B3 :: N :: G)[j1]? = some (.cells (encL s.ls) true)) ∧ (∀ M N, (B0 :: M :: B2 :: B3 :: N :: G)[j2]? = some (.cells (encS s.ss) true)) ∧
      (∃ v0 v1 v2 v3 v4 v5, B1 = .cells [v0, v1, v2, v3, v4, v5] true) ∧
      st = ⟨[stV (slL q1 ls.length c1) a b (slS q2 ss.length c2) t c, slT qt ts.length ct, .ptr (some (H.length, 0)), .ptr (some (H.length + 1, 0)), .int .i64 0, .bool false, .ptr (some (H.length + 4, 0)), .int .i64 i, y8, y9, y10, y11, y12], ⟨H ++ (B0 :: B1 :: B2 :: B3 :: .cells (sdC s (H.length + j1) (H.length + j2)) true :: G), e'⟩⟩) ?_ ts.length _
    ⟨0, ⟨ls, ss, a, b, t, c⟩, 2, 3, _, _, _, _, [], _, _, _, _, _, _, rfl, hv, rfl, by decide, ?_, fun M N => rfl, fun M N => rfl, ⟨_, _, _, _, _, _, rfl⟩, rfl⟩
  · rintro k _ ⟨i, s, j1, j2, B0, B1, B2, B3, G, e', y8, y9, y10, y11, y12, hk, hok, htt, hne, he', g1, g2, ⟨v0, v1, v2, v3, v4, v5, rfl⟩, rfl⟩
    by_cases hi : i < ts.length
    · obtain ⟨m, hm⟩ : ∃ m, ts[i]? = some m := ⟨_, List.getElem?_eq_getElem hi⟩
      have hd : ts.drop i = m :: ts.drop (i + 1) := by
        rw [List.drop_eq_getElem_cons hi]
        rw [List.getElem?_eq_getElem hi] at hm
        rw [Option.some.inj hm]
      have hpt : part true (encT ts) (i * 4) 4 = some (tkV m.1 m.2.1 m.2.2.1 m.2.2.2) := part_encE tkC_length hm
      have hg1 : ∀ M N X, cellsAt (B0 :: M :: B2 :: B3 :: N :: (G ++ X)) j1 = some (encL s.ls) := fun M N X => cellsAt_of (get_more (g1 M N) X)
      have hg2 : ∀ M N X, cellsAt (B0 :: M :: B2 :: B3 :: N :: (G ++ X)) j2 = some (encS s.ss) := fun M N X => cellsAt_of (get_more (g2 M N) X)
      have hg10 : ∀ M N, cellsAt (B0 :: M :: B2 :: B3 :: N :: G) j1 = some (encL s.ls) := fun M N => cellsAt_of (g1 M N)
      have hg20 : ∀ M N, cellsAt (B0 :: M :: B2 :: B3 :: N :: G) j2 = some (encS s.ss) := fun M N => cellsAt_of (g2 M N)
      have hss := st_small hok
      have hdo := fun L e' (h1 : cellsAt L (H.length + j1) = some (encL s.ls)) (h2 : cellsAt L (H.length + j2) = some (encS s.ss)) => (e_s_l12Do (pr := pr) (H := L) (e := e') (c1 := none) (c2 := none) h1 h2 (by omega) (by omega) s.a s.b s.t s.c m.1 m.2.1 m.2.2.1 m.2.2.2).trans (step_res L e' s m)
      rw [hd, tasksT] at htt
      cases hst : stepT s m with
      | none =>
        simp only [hst] at hdo htt
        rw [← htt]
        have hk1 : ∀ M N X, (B0 :: M :: B2 :: B3 :: N :: (G ++ X))[j1]? = some (.cells (encL s.ls) true) := fun M N X => get_more (g1 M N) X
        have hk2 : ∀ M N X, (B0 :: M :: B2 :: B3 :: N :: (G ++ X))[j2]? = some (.cells (encS s.ss) true) := fun M N X => get_more (g2 M N) X
        simp +contextual only [w_s_DoTasks_1, fillParts, cells_mono ht, hi, hpt, hg1, hg2, hg10, hg20, hk1, hk2, hdo, under_sliceN, clean_ite, clean_minEsc, he', ne_eq, hne, not_false_eq_true, under_encL, under_encS, decide_true, Wp_some, Wp_none, Wp_ite, Wc_some, Wc_none, Wc_ite, Wp_thenRun, seqQ_normal, seqQ_exit, seqQ_ret, Wp_inBlock, blkQ_normal, blkQ_ret, blkQ_same, blkQ_exit, Wp_opThen, opQ_at, Wp_guardP, retQ_normal, retQ_ret, loopQ_normal, loopQ_exit, loopQ_ret, finish_one_eq, finish_one_eq0, finish_two_eq, finish_two_eq0, roots_slice_new, roots_slice_new0, roots_slice_none, roots_ptr_new, roots_ptr_new0, roots_int, roots_bool, roots_str, roots_agg, roots_tup, roots_cons, roots_nil, rename_slice, rename_slice_none, rename_ptr, rename_int, rename_bool, rename_str, rename_agg, rename_tup, rename_cons, rename_nil, keepBlks_nil, keepBlks_cons, flatAll_nil, flatAll_cons, flatBlk_cells, dedup_nil, dedup_one, dedup_two, renum_one, renum_one0, renum_two0, renum_two1, clean_none', clean_some, minEsc_none, minEsc_some, Nat.add_left_cancel_iff, Nat.le_add_right, Nat.le_refl, decide_true, go_sem, entry, joinEsc, if_pos, reduceIte, Nat.reduceAdd, Nat.reduceLeDiff, Nat.reduceLT, Nat.reduceEqDiff]
      | some s' =>
        simp only [hst] at hdo htt
        simp +contextual only [w_s_DoTasks_1, fillParts, cells_mono ht, hi, hpt, hg1, hg2, hg10, hg20, hdo, wrap_succ (show i < 9223372036854775807 by omega), under_sliceN, clean_ite, clean_minEsc, decide_true, Wp_some, Wp_none, Wp_ite, Wc_some, Wc_none, Wc_ite, Wp_thenRun, seqQ_normal, seqQ_exit, seqQ_ret, Wp_inBlock, blkQ_normal, blkQ_ret, blkQ_same, blkQ_exit, Wp_opThen, opQ_at, Wp_guardP, retQ_normal, retQ_ret, loopQ_normal, loopQ_exit, loopQ_ret, go_sem, entry, joinEsc, if_pos, reduceIte, Nat.reduceAdd, Nat.reduceLeDiff, Nat.reduceLT, Nat.reduceEqDiff]
        refine ⟨k - 1, by omega, i + 1, s', G.length + 5, G.length + 6, _, _, _, _, _, _, _, _, _, _, _, by omega, stepT_ok hok hst, htt, by omega, ?_, fun M N => ?_, fun M N => ?_, ⟨_, _, _, _, _, _, rfl⟩, rfl⟩
        · simp only [clean_ite, clean_minEsc, he', Nat.le_add_right, Nat.add_assoc, decide_true, Bool.true_and, ite_self]
        · show (G ++ _)[G.length]? = _
          rw [blkAt_new0]; rfl
        · show (G ++ _)[G.length + 1]? = _
          rw [blkAt_newk]; rfl
    · obtain rfl : i = ts.length := by omega
      rw [List.drop_length, tasksT] at htt
      rw [← htt]
      simp +contextual only [w_s_DoTasks_1, fillParts, hi, g1, g2, under_sliceN, clean_ite, clean_minEsc, he', ne_eq, hne, not_false_eq_true, under_encL, under_encS, decide_true, decide_false, Wp_some, Wp_none, Wp_ite, Wc_some, Wc_none, Wc_ite, Wp_thenRun, seqQ_normal, seqQ_exit, seqQ_ret, Wp_inBlock, blkQ_normal, blkQ_ret, blkQ_same, blkQ_exit, Wp_opThen, opQ_at, Wp_guardP, retQ_normal, retQ_ret, loopQ_normal, loopQ_exit, loopQ_ret, finish_one_eq, finish_one_eq0, finish_two_eq, finish_two_eq0, roots_slice_new, roots_slice_new0, roots_slice_none, roots_ptr_new, roots_ptr_new0, roots_int, roots_bool, roots_str, roots_agg, roots_tup, roots_cons, roots_nil, rename_slice, rename_slice_none, rename_ptr, rename_int, rename_bool, rename_str, rename_agg, rename_tup, rename_cons, rename_nil, keepBlks_nil, keepBlks_cons, flatAll_nil, flatAll_cons, flatBlk_cells, dedup_nil, dedup_one, dedup_two, renum_one, renum_one0, renum_two0, renum_two1, clean_none', clean_some, minEsc_none, minEsc_some, Nat.add_left_cancel_iff, Nat.le_add_right, Nat.le_refl, decide_true, go_sem, entry, joinEsc, if_pos, reduceIte, Nat.reduceAdd, Nat.reduceLeDiff, Nat.reduceLT, Nat.reduceEqDiff]
  · simp only [clean_ite, clean_minEsc, clean_none', Nat.le_add_right, Nat.add_assoc, decide_true, Bool.true_and, ite_self]

end Go.Proofs.Ytlocjmbfcdfjfaa.Slim

/- The drawing of arguments from bytes: the cursor. -/
namespace Go.Proofs.Ytlocjmbfcdfjfaa.Slim

open Go

set_option linter.unusedSimpArgs false

set_option linter.unusedVariables false

variable {pr : Prims} {H : List Blk} {e : Option Nat}

section

variable {C : FuncId → List AV → Mem → Option (AV × Mem)} {g : X → AV} {m : Mem}

def nilCheckV (v : AV) : Option AV := match v with
  | .ptr (some p) => some (.ptr (some p))
  | .fn f a b => some (.fn f a b)
  | _ => none

theorem aop_nilCheck (x : X) : aop C g m (.nilCheck x) = valOf m (nilCheckV (g x)) := by
  rw [aop_of_light rfl]
  simp only [light, nilCheckV]
  generalize g x = v
  cases v with
  | ptr p => cases p <;> rfl
  | _ => rfl

theorem nilCheckV_ptr (p : Nat × Nat) : nilCheckV (.ptr (some p)) = some (.ptr (some p)) := rfl

end

/-- a slice of bytes, in memory -/
def CodeAt (L : List Blk) (av : AV) : Prop :=
  ∃ zs : List Int, zs.length ≤ 70000 ∧ (∀ z ∈ zs, 0 ≤ z ∧ z ≤ 255) ∧ ((av = .slice none 0 0 none ∧ zs = []) ∨ ∃ b c, av = .slice (some (b, 0)) 1 zs.length c ∧ cellsAt L b = some (zs.map (AV.int .u8)))

theorem CodeAt.more {L : List Blk} {av : AV} (h : CodeAt L av) (G : List Blk) : CodeAt (L ++ G) av := by
  obtain ⟨zs, h1, h2, h3 | ⟨b, c, h3, h4⟩⟩ := h
  · exact ⟨zs, h1, h2, .inl h3⟩
  · exact ⟨zs, h1, h2, .inr ⟨b, c, h3, cells_mono h4 G⟩⟩

abbrev curB (av : AV) (p h : Int) : Blk := .cells [av, .int .i64 p, .int .u64 h] true

/-- a cursor -/
def Cu (L : List Blk) (q : Nat) (av : AV) (p : Int) : Prop := (∃ h, L[q]? = some (curB av p h)) ∧ CodeAt L av ∧ 0 ≤ p

theorem Cu.lt {L : List Blk} {q : Nat} {av : AV} {p : Int} (h : Cu L q av p) : q < L.length := by
  obtain ⟨⟨_, h⟩, _⟩ := h
  exact (List.getElem?_eq_some_iff.mp h).1

theorem Cu.more {L : List Blk} {q : Nat} {av : AV} {p : Int} (h : Cu L q av p) (G : List Blk) : Cu (L ++ G) q av p := by
  have hl := h.lt
  obtain ⟨⟨z, h1⟩, h2, h3⟩ := h
  exact ⟨⟨z, by rw [List.getElem?_append_left hl, h1]⟩, h2.more G, h3⟩

theorem Cu.step {L : List Blk} {q : Nat} {av : AV} {p : Int} (h : Cu L q av p) {y : Int} (hy : 0 ≤ y) (z : Int) : Cu (L.set q (curB av y z)) q av y := by
  have hl := h.lt
  obtain ⟨⟨w, h1⟩, ⟨zs, g1, g2, g3⟩, h3⟩ := h
  refine ⟨⟨z, List.getElem?_set_self hl⟩, ⟨zs, g1, g2, ?_⟩, hy⟩
  rcases g3 with g3 | ⟨b, c, e2, e3⟩
  · exact .inl g3
  refine .inr ⟨b, c, e2, ?_⟩
  have hbq : b ≠ q := by
    rintro rfl
    unfold cellsAt at e3
    rw [h1] at e3
    simp at e3
    match zs with
    | [] => simp at e3
    | [_] => simp at e3
    | _ :: _ :: _ => simp at e3
  unfold cellsAt at e3 ⊢
  rw [List.getElem?_set_ne (fun h => hbq h.symm)]
  exact e3

theorem set_app {L : List Blk} {q : Nat} (h : q < L.length) (x : Blk) (G : List Blk) : (L ++ G).set q x = L.set q x ++ G := List.set_append_left _ _ h

theorem finish_one_setG (v : AV) (e0 e1 : Option Nat) (b : Nat) (x : Blk) (G : List Blk) : finish 1 H.length e0 v ⟨H.set b x ++ G, e1⟩ = if v.under H.length = true ∧ clean H.length e1 = true then some (v, ⟨H.set b x, e0⟩) else none := by
  unfold finish
  have : (H.set b x ++ G).take H.length = H.set b x := by
    rw [List.take_append_of_le_length (by simp), List.take_of_length_le (by simp)]
  simp [this]

theorem finish_one_set0 (v : AV) (e0 e1 : Option Nat) (b : Nat) (x : Blk) : finish 1 H.length e0 v ⟨H.set b x, e1⟩ = if v.under H.length = true ∧ clean H.length e1 = true then some (v, ⟨H.set b x, e0⟩) else none := by
  have := finish_one_setG (H := H) v e0 e1 b x []
  rwa [List.append_nil] at this

theorem cellsAt_s0 (q : Nat) (x : Blk) (l : List Blk) : cellsAt (H.set q x ++ l) H.length = cellsAt l 0 := by simp [cellsAt, List.getElem?_append_right]

theorem cellsAt_sk (q : Nat) (x : Blk) (l : List Blk) (k : Nat) : cellsAt (H.set q x ++ l) (H.length + k) = cellsAt l k := by simp [cellsAt, List.getElem?_append_right]

theorem blkAt_s0 (q : Nat) (x : Blk) (l : List Blk) : (H.set q x ++ l)[H.length]? = l[0]? := by simp [List.getElem?_append_right]

theorem blkAt_sk (q : Nat) (x : Blk) (l : List Blk) (k : Nat) : (H.set q x ++ l)[H.length + k]? = l[k]? := by simp [List.getElem?_append_right]

theorem set_s0 (q : Nat) (x : Blk) (l : List Blk) (b : Blk) : (H.set q x ++ l).set H.length b = H.set q x ++ l.set 0 b := by simp [List.set_append_right]

theorem set_sk (q : Nat) (x : Blk) (l : List Blk) (b : Blk) (k : Nat) : (H.set q x ++ l).set (H.length + k) b = H.set q x ++ l.set k b := by simp [List.set_append_right]

theorem set_sapp {q : Nat} (h : q < H.length) (x y : Blk) (l : List Blk) : (H.set q x ++ l).set q y = H.set q y ++ l := by
  rw [List.set_append_left _ _ (by simpa using h), List.set_set]

theorem Cu.new {G : List Blk} {k : Nat} {av : AV} {y z : Int} (hG : G[k]? = some (curB av y z)) (hc : CodeAt H av) (hy : 0 ≤ y) : Cu (H ++ G) (H.length + k) av y :=
  ⟨⟨z, by rw [List.getElem?_append_right (by omega), Nat.add_sub_cancel_left, hG]⟩, hc.more G, hy⟩

theorem Cu.cells {L : List Blk} {q : Nat} {av : AV} {p : Int} (h : Cu L q av p) : ∃ w, L[q]? = some (curB av p w) ∧ cellsAt L q = some [av, .int .i64 p, .int .u64 w] := by
  obtain ⟨⟨w, h1⟩, _⟩ := h
  exact ⟨w, h1, by unfold cellsAt; rw [h1]⟩

theorem cells_set {L : List Blk} {q : Nat} (h : q < L.length) (cs : List AV) (wr : Bool) : cellsAt (L.set q (.cells cs wr)) q = some cs := by
  unfold cellsAt
  rw [List.getElem?_set_self h]

theorem andI_255 (x : Int) : 0 ≤ andI .u64 x 255 ∧ andI .u64 x 255 ≤ 255 := by
  have h1 : (BitVec.ofInt 64 x &&& BitVec.ofInt 64 255).toNat ≤ 255 := by
    rw [BitVec.toNat_and]
    exact Nat.le_trans Nat.and_le_right (by decide)
  have h2 : andI .u64 x 255 = IntKind.u64.wrap ((BitVec.ofInt 64 x &&& BitVec.ofInt 64 255).toNat : Int) := rfl
  rw [h2]
  generalize (BitVec.ofInt 64 x &&& BitVec.ofInt 64 255).toNat = n at *
  have : IntKind.u64.wrap (n : Int) = n := by
    simp [IntKind.wrap, IntKind.bits, IntKind.signed]
    omega
  rw [this]
  omega

theorem wc_next {q : Nat} {av : AV} {p : Int} (h : Cu H q av p) (hp : p ≤ 1000000000000) : Wc (call T pr f_s_l1Cur_next [.ptr (some (q, 0))] ⟨H, e⟩) (fun v m => ∃ x y z : Int, v = .int .i64 x ∧ 0 ≤ x ∧ x ≤ 255 ∧ 0 ≤ y ∧ y ≤ p + 1 ∧ m = ⟨H.set q (curB av y z), e⟩) := by
  have hl := h.lt
  obtain ⟨w, h1, hcell⟩ := h.cells
  obtain ⟨_, ⟨zs, g2, g3, g4⟩, h3⟩ := h
  obtain ⟨p', sz, c, rfl⟩ : ∃ p' sz c, av = .slice p' sz zs.length c := by
    rcases g4 with ⟨rfl, rfl⟩ | ⟨b, c, rfl, _⟩
    · exact ⟨_, _, _, rfl⟩
    · exact ⟨_, _, _, rfl⟩
  obtain ⟨n, rfl⟩ : ∃ n : Nat, p = (n : Int) := ⟨p.toNat, by omega⟩
  have hw := wrap_succ (show n < 9223372036854775807 by omega)
  have hsg : ∀ (y : Blk), (H.set q y)[q]? = some y := fun y => List.getElem?_set_self hl
  have hcs := fun cs wr => cells_set (L := H) hl cs wr
  rw [call_wc t_s_l1Cur_next]
  by_cases hn : n < zs.length
  · have hne : zs ≠ [] := by intro h0; rw [h0] at hn; simp at hn
    obtain ⟨b, hq, hb⟩ : ∃ b, (p' = some (b, 0) ∧ sz = 1) ∧ cellsAt H b = some (zs.map (AV.int .u8)) := by
      rcases g4 with ⟨_, rfl⟩ | ⟨b, c', hq, hb⟩
      · exact absurd rfl hne
      · cases hq; exact ⟨b, ⟨rfl, rfl⟩, hb⟩
    obtain ⟨rfl, rfl⟩ := hq
    have hz := g3 zs[n] (List.getElem_mem _)
    have hpart : part false (zs.map (AV.int .u8)) n 1 = some (.int .u8 zs[n]) := by
      rw [part_false, List.getElem?_map, List.getElem?_eq_getElem hn]
      rfl
    have hcv : IntKind.i64.wrap zs[n] = zs[n] := wrap64 (by omega) (by omega)
    have hle : decide (((n + 1 : Nat) : Int) ≤ (zs.length : Int)) = true := decide_eq_true (by omega)
    have hle' : n + 1 ≤ zs.length := hn
    simp +contextual only [a_s_l1Cur_next, c_s_l1Cur_next, aop_nilCheck, nilCheckV_ptr, h1, hcell, hsg, hcs, hn, hb, hpart, hcv, hw, hle, hle', List.set_set, Nat.mul_one, decide_true, finish_one_set0, clean_none', Wp_some, Wp_none, Wp_ite, Wc_some, Wc_none, Wc_ite, Wp_thenRun, seqQ_normal, seqQ_exit, seqQ_ret, Wp_inBlock, blkQ_normal, blkQ_ret, blkQ_same, blkQ_exit, Wp_opThen, opQ_at, Wp_guardP, retQ_normal, retQ_ret, loopQ_normal, loopQ_exit, loopQ_ret, go_sem, entry, joinEsc, if_pos, reduceIte, Nat.reduceAdd, Nat.reduceLeDiff, Nat.reduceLT, Nat.reduceEqDiff]
    exact ⟨_, _, _, rfl, hz.1, hz.2, by omega, by omega, rfl⟩
  · have hle : decide (((n + 1 : Nat) : Int) ≤ (zs.length : Int)) = false := decide_eq_false (by omega)
    have hle' : ¬ n + 1 ≤ zs.length := by omega
    have hcv : ∀ x : Int, IntKind.i64.wrap (andI .u64 x 255) = andI .u64 x 255 := fun x => wrap64 (by have := andI_255 x; omega) (by have := andI_255 x; omega)
    simp +contextual only [a_s_l1Cur_next, c_s_l1Cur_next, aop_nilCheck, nilCheckV_ptr, h1, hcell, hsg, hcs, hn, hcv, hw, hle, hle', show ¬ ((40 : Int) < 0) by omega, List.set_set, Nat.mul_one, decide_true, decide_false, finish_one_set0, clean_none', Wp_some, Wp_none, Wp_ite, Wc_some, Wc_none, Wc_ite, Wp_thenRun, seqQ_normal, seqQ_exit, seqQ_ret, Wp_inBlock, blkQ_normal, blkQ_ret, blkQ_same, blkQ_exit, Wp_opThen, opQ_at, Wp_guardP, retQ_normal, retQ_ret, loopQ_normal, loopQ_exit, loopQ_ret, go_sem, entry, joinEsc, if_pos, reduceIte, Nat.reduceAdd, Nat.reduceLeDiff, Nat.reduceLT, Nat.reduceEqDiff]
    exact ⟨_, _, _, rfl, (andI_255 _).1, (andI_255 _).2, by omega, by omega, rfl⟩

theorem wc_pick {q : Nat} {av : AV} {p : Int} (n : Int) (h : Cu H q av p) (hp : p ≤ 100000000000) (hn : n ≤ 1000000000000) : Wc (call T pr f_s_l1Cur_pick [.ptr (some (q, 0)), .int .i64 n] ⟨H, e⟩) (fun v m => ∃ x y z : Int, v = .int .i64 x ∧ 0 ≤ x ∧ (x < n ∨ x = 0) ∧ 0 ≤ y ∧ y ≤ p + 2 ∧ m = ⟨H.set q (curB av y z), e⟩) := by
  have hl := h.lt
  rw [call_wc t_s_l1Cur_pick]
  by_cases h1 : n ≤ 1
  · obtain ⟨w, hw, _⟩ := h.cells
    have hsame : H = H.set q (curB av p w) := by
      obtain ⟨hb, he⟩ := List.getElem?_eq_some_iff.mp hw
      rw [← he, List.set_getElem_self]
    have h1' : decide (n ≤ 1) = true := decide_eq_true h1
    simp +contextual only [a_s_l1Cur_pick, c_s_l1Cur_pick, h1, h1', decide_true, Wp_some, Wp_none, Wp_ite, Wc_some, Wc_none, Wc_ite, Wp_thenRun, seqQ_normal, seqQ_exit, seqQ_ret, Wp_inBlock, blkQ_normal, blkQ_ret, blkQ_same, blkQ_exit, Wp_opThen, opQ_at, Wp_guardP, retQ_normal, retQ_ret, loopQ_normal, loopQ_exit, loopQ_ret, finish_one_eq, finish_one_eq0, finish_two_eq, finish_two_eq0, roots_slice_new, roots_slice_new0, roots_slice_none, roots_ptr_new, roots_ptr_new0, roots_int, roots_bool, roots_str, roots_agg, roots_tup, roots_cons, roots_nil, rename_slice, rename_slice_none, rename_ptr, rename_int, rename_bool, rename_str, rename_agg, rename_tup, rename_cons, rename_nil, keepBlks_nil, keepBlks_cons, flatAll_nil, flatAll_cons, flatBlk_cells, dedup_nil, dedup_one, dedup_two, renum_one, renum_one0, renum_two0, renum_two1, clean_none', clean_some, minEsc_none, minEsc_some, Nat.add_left_cancel_iff, Nat.le_add_right, Nat.le_refl, decide_true, go_sem, entry, joinEsc, if_pos, reduceIte, Nat.reduceAdd, Nat.reduceLeDiff, Nat.reduceLT, Nat.reduceEqDiff]
    exact ⟨0, p, w, rfl, Int.le_refl _, .inr rfl, h.2.2, by omega, by rw [← hsame]⟩
  · have h1' : decide (n ≤ 1) = false := decide_eq_false h1
    simp +contextual only [a_s_l1Cur_pick, c_s_l1Cur_pick, h1, h1', decide_false, Wp_some, Wp_none, Wp_ite, Wc_some, Wc_none, Wc_ite, Wp_thenRun, seqQ_normal, seqQ_exit, seqQ_ret, Wp_inBlock, blkQ_normal, blkQ_ret, blkQ_same, blkQ_exit, Wp_opThen, opQ_at, Wp_guardP, retQ_normal, retQ_ret, loopQ_normal, loopQ_exit, loopQ_ret, go_sem, entry, joinEsc, if_pos, reduceIte, Nat.reduceAdd, Nat.reduceLeDiff, Nat.reduceLT, Nat.reduceEqDiff]
    refine (wc_next h (by omega)).mono ?_
    rintro v m ⟨x, y, z, rfl, hx0, hx1, hy0, hy1, rfl⟩
    have h' := h.step hy0 z
    have hmod : ∀ u : Int, 0 ≤ u → 0 ≤ u.tmod n ∧ u.tmod n < n := fun u hu => ⟨Int.tmod_nonneg _ hu, Int.tmod_lt_of_pos _ (by omega)⟩
    have hnz : ¬ n = 0 := by omega
    by_cases h2 : 200 < n
    · have h2' : decide (200 < n) = true := decide_eq_true h2
      have hm1 : IntKind.i64.wrap (x * 256) = x * 256 := wrap64 (by omega) (by omega)
      simp +contextual only [gt_iff_lt, h2, h2', hm1, decide_true, Wp_some, Wp_none, Wp_ite, Wc_some, Wc_none, Wc_ite, Wp_thenRun, seqQ_normal, seqQ_exit, seqQ_ret, Wp_inBlock, blkQ_normal, blkQ_ret, blkQ_same, blkQ_exit, Wp_opThen, opQ_at, Wp_guardP, retQ_normal, retQ_ret, loopQ_normal, loopQ_exit, loopQ_ret, go_sem, entry, joinEsc, if_pos, reduceIte, Nat.reduceAdd, Nat.reduceLeDiff, Nat.reduceLT, Nat.reduceEqDiff]
      refine (wc_next h' (by omega)).mono ?_
      rintro v m ⟨x2, y2, z2, rfl, hx20, hx21, hy20, hy21, rfl⟩
      have hm2 : IntKind.i64.wrap (x * 256 + x2) = x * 256 + x2 := wrap64 (by omega) (by omega)
      have hm := hmod (x * 256 + x2) (by omega)
      simp +contextual only [a_s_l1Cur_pick, hm2, hnz, List.set_set, finish_one_set0, clean_none', Wp_some, Wp_none, Wp_ite, Wc_some, Wc_none, Wc_ite, Wp_thenRun, seqQ_normal, seqQ_exit, seqQ_ret, Wp_inBlock, blkQ_normal, blkQ_ret, blkQ_same, blkQ_exit, Wp_opThen, opQ_at, Wp_guardP, retQ_normal, retQ_ret, loopQ_normal, loopQ_exit, loopQ_ret, finish_one_eq, finish_one_eq0, finish_two_eq, finish_two_eq0, roots_slice_new, roots_slice_new0, roots_slice_none, roots_ptr_new, roots_ptr_new0, roots_int, roots_bool, roots_str, roots_agg, roots_tup, roots_cons, roots_nil, rename_slice, rename_slice_none, rename_ptr, rename_int, rename_bool, rename_str, rename_agg, rename_tup, rename_cons, rename_nil, keepBlks_nil, keepBlks_cons, flatAll_nil, flatAll_cons, flatBlk_cells, dedup_nil, dedup_one, dedup_two, renum_one, renum_one0, renum_two0, renum_two1, clean_none', clean_some, minEsc_none, minEsc_some, Nat.add_left_cancel_iff, Nat.le_add_right, Nat.le_refl, decide_true, go_sem, entry, joinEsc, if_pos, reduceIte, Nat.reduceAdd, Nat.reduceLeDiff, Nat.reduceLT, Nat.reduceEqDiff]
      exact ⟨_, _, _, rfl, hm.1, .inl hm.2, hy20, by omega, rfl⟩
    · have h2' : decide (200 < n) = false := decide_eq_false h2
      have hm := hmod x hx0
      simp +contextual only [a_s_l1Cur_pick, gt_iff_lt, h2, h2', hnz, List.set_set, finish_one_set0, clean_none', decide_false, Wp_some, Wp_none, Wp_ite, Wc_some, Wc_none, Wc_ite, Wp_thenRun, seqQ_normal, seqQ_exit, seqQ_ret, Wp_inBlock, blkQ_normal, blkQ_ret, blkQ_same, blkQ_exit, Wp_opThen, opQ_at, Wp_guardP, retQ_normal, retQ_ret, loopQ_normal, loopQ_exit, loopQ_ret, finish_one_eq, finish_one_eq0, finish_two_eq, finish_two_eq0, roots_slice_new, roots_slice_new0, roots_slice_none, roots_ptr_new, roots_ptr_new0, roots_int, roots_bool, roots_str, roots_agg, roots_tup, roots_cons, roots_nil, rename_slice, rename_slice_none, rename_ptr, rename_int, rename_bool, rename_str, rename_agg, rename_tup, rename_cons, rename_nil, keepBlks_nil, keepBlks_cons, flatAll_nil, flatAll_cons, flatBlk_cells, dedup_nil, dedup_one, dedup_two, renum_one, renum_one0, renum_two0, renum_two1, clean_none', clean_some, minEsc_none, minEsc_some, Nat.add_left_cancel_iff, Nat.le_add_right, Nat.le_refl, decide_true, go_sem, entry, joinEsc, if_pos, reduceIte, Nat.reduceAdd, Nat.reduceLeDiff, Nat.reduceLT, Nat.reduceEqDiff]
      exact ⟨_, _, _, rfl, hm.1, .inl hm.2, hy0, by omega, rfl⟩

theorem wc_one {q : Nat} {av : AV} {p : Int} (n : Int) (h : Cu H q av p) (hp : p ≤ 100000000000) (hn : n ≤ 1000000000000) : Wc (call T pr f_s_l1Cur_one [.ptr (some (q, 0)), .int .i64 n] ⟨H, e⟩) (fun v m => ∃ (x : Bool) (y z : Int), v = .bool x ∧ 0 ≤ y ∧ y ≤ p + 2 ∧ m = ⟨H.set q (curB av y z), e⟩) := by
  rw [call_wc t_s_l1Cur_one]
  simp +contextual only [a_s_l1Cur_one, c_s_l1Cur_one, Wp_some, Wp_none, Wp_ite, Wc_some, Wc_none, Wc_ite, Wp_thenRun, seqQ_normal, seqQ_exit, seqQ_ret, Wp_inBlock, blkQ_normal, blkQ_ret, blkQ_same, blkQ_exit, Wp_opThen, opQ_at, Wp_guardP, retQ_normal, retQ_ret, loopQ_normal, loopQ_exit, loopQ_ret, go_sem, entry, joinEsc, if_pos, reduceIte, Nat.reduceAdd, Nat.reduceLeDiff, Nat.reduceLT, Nat.reduceEqDiff]
  refine (wc_pick n h hp hn).mono ?_
  rintro v m ⟨x, y, z, rfl, hx0, hx1, hy0, hy1, rfl⟩
  simp +contextual only [a_s_l1Cur_one, List.set_set, finish_one_set0, clean_none', Wp_some, Wp_none, Wp_ite, Wc_some, Wc_none, Wc_ite, Wp_thenRun, seqQ_normal, seqQ_exit, seqQ_ret, Wp_inBlock, blkQ_normal, blkQ_ret, blkQ_same, blkQ_exit, Wp_opThen, opQ_at, Wp_guardP, retQ_normal, retQ_ret, loopQ_normal, loopQ_exit, loopQ_ret, finish_one_eq, finish_one_eq0, finish_two_eq, finish_two_eq0, roots_slice_new, roots_slice_new0, roots_slice_none, roots_ptr_new, roots_ptr_new0, roots_int, roots_bool, roots_str, roots_agg, roots_tup, roots_cons, roots_nil, rename_slice, rename_slice_none, rename_ptr, rename_int, rename_bool, rename_str, rename_agg, rename_tup, rename_cons, rename_nil, keepBlks_nil, keepBlks_cons, flatAll_nil, flatAll_cons, flatBlk_cells, dedup_nil, dedup_one, dedup_two, renum_one, renum_one0, renum_two0, renum_two1, clean_none', clean_some, minEsc_none, minEsc_some, Nat.add_left_cancel_iff, Nat.le_add_right, Nat.le_refl, decide_true, go_sem, entry, joinEsc, if_pos, reduceIte, Nat.reduceAdd, Nat.reduceLeDiff, Nat.reduceLT, Nat.reduceEqDiff]
  exact ⟨_, _, _, rfl, hy0, by omega, rfl⟩

theorem wc_among {q b : Nat} {av : AV} {p : Int} {c : Option Nat} {zs : List Int} (h : Cu H q av p) (hp : p ≤ 100000000000) (hb : cellsAt H b = some (zs.map (AV.int .i64))) (hbq : b ≠ q) (h0 : 0 < zs.length) (hn : zs.length ≤ 1000000) : Wc (call T pr f_s_l1Cur_among [.ptr (some (q, 0)), .slice (some (b, 0)) 1 zs.length c] ⟨H, e⟩) (fun v m => ∃ x y z : Int, v = .int .i64 x ∧ x ∈ zs ∧ 0 ≤ y ∧ y ≤ p + 2 ∧ m = ⟨H.set q (curB av y z), e⟩) := by
  rw [call_wc t_s_l1Cur_among]
  simp +contextual only [a_s_l1Cur_among, c_s_l1Cur_among, Wp_some, Wp_none, Wp_ite, Wc_some, Wc_none, Wc_ite, Wp_thenRun, seqQ_normal, seqQ_exit, seqQ_ret, Wp_inBlock, blkQ_normal, blkQ_ret, blkQ_same, blkQ_exit, Wp_opThen, opQ_at, Wp_guardP, retQ_normal, retQ_ret, loopQ_normal, loopQ_exit, loopQ_ret, go_sem, entry, joinEsc, if_pos, reduceIte, Nat.reduceAdd, Nat.reduceLeDiff, Nat.reduceLT, Nat.reduceEqDiff]
  refine (wc_pick (zs.length : Int) h hp (by omega)).mono ?_
  rintro v m ⟨x, y, z, rfl, hx0, hx1, hy0, hy1, rfl⟩
  obtain ⟨i, rfl⟩ : ∃ i : Nat, x = (i : Int) := ⟨x.toNat, by omega⟩
  have hi : i < zs.length := by omega
  have hcs : cellsAt (H.set q (curB av y z)) b = some (zs.map (AV.int .i64)) := by
    unfold cellsAt at hb ⊢
    rw [List.getElem?_set_ne (fun h => hbq h.symm)]
    exact hb
  have hpart : part false (zs.map (AV.int .i64)) i 1 = some (.int .i64 zs[i]) := by
    rw [part_false, List.getElem?_map, List.getElem?_eq_getElem hi]
    rfl
  simp +contextual only [a_s_l1Cur_among, hi, hcs, hpart, Nat.mul_one, List.set_set, finish_one_set0, clean_none', Wp_some, Wp_none, Wp_ite, Wc_some, Wc_none, Wc_ite, Wp_thenRun, seqQ_normal, seqQ_exit, seqQ_ret, Wp_inBlock, blkQ_normal, blkQ_ret, blkQ_same, blkQ_exit, Wp_opThen, opQ_at, Wp_guardP, retQ_normal, retQ_ret, loopQ_normal, loopQ_exit, loopQ_ret, finish_one_eq, finish_one_eq0, finish_two_eq, finish_two_eq0, roots_slice_new, roots_slice_new0, roots_slice_none, roots_ptr_new, roots_ptr_new0, roots_int, roots_bool, roots_str, roots_agg, roots_tup, roots_cons, roots_nil, rename_slice, rename_slice_none, rename_ptr, rename_int, rename_bool, rename_str, rename_agg, rename_tup, rename_cons, rename_nil, keepBlks_nil, keepBlks_cons, flatAll_nil, flatAll_cons, flatBlk_cells, dedup_nil, dedup_one, dedup_two, renum_one, renum_one0, renum_two0, renum_two1, clean_none', clean_some, minEsc_none, minEsc_some, Nat.add_left_cancel_iff, Nat.le_add_right, Nat.le_refl, decide_true, go_sem, entry, joinEsc, if_pos, reduceIte, Nat.reduceAdd, Nat.reduceLeDiff, Nat.reduceLT, Nat.reduceEqDiff]
  exact ⟨_, _, _, rfl, List.getElem_mem _, hy0, by omega, rfl⟩

end Go.Proofs.Ytlocjmbfcdfjfaa.Slim

/- The drawing of arguments from bytes: what is cut from the bytes. -/
namespace Go.Proofs.Ytlocjmbfcdfjfaa.Slim

open Go

set_option linter.unusedSimpArgs false

set_option linter.unusedVariables false

variable {pr : Prims} {H : List Blk} {e : Option Nat}

def seqHd : ACode → ACode
  | .seq a _ => a
  | c => c

def seqTl : ACode → ACode
  | .seq _ c => c
  | c => c

theorem seq_cut2 {c : ACode} (h : c = .seq (seqHd c) (.seq (seqHd (seqTl c)) (seqTl (seqTl c)))) : ∃ R, R = seqTl (seqTl c) ∧ c = .seq (seqHd c) (.seq (seqHd (seqTl c)) R) := ⟨_, rfl, h⟩

def slLoV (sz : Nat) (v l : AV) : Option AV := match v with
  | .slice p sz' n cap => (match natOf l with
    | some l => sliceVal sz p sz' n cap l n none
    | none => none)
  | _ => none

section

variable {C : FuncId → List AV → Mem → Option (AV × Mem)} {g : X → AV} {m : Mem}

theorem aop_slLo (sz : Nat) (x l : X) : aop C g m (.sliceSl sz x (some l) none none) = valOf m (slLoV sz (g x) (g l)) := by
  rw [aop_of_light rfl]
  simp only [light, slLoV, bound, optNat]
  generalize g x = v
  generalize natOf (g l) = o
  cases v <;> cases o <;> simp

end

theorem slLoV_c (sz b o n l : Nat) (cap : Option Nat) (hl : l ≤ n) : slLoV sz (.slice (some (b, o)) sz n cap) (.int .i64 l) = some (.slice (some (b, o + l * sz)) sz (n - l) (cap.map (· - l))) := by
  unfold slLoV natOf sliceVal
  simp [hl]

theorem src_part {L : List Blk} {q sz n o k : Nat} {cs : List AV} (c : Option Nat) (h : cellsAt L q = some cs) (hl : o * sz + k * sz ≤ cs.length) : srcCells false L (.slice (some (q, o * sz)) sz k c) = some (k, (cs.drop (o * sz)).take (k * sz)) := by
  unfold srcCells
  simp [h, hl]

theorem src_new (L : List Blk) (n sz : Nat) (cap : Option Nat) (cs : List AV) (b : Nat) (h : cellsAt L b = some cs) (hl : cs.length = n * sz) : srcCells false L (.slice (some (b, 0)) sz n cap) = some (n, cs) := by
  unfold srcCells
  simp [h, ← hl]

def codeLen : AV → Nat
  | .slice _ _ n _ => n
  | _ => 0

theorem e_l_vBig (p : Option (Nat × Nat)) (sz n : Nat) (c : Option Nat) : call T pr f_l_vBig [.slice p sz n c] ⟨H, e⟩ = some (.bool (decide ((65536 : Int) < (n : Int))), ⟨H, e⟩) := by
  rw [call_eq t_l_vBig]
  simp +contextual only [a_l_vBig, c_l_vBig, gt_iff_lt, go_sem, entry, joinEsc, if_pos, reduceIte, Nat.reduceAdd, Nat.reduceLeDiff, Nat.reduceLT, Nat.reduceEqDiff]

theorem CodeAt.form {L : List Blk} {av : AV} (h : CodeAt L av) : ∃ p sz n c, av = .slice p sz n c := by
  obtain ⟨zs, _, _, ⟨rfl, _⟩ | ⟨b, c, rfl, _⟩⟩ := h
  · exact ⟨_, _, _, _, rfl⟩
  · exact ⟨_, _, _, _, rfl⟩

/-- an argument that is a slice of bytes -/
def ArgB (L : List Blk) (av : AV) (zs : List Int) : Prop :=
  (∀ z ∈ zs, 0 ≤ z ∧ z ≤ 255) ∧ ((av = .slice none 0 0 none ∧ zs = []) ∨ ∃ b c, av = .slice (some (b, 0)) 1 zs.length c ∧ cellsAt L b = some (zs.map (AV.int .u8)))

theorem bytes_of : ∀ (es : List (List Int)), (∀ e ∈ es, e.length = 1 ∧ ∀ z ∈ e, (Lit.int .u8 z).wf = true) → es.flatten.length = es.length ∧ ∀ z ∈ es.flatten, 0 ≤ z ∧ z ≤ 255
  | [], _ => by simp
  | x :: es, h => by
    obtain ⟨h1, h2⟩ := bytes_of es fun e he => h e (by simp [he])
    obtain ⟨hx1, hx2⟩ := h x (by simp)
    match x, hx1 with
    | [a], _ =>
      refine ⟨by simp [h1], fun z hz => ?_⟩
      rw [List.flatten_cons] at hz
      rcases List.mem_append.mp hz with hz | hz
      · have := hx2 z hz
        simp [Lit.wf, IntKind.min, IntKind.max, IntKind.signed, IntKind.bits] at this
        omega
      · exact h2 z hz

theorem argB_of {av : AV} {es : List (List Int)} (h : IsArg H av .u8 1 es) : ∃ zs, ArgB H av zs := by
  obtain ⟨h1, h2⟩ := h
  obtain ⟨h6, h7⟩ := bytes_of es h1
  rcases h2 with ⟨rfl, rfl⟩ | ⟨b, cap, rfl, h3, h4, h5⟩
  · exact ⟨[], by simp, .inl ⟨rfl, rfl⟩⟩
  · refine ⟨es.flatten, h7, .inr ⟨b, some cap, by rw [h6], ?_⟩⟩
    unfold cellsAt
    rw [h5]

theorem ArgB.form {L : List Blk} {av : AV} {zs : List Int} (h : ArgB L av zs) : ∃ p sz n c, av = .slice p sz n c ∧ (n ≤ 65536 → CodeAt L av) := by
  obtain ⟨h1, ⟨rfl, rfl⟩ | ⟨b, c, rfl, h2⟩⟩ := h
  · exact ⟨_, _, _, _, rfl, fun _ => ⟨[], by simp, by simp, .inl ⟨rfl, rfl⟩⟩⟩
  · exact ⟨_, _, _, _, rfl, fun hn => ⟨zs, by omega, h1, .inr ⟨b, c, rfl, h2⟩⟩⟩

theorem append_none {L : List Blk} {b sz : Nat} {src : AV} (hb : L[b]? = some (.cells [] true)) (hs : srcCells false L src = some (0, [])) : appendV L e false 1 1 (.slice (some (b, 0)) 1 0 (some 0)) src = some (.slice (some (L.length, 0)) 1 0 none, ⟨L.set b .dead ++ [.cells [] true], e⟩) := by
  unfold appendV
  simp only [hb, hs]
  rw [if_pos ⟨trivial, by simp [maxBytes], by simp, by simp⟩, if_neg (by simp), if_pos trivial]
  rfl

theorem append_some {L : List Blk} {b n : Nat} {src : AV} {cs : List AV} (hb : L[b]? = some (.cells [] true)) (hs : srcCells false L src = some (n, cs)) (h0 : 0 < n) (hn : n ≤ 1000000) (hc : cs.length = n) : appendV L e false 1 1 (.slice (some (b, 0)) 1 0 (some 0)) src = some (.slice (some (L.length, 0)) 1 n none, ⟨L ++ [.cells cs true], e⟩) := by
  unfold appendV
  simp only [hb, hs]
  rw [if_pos ⟨trivial, by unfold maxBytes; omega, by omega, by simp⟩, if_pos ⟨trivial, h0⟩, Nat.zero_add]

theorem append_one {L : List Blk} {b q n : Nat} {cs new : List AV} {c : Option Nat} (hb : L[b]? = some (.cells cs true)) (hq : cellsAt L q = some new) (hcs : cs.length = n) (hnew : new.length = 1) (hn : n ≤ 1000000) :
    appendV L e false 1 1 (.slice (some (b, 0)) 1 n none) (.slice (some (q, 0)) 1 1 c) = some (.slice (some (L.length, 0)) 1 (n + 1) none, ⟨L.set b .dead ++ [.cells (cs ++ new) true], e⟩) := by
  have hs := src_new L 1 1 c new q hq (by omega)
  unfold appendV
  simp only [hb, hs]
  rw [if_pos ⟨trivial, by unfold maxBytes; omega, by omega, by omega⟩, if_neg (by simp), List.drop_zero, List.take_of_length_le (by omega), if_pos trivial]

theorem wc_vCut {av : AV} (k : Nat) (hk : k ≤ 255) (h : CodeAt H av) (hn : codeLen av ≤ 65536) : ∃ zs : List Int, call T pr f_l_vCut [av, .int .i64 k] ⟨H, e⟩ = some (.slice (some (H.length, 0)) 1 zs.length none, ⟨H ++ [.cells (zs.map (AV.int .u8)) true], e⟩) ∧ zs.length ≤ 70000 ∧ ∀ z ∈ zs, 0 ≤ z ∧ z ≤ 255 := by
  have hcv : IntKind.u8.wrap (k : Int) = (k : Int) := by
    simp [IntKind.wrap, IntKind.bits, IntKind.signed]
    omega
  obtain ⟨zs, g2, g3, g4⟩ := h
  have hsp : ∀ (j : Nat) (zs' : List Int), zs'.length ≤ 69999 → (∀ z ∈ zs', 0 ≤ z ∧ z ≤ 255) → j ≤ 255 → call T pr f_l_vCut [av, .int .i64 k] ⟨H, e⟩ = some (.slice (some (H.length, 0)) 1 (zs' ++ [(j : Int)]).length none, ⟨H ++ [.cells ((zs' ++ [(j : Int)]).map (AV.int .u8)) true], e⟩) → ∃ zs : List Int, call T pr f_l_vCut [av, .int .i64 k] ⟨H, e⟩ = some (.slice (some (H.length, 0)) 1 zs.length none, ⟨H ++ [.cells (zs.map (AV.int .u8)) true], e⟩) ∧ zs.length ≤ 70000 ∧ ∀ z ∈ zs, 0 ≤ z ∧ z ≤ 255 := by
    intro j zs' h1 h2 h3 h4
    refine ⟨zs' ++ [(j : Int)], h4, by rw [List.length_append, List.length_singleton]; omega, fun z hz => ?_⟩
    rcases List.mem_append.mp hz with hz | hz
    · exact h2 z hz
    · rw [List.mem_singleton.mp hz]; omega
  obtain ⟨m, hm⟩ : ∃ m, m = min k zs.length := ⟨_, rfl⟩
  have hml : m ≤ zs.length := by omega
  obtain ⟨src, hsl, hsrc⟩ : ∃ src, slLoV 1 av (.int .i64 m) = some src ∧ ∀ G, srcCells false (H ++ G) src = some (zs.length - m, (zs.drop m).map (AV.int .u8)) := by
    rcases g4 with ⟨rfl, rfl⟩ | ⟨b, c, rfl, hb⟩
    · have : m = 0 := by simpa using hml
      subst this
      exact ⟨.slice none 0 0 none, rfl, fun G => rfl⟩
    · refine ⟨_, slLoV_c 1 b 0 zs.length m c hml, fun G => ?_⟩
      have := src_part (L := H ++ G) (o := m) (sz := 1) (k := zs.length - m) (n := 0) (c.map (· - m)) (cells_mono hb G) (by rw [List.length_map]; omega)
      rw [Nat.zero_add, this, Nat.mul_one, Nat.mul_one, List.map_drop, List.take_of_length_le (by rw [List.length_drop, List.length_map]; omega)]
  obtain ⟨p', sz, c, rfl⟩ : ∃ p' sz c, av = .slice p' sz zs.length c := by
    rcases g4 with ⟨rfl, rfl⟩ | ⟨b, c, rfl, _⟩
    · exact ⟨_, _, _, rfl⟩
    · exact ⟨_, _, _, rfl⟩
  clear g4
  have hdl : (zs.drop m).length = zs.length - m := List.length_drop
  refine hsp m (zs.drop m) (by rw [hdl]; exact Nat.le_trans (Nat.sub_le _ _) (Nat.le_trans hn (by omega))) (fun z hz => g3 z (List.mem_of_mem_drop hz)) (by omega) ?_
  rw [List.length_append, List.length_singleton, hdl, List.map_append]
  have hcv : IntKind.u8.wrap (m : Int) = (m : Int) := by
    simp [IntKind.wrap, IntKind.bits, IntKind.signed]
    omega
  have hone := fun L b q e' c (hb : L[b]? = some (Blk.cells ((zs.drop m).map (AV.int .u8)) true)) (hq : cellsAt L q = some [AV.int .u8 m]) => append_one (e := e') (L := L) (b := b) (q := q) (n := zs.length - m) (c := c) hb hq (by rw [List.length_map, hdl]) rfl (by omega)
  apply Wc.eq
  rw [call_wc t_l_vCut]
  by_cases h0 : zs.length - m = 0
  · have hnil : zs.drop m = [] := List.eq_nil_of_length_eq_zero (by omega)
    rw [hnil] at hsrc hone ⊢
    rw [h0] at hsrc hone ⊢
    have hap := fun G b e' (hb : (H ++ G)[b]? = some (Blk.cells [] true)) => append_none (sz := 1) (e := e') hb (hsrc G)
    by_cases hlt : zs.length < k
    · obtain rfl : m = zs.length := by omega
      have hlt' : decide (zs.length < k) = true := decide_eq_true hlt
      simp +contextual only [a_l_vCut, c_l_vCut, fillParts, hlt, hlt', aop_slLo, hsl, hap, hone, hcv, decide_true, Nat.add_assoc, Wp_some, Wp_none, Wp_ite, Wc_some, Wc_none, Wc_ite, Wp_thenRun, seqQ_normal, seqQ_exit, seqQ_ret, Wp_inBlock, blkQ_normal, blkQ_ret, blkQ_same, blkQ_exit, Wp_opThen, opQ_at, Wp_guardP, retQ_normal, retQ_ret, loopQ_normal, loopQ_exit, loopQ_ret, finish_one_eq, finish_one_eq0, finish_two_eq, finish_two_eq0, roots_slice_new, roots_slice_new0, roots_slice_none, roots_ptr_new, roots_ptr_new0, roots_int, roots_bool, roots_str, roots_agg, roots_tup, roots_cons, roots_nil, rename_slice, rename_slice_none, rename_ptr, rename_int, rename_bool, rename_str, rename_agg, rename_tup, rename_cons, rename_nil, keepBlks_nil, keepBlks_cons, flatAll_nil, flatAll_cons, flatBlk_cells, dedup_nil, dedup_one, dedup_two, renum_one, renum_one0, renum_two0, renum_two1, clean_none', clean_some, minEsc_none, minEsc_some, Nat.add_left_cancel_iff, Nat.le_add_right, Nat.le_refl, decide_true, go_sem, entry, joinEsc, if_pos, reduceIte, Nat.reduceAdd, Nat.reduceLeDiff, Nat.reduceLT, Nat.reduceEqDiff]
    · obtain rfl : m = k := by omega
      have hlt' : decide (zs.length < m) = false := decide_eq_false hlt
      simp +contextual only [a_l_vCut, c_l_vCut, fillParts, hlt, hlt', aop_slLo, hsl, hap, hone, hcv, decide_true, Nat.add_assoc, Wp_some, Wp_none, Wp_ite, Wc_some, Wc_none, Wc_ite, Wp_thenRun, seqQ_normal, seqQ_exit, seqQ_ret, Wp_inBlock, blkQ_normal, blkQ_ret, blkQ_same, blkQ_exit, Wp_opThen, opQ_at, Wp_guardP, retQ_normal, retQ_ret, loopQ_normal, loopQ_exit, loopQ_ret, finish_one_eq, finish_one_eq0, finish_two_eq, finish_two_eq0, roots_slice_new, roots_slice_new0, roots_slice_none, roots_ptr_new, roots_ptr_new0, roots_int, roots_bool, roots_str, roots_agg, roots_tup, roots_cons, roots_nil, rename_slice, rename_slice_none, rename_ptr, rename_int, rename_bool, rename_str, rename_agg, rename_tup, rename_cons, rename_nil, keepBlks_nil, keepBlks_cons, flatAll_nil, flatAll_cons, flatBlk_cells, dedup_nil, dedup_one, dedup_two, renum_one, renum_one0, renum_two0, renum_two1, clean_none', clean_some, minEsc_none, minEsc_some, Nat.add_left_cancel_iff, Nat.le_add_right, Nat.le_refl, decide_true, go_sem, entry, joinEsc, if_pos, reduceIte, Nat.reduceAdd, Nat.reduceLeDiff, Nat.reduceLT, Nat.reduceEqDiff]
  · have hap := fun G b e' (hb : (H ++ G)[b]? = some (Blk.cells [] true)) => append_some (e := e') hb (hsrc G) (by omega) (by omega) (by rw [List.length_map, hdl])
    by_cases hlt : zs.length < k
    · omega
    · obtain rfl : m = k := by omega
      have hlt' : decide (zs.length < m) = false := decide_eq_false hlt
      have hun : ((List.map (AV.int IntKind.u8) (List.drop m zs) ++ [AV.int IntKind.u8 ↑m]).all fun c => AV.under H.length c) = true := by
        generalize zs.drop m = w
        simp [AV.under]
      simp +contextual only [a_l_vCut, c_l_vCut, fillParts, hlt, hlt', aop_slLo, hsl, hap, hone, hcv, hun, decide_true, Nat.add_assoc, Wp_some, Wp_none, Wp_ite, Wc_some, Wc_none, Wc_ite, Wp_thenRun, seqQ_normal, seqQ_exit, seqQ_ret, Wp_inBlock, blkQ_normal, blkQ_ret, blkQ_same, blkQ_exit, Wp_opThen, opQ_at, Wp_guardP, retQ_normal, retQ_ret, loopQ_normal, loopQ_exit, loopQ_ret, finish_one_eq, finish_one_eq0, finish_two_eq, finish_two_eq0, roots_slice_new, roots_slice_new0, roots_slice_none, roots_ptr_new, roots_ptr_new0, roots_int, roots_bool, roots_str, roots_agg, roots_tup, roots_cons, roots_nil, rename_slice, rename_slice_none, rename_ptr, rename_int, rename_bool, rename_str, rename_agg, rename_tup, rename_cons, rename_nil, keepBlks_nil, keepBlks_cons, flatAll_nil, flatAll_cons, flatBlk_cells, dedup_nil, dedup_one, dedup_two, renum_one, renum_one0, renum_two0, renum_two1, clean_none', clean_some, minEsc_none, minEsc_some, Nat.add_left_cancel_iff, Nat.le_add_right, Nat.le_refl, decide_true, go_sem, entry, joinEsc, if_pos, reduceIte, Nat.reduceAdd, Nat.reduceLeDiff, Nat.reduceLT, Nat.reduceEqDiff]

theorem wcCut {av : AV} (k : Nat) (hk : k ≤ 255) (h : CodeAt H av) (hn : codeLen av ≤ 65536) : Wc (call T pr f_l_vCut [av, .int .i64 k] ⟨H, e⟩) (fun v m => ∃ zs : List Int, v = .slice (some (H.length, 0)) 1 zs.length none ∧ m = ⟨H ++ [.cells (zs.map (AV.int .u8)) true], e⟩ ∧ zs.length ≤ 70000 ∧ ∀ z ∈ zs, 0 ≤ z ∧ z ≤ 255) := by
  obtain ⟨zs, h1, h2, h3⟩ := wc_vCut (pr := pr) (e := e) k hk h hn
  exact ⟨_, _, h1, zs, rfl, rfl, h2, h3⟩

theorem CodeAt.new {G : List Blk} {k : Nat} {zs : List Int} {c : Option Nat} (hG : G[k]? = some (.cells (zs.map (AV.int .u8)) true)) (h1 : zs.length ≤ 70000) (h2 : ∀ z ∈ zs, 0 ≤ z ∧ z ≤ 255) : CodeAt (H ++ G) (.slice (some (H.length + k, 0)) 1 zs.length c) := by
  refine ⟨zs, h1, h2, .inr ⟨_, _, rfl, ?_⟩⟩
  rw [cellsAt_newk]
  unfold cellsAt
  rw [hG]

def slHiV (sz : Nat) (v h : AV) : Option AV := match v with
  | .slice p sz' n cap => (match natOf h with
    | some h => sliceVal sz p sz' n cap 0 h none
    | none => none)
  | _ => none

section

variable {C : FuncId → List AV → Mem → Option (AV × Mem)} {g : X → AV} {m : Mem}

theorem aop_slHi (sz : Nat) (x h : X) : aop C g m (.sliceSl sz x none (some h) none) = valOf m (slHiV sz (g x) (g h)) := by
  rw [aop_of_light rfl]
  simp only [light, slHiV, bound, optNat]
  generalize g x = v
  generalize natOf (g h) = o
  cases v <;> cases o <;> simp

end

theorem slHiV_c (sz b n l : Nat) (cap : Option Nat) (hl : l ≤ n) : slHiV sz (.slice (some (b, 0)) sz n cap) (.int .i64 l) = some (.slice (some (b, 0)) sz l cap) := by
  unfold slHiV natOf sliceVal
  simp [hl]

end Go.Proofs.Ytlocjmbfcdfjfaa.Slim

/- Stands: what is drawn. -/
namespace Go.Proofs.Ytlocjmbfcdfjfaa.Slim

open Go

set_option linter.unusedSimpArgs false

set_option linter.unusedVariables false

variable {pr : Prims} {H : List Blk} {e : Option Nat}

theorem l1Least_any (a b : Int) : call T pr f_s_l1Least [.int .i64 a, .int .i64 b] ⟨H, e⟩ = some (.int .i64 (if a < b then a else b), ⟨H, e⟩) := by
  rw [call_eq t_s_l1Least]
  by_cases h : a < b <;> simp +contextual only [a_s_l1Least, c_s_l1Least, h, decide_true, decide_false, go_sem, entry, joinEsc, if_pos, reduceIte, Nat.reduceAdd, Nat.reduceLeDiff, Nat.reduceLT, Nat.reduceEqDiff]

/-- one of some numbers, drawn -/
theorem amongN {q b n : Nat} {av : AV} {p : Int} {c : Option Nat} (zs : List Int) (h : Cu H q av p) (hp : p ≤ 100000000000) (hb : cellsAt H b = some (zs.map (AV.int .i64))) (hbq : b ≠ q) (hn : zs.length = n) (h0 : 0 < n) (hn2 : n ≤ 1000000) : Wc (call T pr f_s_l1Cur_among [.ptr (some (q, 0)), .slice (some (b, 0)) 1 n c] ⟨H, e⟩) (fun v m => ∃ x y z : Int, v = .int .i64 x ∧ x ∈ zs ∧ 0 ≤ y ∧ y ≤ p + 2 ∧ m = ⟨H.set q (curB av y z), e⟩) := by
  subst hn
  exact wc_among h hp hb hbq h0 hn2

theorem wc_placeIn {q : Nat} {av : AV} {p : Int} (h : Cu H q av p) (hp : p ≤ 10000000000) : Wc (call T pr f_s_l1Cur_placeIn [.ptr (some (q, 0))] ⟨H, e⟩) (fun v m => ∃ x y z : Int, v = .int .i64 x ∧ 0 ≤ y ∧ y ≤ p + 10 ∧ m = ⟨H.set q (curB av y z), e⟩) := by
  have hl := h.lt
  rw [call_wc t_s_l1Cur_placeIn]
  simp +contextual only [a_s_l1Cur_placeIn, c_s_l1Cur_placeIn, fillParts, cellsAt_s0, cellsAt_sk, blkAt_s0, blkAt_sk, set_s0, set_sk, set_sapp, set_app, List.set_set, List.length_set, finish_one_setG, finish_one_set0, clean_none', Nat.add_assoc, Wp_some, Wp_none, Wp_ite, Wc_some, Wc_none, Wc_ite, Wp_thenRun, seqQ_normal, seqQ_exit, seqQ_ret, Wp_inBlock, blkQ_normal, blkQ_ret, blkQ_same, blkQ_exit, Wp_opThen, opQ_at, Wp_guardP, retQ_normal, retQ_ret, loopQ_normal, loopQ_exit, loopQ_ret, go_sem, entry, joinEsc, if_pos, reduceIte, Nat.reduceAdd, Nat.reduceLeDiff, Nat.reduceLT, Nat.reduceEqDiff]
  refine (wc_one 30 h (by omega) (by omega)).mono ?_
  rintro v m ⟨x1, y1, z1, rfl, hy10, hy11, rfl⟩
  have h1 := h.step hy10 z1
  cases x1 with
  | true =>
    simp +contextual only [fillParts, hl, cellsAt_s0, cellsAt_sk, blkAt_s0, blkAt_sk, set_s0, set_sk, set_sapp, set_app, List.set_set, List.length_set, finish_one_setG, finish_one_set0, clean_none', Nat.add_assoc, Wp_some, Wp_none, Wp_ite, Wc_some, Wc_none, Wc_ite, Wp_thenRun, seqQ_normal, seqQ_exit, seqQ_ret, Wp_inBlock, blkQ_normal, blkQ_ret, blkQ_same, blkQ_exit, Wp_opThen, opQ_at, Wp_guardP, retQ_normal, retQ_ret, loopQ_normal, loopQ_exit, loopQ_ret, go_sem, entry, joinEsc, if_pos, reduceIte, Nat.reduceAdd, Nat.reduceLeDiff, Nat.reduceLT, Nat.reduceEqDiff]
    refine (amongN (n := 5) [-1, 0, 60, 61, 4611686018427387904] (h1.more _) (by omega) (by simp +contextual only [cellsAt_s0, cellsAt_sk, blkAt_s0, blkAt_sk, set_s0, set_sk, set_sapp, set_app, List.set_set, List.length_set, finish_one_setG, finish_one_set0, clean_none', Nat.add_assoc, go_sem, entry, joinEsc, if_pos, reduceIte, Nat.reduceAdd, Nat.reduceLeDiff, Nat.reduceLT, Nat.reduceEqDiff]) (by omega) rfl (by omega) (by omega)).mono ?_
    rintro v m ⟨x2, y2, z2, rfl, hx2, hy20, hy21, rfl⟩
    simp +contextual only [a_s_l1Cur_placeIn, fillParts, hl, cellsAt_s0, cellsAt_sk, blkAt_s0, blkAt_sk, set_s0, set_sk, set_sapp, set_app, List.set_set, List.length_set, finish_one_setG, finish_one_set0, clean_none', Nat.add_assoc, Wp_some, Wp_none, Wp_ite, Wc_some, Wc_none, Wc_ite, Wp_thenRun, seqQ_normal, seqQ_exit, seqQ_ret, Wp_inBlock, blkQ_normal, blkQ_ret, blkQ_same, blkQ_exit, Wp_opThen, opQ_at, Wp_guardP, retQ_normal, retQ_ret, loopQ_normal, loopQ_exit, loopQ_ret, finish_one_eq, finish_one_eq0, finish_two_eq, finish_two_eq0, roots_slice_new, roots_slice_new0, roots_slice_none, roots_ptr_new, roots_ptr_new0, roots_int, roots_bool, roots_str, roots_agg, roots_tup, roots_cons, roots_nil, rename_slice, rename_slice_none, rename_ptr, rename_int, rename_bool, rename_str, rename_agg, rename_tup, rename_cons, rename_nil, keepBlks_nil, keepBlks_cons, flatAll_nil, flatAll_cons, flatBlk_cells, dedup_nil, dedup_one, dedup_two, renum_one, renum_one0, renum_two0, renum_two1, clean_none', clean_some, minEsc_none, minEsc_some, Nat.add_left_cancel_iff, Nat.le_add_right, Nat.le_refl, decide_true, go_sem, entry, joinEsc, if_pos, reduceIte, Nat.reduceAdd, Nat.reduceLeDiff, Nat.reduceLT, Nat.reduceEqDiff]
    exact ⟨x2, y2, z2, rfl, hy20, by omega, rfl⟩
  | false =>
    simp +contextual only [fillParts, hl, cellsAt_s0, cellsAt_sk, blkAt_s0, blkAt_sk, set_s0, set_sk, set_sapp, set_app, List.set_set, List.length_set, finish_one_setG, finish_one_set0, clean_none', Nat.add_assoc, Wp_some, Wp_none, Wp_ite, Wc_some, Wc_none, Wc_ite, Wp_thenRun, seqQ_normal, seqQ_exit, seqQ_ret, Wp_inBlock, blkQ_normal, blkQ_ret, blkQ_same, blkQ_exit, Wp_opThen, opQ_at, Wp_guardP, retQ_normal, retQ_ret, loopQ_normal, loopQ_exit, loopQ_ret, go_sem, entry, joinEsc, if_pos, reduceIte, Nat.reduceAdd, Nat.reduceLeDiff, Nat.reduceLT, Nat.reduceEqDiff]
    refine (amongN (n := 4) [11, 11, 21, 61] (h1.more _) (by omega) (by simp +contextual only [cellsAt_s0, cellsAt_sk, blkAt_s0, blkAt_sk, set_s0, set_sk, set_sapp, set_app, List.set_set, List.length_set, finish_one_setG, finish_one_set0, clean_none', Nat.add_assoc, go_sem, entry, joinEsc, if_pos, reduceIte, Nat.reduceAdd, Nat.reduceLeDiff, Nat.reduceLT, Nat.reduceEqDiff]) (by omega) rfl (by omega) (by omega)).mono ?_
    rintro v m ⟨x2, y2, z2, rfl, hx2, hy20, hy21, rfl⟩
    have h2 := h1.step hy20 z2
    rw [List.set_set] at h2
    have hx2' : x2 ≤ 61 := by
      simp at hx2
      omega
    simp +contextual only [fillParts, hl, cellsAt_s0, cellsAt_sk, blkAt_s0, blkAt_sk, set_s0, set_sk, set_sapp, set_app, List.set_set, List.length_set, finish_one_setG, finish_one_set0, clean_none', Nat.add_assoc, Wp_some, Wp_none, Wp_ite, Wc_some, Wc_none, Wc_ite, Wp_thenRun, seqQ_normal, seqQ_exit, seqQ_ret, Wp_inBlock, blkQ_normal, blkQ_ret, blkQ_same, blkQ_exit, Wp_opThen, opQ_at, Wp_guardP, retQ_normal, retQ_ret, loopQ_normal, loopQ_exit, loopQ_ret, go_sem, entry, joinEsc, if_pos, reduceIte, Nat.reduceAdd, Nat.reduceLeDiff, Nat.reduceLT, Nat.reduceEqDiff]
    refine (wc_pick x2 (h2.more _) (by omega) (by omega)).mono ?_
    rintro v m ⟨x3, y3, z3, rfl, hx30, hx31, hy30, hy31, rfl⟩
    simp +contextual only [a_s_l1Cur_placeIn, fillParts, hl, cellsAt_s0, cellsAt_sk, blkAt_s0, blkAt_sk, set_s0, set_sk, set_sapp, set_app, List.set_set, List.length_set, finish_one_setG, finish_one_set0, clean_none', Nat.add_assoc, Wp_some, Wp_none, Wp_ite, Wc_some, Wc_none, Wc_ite, Wp_thenRun, seqQ_normal, seqQ_exit, seqQ_ret, Wp_inBlock, blkQ_normal, blkQ_ret, blkQ_same, blkQ_exit, Wp_opThen, opQ_at, Wp_guardP, retQ_normal, retQ_ret, loopQ_normal, loopQ_exit, loopQ_ret, finish_one_eq, finish_one_eq0, finish_two_eq, finish_two_eq0, roots_slice_new, roots_slice_new0, roots_slice_none, roots_ptr_new, roots_ptr_new0, roots_int, roots_bool, roots_str, roots_agg, roots_tup, roots_cons, roots_nil, rename_slice, rename_slice_none, rename_ptr, rename_int, rename_bool, rename_str, rename_agg, rename_tup, rename_cons, rename_nil, keepBlks_nil, keepBlks_cons, flatAll_nil, flatAll_cons, flatBlk_cells, dedup_nil, dedup_one, dedup_two, renum_one, renum_one0, renum_two0, renum_two1, clean_none', clean_some, minEsc_none, minEsc_some, Nat.add_left_cancel_iff, Nat.le_add_right, Nat.le_refl, decide_true, go_sem, entry, joinEsc, if_pos, reduceIte, Nat.reduceAdd, Nat.reduceLeDiff, Nat.reduceLT, Nat.reduceEqDiff]
    exact ⟨x3, y3, z3, rfl, hy30, by omega, rfl⟩

theorem wc_stage7 {q : Nat} {av : AV} {p : Int} (h : Cu H q av p) (hp : p ≤ 10000000000) : Wc (call T pr f_s_l1Cur_stage7 [.ptr (some (q, 0))] ⟨H, e⟩) (fun v m => ∃ k a b y z : Int, v = .agg [.int .i64 k, .int .i64 a, .int .i64 b] ∧ 0 ≤ y ∧ y ≤ p + 20 ∧ m = ⟨H.set q (curB av y z), e⟩) := by
  have hl := h.lt
  rw [call_wc t_s_l1Cur_stage7]
  obtain ⟨R2, hR2⟩ : ∃ R, R = seqTl (seqTl (seqTl (seqTl c_s_l1Cur_stage7))) := ⟨_, rfl⟩
  obtain ⟨R1, hR1⟩ : ∃ R, R = seqTl (seqTl (seqTl c_s_l1Cur_stage7)) := ⟨_, rfl⟩
  have hc1 : R1 = .seq (seqHd (seqTl (seqTl (seqTl c_s_l1Cur_stage7)))) R2 := by rw [hR1, hR2]; rfl
  have hc : c_s_l1Cur_stage7 = .seq (seqHd c_s_l1Cur_stage7) (.seq (seqHd (seqTl c_s_l1Cur_stage7)) (.seq (seqHd (seqTl (seqTl c_s_l1Cur_stage7))) R1)) := by rw [hR1]; rfl
  have r2 : ∀ (k a b y z : Int) (B0 B1 : Blk) (G : List Blk) (w3 w4 w5 w6 w7 w8 w9 w10 : AV), 0 ≤ y → y ≤ p + 20 → B0 = .cells [.int .i64 0, .int .i64 0, .int .i64 0] true →
      Wp (run T pr R2 ⟨[.ptr (some (q, 0)), .ptr (some (H.length, 0)), .ptr (some (H.length + 2, 0)), w3, w4, w5, w6, w7, w8, w9, w10], ⟨H.set q (curB av y z) ++ (B0 :: B1 :: .cells [.int .i64 k, .int .i64 a, .int .i64 b] true :: G), none⟩⟩) (retQ a_s_l1Cur_stage7 ⟨H, e⟩ fun v m => ∃ k a b y z : Int, v = .agg [.int .i64 k, .int .i64 a, .int .i64 b] ∧ 0 ≤ y ∧ y ≤ p + 20 ∧ m = ⟨H.set q (curB av y z), e⟩) := by
    rintro k a b y z _ B1 G w3 w4 w5 w6 w7 w8 w9 w10 hy0 hy1 rfl
    rw [hR2]
    simp +contextual only [a_s_l1Cur_stage7, c_s_l1Cur_stage7, seqTl, seqHd, hl, cellsAt_s0, cellsAt_sk, blkAt_s0, blkAt_sk, set_s0, set_sk, set_sapp, set_app, List.set_set, List.length_set, finish_one_setG, finish_one_set0, clean_none', Nat.add_assoc, Wp_some, Wp_none, Wp_ite, Wc_some, Wc_none, Wc_ite, Wp_thenRun, seqQ_normal, seqQ_exit, seqQ_ret, Wp_inBlock, blkQ_normal, blkQ_ret, blkQ_same, blkQ_exit, Wp_opThen, opQ_at, Wp_guardP, retQ_normal, retQ_ret, loopQ_normal, loopQ_exit, loopQ_ret, finish_one_eq, finish_one_eq0, finish_two_eq, finish_two_eq0, roots_slice_new, roots_slice_new0, roots_slice_none, roots_ptr_new, roots_ptr_new0, roots_int, roots_bool, roots_str, roots_agg, roots_tup, roots_cons, roots_nil, rename_slice, rename_slice_none, rename_ptr, rename_int, rename_bool, rename_str, rename_agg, rename_tup, rename_cons, rename_nil, keepBlks_nil, keepBlks_cons, flatAll_nil, flatAll_cons, flatBlk_cells, dedup_nil, dedup_one, dedup_two, renum_one, renum_one0, renum_two0, renum_two1, clean_none', clean_some, minEsc_none, minEsc_some, Nat.add_left_cancel_iff, Nat.le_add_right, Nat.le_refl, decide_true, go_sem, entry, joinEsc, if_pos, reduceIte, Nat.reduceAdd, Nat.reduceLeDiff, Nat.reduceLT, Nat.reduceEqDiff]
    exact ⟨k, a, b, y, z, rfl, hy0, hy1, rfl⟩
  have r1 : ∀ (k a b y z : Int) (B0 B1 : Blk) (w3 w4 w5 w6 w7 w8 w9 w10 : AV), 0 ≤ y → y ≤ p + 10 → B0 = .cells [.int .i64 0, .int .i64 0, .int .i64 0] true →
      Wp (run T pr R1 ⟨[.ptr (some (q, 0)), .ptr (some (H.length, 0)), .ptr (some (H.length + 2, 0)), w3, w4, w5, w6, w7, w8, w9, w10], ⟨H.set q (curB av y z) ++ [B0, B1, .cells [.int .i64 k, .int .i64 a, .int .i64 b] true], none⟩⟩) (retQ a_s_l1Cur_stage7 ⟨H, e⟩ fun v m => ∃ k a b y z : Int, v = .agg [.int .i64 k, .int .i64 a, .int .i64 b] ∧ 0 ≤ y ∧ y ≤ p + 20 ∧ m = ⟨H.set q (curB av y z), e⟩) := by
    rintro k a b y z B0 B1 w3 w4 w5 w6 w7 w8 w9 w10 hy0 hy1 hB
    have h1 := h.step hy0 z
    rw [hc1]
    simp +contextual only [c_s_l1Cur_stage7, seqTl, seqHd, hl, cellsAt_s0, cellsAt_sk, blkAt_s0, blkAt_sk, set_s0, set_sk, set_sapp, set_app, List.set_set, List.length_set, finish_one_setG, finish_one_set0, clean_none', Nat.add_assoc, Wp_some, Wp_none, Wp_ite, Wc_some, Wc_none, Wc_ite, Wp_thenRun, seqQ_normal, seqQ_exit, seqQ_ret, Wp_inBlock, blkQ_normal, blkQ_ret, blkQ_same, blkQ_exit, Wp_opThen, opQ_at, Wp_guardP, retQ_normal, retQ_ret, loopQ_normal, loopQ_exit, loopQ_ret, go_sem, entry, joinEsc, if_pos, reduceIte, Nat.reduceAdd, Nat.reduceLeDiff, Nat.reduceLT, Nat.reduceEqDiff]
    refine (wc_pick 40 (h1.more _) (by omega) (by omega)).mono ?_
    rintro v m ⟨x2, y2, z2, rfl, hx20, hx21, hy20, hy21, rfl⟩
    have h2 := h1.step hy20 z2
    rw [List.set_set] at h2
    by_cases c0 : x2 = 0
    · subst c0
      simp +contextual only [fillParts, hl, decide_true, cellsAt_s0, cellsAt_sk, blkAt_s0, blkAt_sk, set_s0, set_sk, set_sapp, set_app, List.set_set, List.length_set, finish_one_setG, finish_one_set0, clean_none', Nat.add_assoc, Wp_some, Wp_none, Wp_ite, Wc_some, Wc_none, Wc_ite, Wp_thenRun, seqQ_normal, seqQ_exit, seqQ_ret, Wp_inBlock, blkQ_normal, blkQ_ret, blkQ_same, blkQ_exit, Wp_opThen, opQ_at, Wp_guardP, retQ_normal, retQ_ret, loopQ_normal, loopQ_exit, loopQ_ret, go_sem, entry, joinEsc, if_pos, reduceIte, Nat.reduceAdd, Nat.reduceLeDiff, Nat.reduceLT, Nat.reduceEqDiff]
      refine (amongN (n := 4) [0, -1, 24, 25] (h2.more _) (by omega) (by simp +contextual only [cellsAt_s0, cellsAt_sk, blkAt_s0, blkAt_sk, set_s0, set_sk, set_sapp, set_app, List.set_set, List.length_set, finish_one_setG, finish_one_set0, clean_none', Nat.add_assoc, go_sem, entry, joinEsc, if_pos, reduceIte, Nat.reduceAdd, Nat.reduceLeDiff, Nat.reduceLT, Nat.reduceEqDiff]) (by omega) rfl (by omega) (by omega)).mono ?_
      rintro v m ⟨x3, y3, z3, rfl, hx3, hy30, hy31, rfl⟩
      simp +contextual only [fillParts, hl, decide_true, cellsAt_s0, cellsAt_sk, blkAt_s0, blkAt_sk, set_s0, set_sk, set_sapp, set_app, List.set_set, List.length_set, finish_one_setG, finish_one_set0, clean_none', Nat.add_assoc, Wp_some, Wp_none, Wp_ite, Wc_some, Wc_none, Wc_ite, Wp_thenRun, seqQ_normal, seqQ_exit, seqQ_ret, Wp_inBlock, blkQ_normal, blkQ_ret, blkQ_same, blkQ_exit, Wp_opThen, opQ_at, Wp_guardP, retQ_normal, retQ_ret, loopQ_normal, loopQ_exit, loopQ_ret, go_sem, entry, joinEsc, if_pos, reduceIte, Nat.reduceAdd, Nat.reduceLeDiff, Nat.reduceLT, Nat.reduceEqDiff]
      exact r2 _ _ _ _ _ _ _ _ _ _ _ _ _ _ _ _ hy30 (by omega) hB
    · have c0' : decide (x2 = 0) = false := decide_eq_false c0
      by_cases c1 : x2 = 1
      · subst c1
        simp +contextual only [fillParts, hl, c0', decide_true, cellsAt_s0, cellsAt_sk, blkAt_s0, blkAt_sk, set_s0, set_sk, set_sapp, set_app, List.set_set, List.length_set, finish_one_setG, finish_one_set0, clean_none', Nat.add_assoc, Wp_some, Wp_none, Wp_ite, Wc_some, Wc_none, Wc_ite, Wp_thenRun, seqQ_normal, seqQ_exit, seqQ_ret, Wp_inBlock, blkQ_normal, blkQ_ret, blkQ_same, blkQ_exit, Wp_opThen, opQ_at, Wp_guardP, retQ_normal, retQ_ret, loopQ_normal, loopQ_exit, loopQ_ret, go_sem, entry, joinEsc, if_pos, reduceIte, Nat.reduceAdd, Nat.reduceLeDiff, Nat.reduceLT, Nat.reduceEqDiff]
        refine (amongN (n := 4) [0, 24, 25, -1] (h2.more _) (by omega) (by simp +contextual only [cellsAt_s0, cellsAt_sk, blkAt_s0, blkAt_sk, set_s0, set_sk, set_sapp, set_app, List.set_set, List.length_set, finish_one_setG, finish_one_set0, clean_none', Nat.add_assoc, go_sem, entry, joinEsc, if_pos, reduceIte, Nat.reduceAdd, Nat.reduceLeDiff, Nat.reduceLT, Nat.reduceEqDiff]) (by omega) rfl (by omega) (by omega)).mono ?_
        rintro v m ⟨x3, y3, z3, rfl, hx3, hy30, hy31, rfl⟩
        simp +contextual only [fillParts, hl, decide_true, cellsAt_s0, cellsAt_sk, blkAt_s0, blkAt_sk, set_s0, set_sk, set_sapp, set_app, List.set_set, List.length_set, finish_one_setG, finish_one_set0, clean_none', Nat.add_assoc, Wp_some, Wp_none, Wp_ite, Wc_some, Wc_none, Wc_ite, Wp_thenRun, seqQ_normal, seqQ_exit, seqQ_ret, Wp_inBlock, blkQ_normal, blkQ_ret, blkQ_same, blkQ_exit, Wp_opThen, opQ_at, Wp_guardP, retQ_normal, retQ_ret, loopQ_normal, loopQ_exit, loopQ_ret, go_sem, entry, joinEsc, if_pos, reduceIte, Nat.reduceAdd, Nat.reduceLeDiff, Nat.reduceLT, Nat.reduceEqDiff]
        exact r2 _ _ _ _ _ _ _ _ _ _ _ _ _ _ _ _ hy30 (by omega) hB
      · have c1' : decide (x2 = 1) = false := decide_eq_false c1
        by_cases c2 : x2 = 2
        · subst c2
          simp +contextual only [fillParts, hl, c0', c1', decide_true, cellsAt_s0, cellsAt_sk, blkAt_s0, blkAt_sk, set_s0, set_sk, set_sapp, set_app, List.set_set, List.length_set, finish_one_setG, finish_one_set0, clean_none', Nat.add_assoc, Wp_some, Wp_none, Wp_ite, Wc_some, Wc_none, Wc_ite, Wp_thenRun, seqQ_normal, seqQ_exit, seqQ_ret, Wp_inBlock, blkQ_normal, blkQ_ret, blkQ_same, blkQ_exit, Wp_opThen, opQ_at, Wp_guardP, retQ_normal, retQ_ret, loopQ_normal, loopQ_exit, loopQ_ret, go_sem, entry, joinEsc, if_pos, reduceIte, Nat.reduceAdd, Nat.reduceLeDiff, Nat.reduceLT, Nat.reduceEqDiff]
          refine (amongN (n := 3) [0, 6, -1] (h2.more _) (by omega) (by simp +contextual only [cellsAt_s0, cellsAt_sk, blkAt_s0, blkAt_sk, set_s0, set_sk, set_sapp, set_app, List.set_set, List.length_set, finish_one_setG, finish_one_set0, clean_none', Nat.add_assoc, go_sem, entry, joinEsc, if_pos, reduceIte, Nat.reduceAdd, Nat.reduceLeDiff, Nat.reduceLT, Nat.reduceEqDiff]) (by omega) rfl (by omega) (by omega)).mono ?_
          rintro v m ⟨x3, y3, z3, rfl, hx3, hy30, hy31, rfl⟩
          simp +contextual only [fillParts, hl, decide_true, cellsAt_s0, cellsAt_sk, blkAt_s0, blkAt_sk, set_s0, set_sk, set_sapp, set_app, List.set_set, List.length_set, finish_one_setG, finish_one_set0, clean_none', Nat.add_assoc, Wp_some, Wp_none, Wp_ite, Wc_some, Wc_none, Wc_ite, Wp_thenRun, seqQ_normal, seqQ_exit, seqQ_ret, Wp_inBlock, blkQ_normal, blkQ_ret, blkQ_same, blkQ_exit, Wp_opThen, opQ_at, Wp_guardP, retQ_normal, retQ_ret, loopQ_normal, loopQ_exit, loopQ_ret, go_sem, entry, joinEsc, if_pos, reduceIte, Nat.reduceAdd, Nat.reduceLeDiff, Nat.reduceLT, Nat.reduceEqDiff]
          exact r2 _ _ _ _ _ _ _ _ _ _ _ _ _ _ _ _ hy30 (by omega) hB
        · have c2' : decide (x2 = 2) = false := decide_eq_false c2
          simp +contextual only [hl, c0', c1', c2', cellsAt_s0, cellsAt_sk, blkAt_s0, blkAt_sk, set_s0, set_sk, set_sapp, set_app, List.set_set, List.length_set, finish_one_setG, finish_one_set0, clean_none', Nat.add_assoc, Wp_some, Wp_none, Wp_ite, Wc_some, Wc_none, Wc_ite, Wp_thenRun, seqQ_normal, seqQ_exit, seqQ_ret, Wp_inBlock, blkQ_normal, blkQ_ret, blkQ_same, blkQ_exit, Wp_opThen, opQ_at, Wp_guardP, retQ_normal, retQ_ret, loopQ_normal, loopQ_exit, loopQ_ret, go_sem, entry, joinEsc, if_pos, reduceIte, Nat.reduceAdd, Nat.reduceLeDiff, Nat.reduceLT, Nat.reduceEqDiff]
          exact r2 _ _ _ _ _ _ _ _ _ _ _ _ _ _ _ _ hy20 (by omega) hB
  show Wp (run T pr c_s_l1Cur_stage7 _) _
  rw [hc]
  simp +contextual only [a_s_l1Cur_stage7, c_s_l1Cur_stage7, seqTl, seqHd, fillParts, cellsAt_s0, cellsAt_sk, blkAt_s0, blkAt_sk, set_s0, set_sk, set_sapp, set_app, List.set_set, List.length_set, finish_one_setG, finish_one_set0, clean_none', Nat.add_assoc, Wp_some, Wp_none, Wp_ite, Wc_some, Wc_none, Wc_ite, Wp_thenRun, seqQ_normal, seqQ_exit, seqQ_ret, Wp_inBlock, blkQ_normal, blkQ_ret, blkQ_same, blkQ_exit, Wp_opThen, opQ_at, Wp_guardP, retQ_normal, retQ_ret, loopQ_normal, loopQ_exit, loopQ_ret, go_sem, entry, joinEsc, if_pos, reduceIte, Nat.reduceAdd, Nat.reduceLeDiff, Nat.reduceLT, Nat.reduceEqDiff]
  refine (amongN (n := 5) [1, 2, 3, 4, 5] (h.more _) (by omega) (by simp +contextual only [cellsAt_s0, cellsAt_sk, blkAt_s0, blkAt_sk, set_s0, set_sk, set_sapp, set_app, List.set_set, List.length_set, finish_one_setG, finish_one_set0, clean_none', Nat.add_assoc, go_sem, entry, joinEsc, if_pos, reduceIte, Nat.reduceAdd, Nat.reduceLeDiff, Nat.reduceLT, Nat.reduceEqDiff]) (by omega) rfl (by omega) (by omega)).mono ?_
  rintro v m ⟨x1, y1, z1, rfl, hx1, hy10, hy11, rfl⟩
  have h1 := h.step hy10 z1
  simp +contextual only [fillParts, hl, cellsAt_s0, cellsAt_sk, blkAt_s0, blkAt_sk, set_s0, set_sk, set_sapp, set_app, List.set_set, List.length_set, finish_one_setG, finish_one_set0, clean_none', Nat.add_assoc, Wp_some, Wp_none, Wp_ite, Wc_some, Wc_none, Wc_ite, Wp_thenRun, seqQ_normal, seqQ_exit, seqQ_ret, Wp_inBlock, blkQ_normal, blkQ_ret, blkQ_same, blkQ_exit, Wp_opThen, opQ_at, Wp_guardP, retQ_normal, retQ_ret, loopQ_normal, loopQ_exit, loopQ_ret, go_sem, entry, joinEsc, if_pos, reduceIte, Nat.reduceAdd, Nat.reduceLeDiff, Nat.reduceLT, Nat.reduceEqDiff]
  refine (wc_pick 6 (h1.more _) (by omega) (by omega)).mono ?_
  rintro v m ⟨x2, y2, z2, rfl, hx20, hx21, hy20, hy21, rfl⟩
  have h2 := h1.step hy20 z2
  rw [List.set_set] at h2
  simp +contextual only [fillParts, hl, cellsAt_s0, cellsAt_sk, blkAt_s0, blkAt_sk, set_s0, set_sk, set_sapp, set_app, List.set_set, List.length_set, finish_one_setG, finish_one_set0, clean_none', Nat.add_assoc, Wp_some, Wp_none, Wp_ite, Wc_some, Wc_none, Wc_ite, Wp_thenRun, seqQ_normal, seqQ_exit, seqQ_ret, Wp_inBlock, blkQ_normal, blkQ_ret, blkQ_same, blkQ_exit, Wp_opThen, opQ_at, Wp_guardP, retQ_normal, retQ_ret, loopQ_normal, loopQ_exit, loopQ_ret, go_sem, entry, joinEsc, if_pos, reduceIte, Nat.reduceAdd, Nat.reduceLeDiff, Nat.reduceLT, Nat.reduceEqDiff]
  refine (wc_pick 4 (h2.more _) (by omega) (by omega)).mono ?_
  rintro v m ⟨x3, y3, z3, rfl, hx30, hx31, hy30, hy31, rfl⟩
  have h3 := h2.step hy30 z3
  rw [List.set_set] at h3
  by_cases c0 : x1 = 2
  · subst c0
    simp +contextual only [fillParts, hl, decide_true, cellsAt_s0, cellsAt_sk, blkAt_s0, blkAt_sk, set_s0, set_sk, set_sapp, set_app, List.set_set, List.length_set, finish_one_setG, finish_one_set0, clean_none', Nat.add_assoc, Wp_some, Wp_none, Wp_ite, Wc_some, Wc_none, Wc_ite, Wp_thenRun, seqQ_normal, seqQ_exit, seqQ_ret, Wp_inBlock, blkQ_normal, blkQ_ret, blkQ_same, blkQ_exit, Wp_opThen, opQ_at, Wp_guardP, retQ_normal, retQ_ret, loopQ_normal, loopQ_exit, loopQ_ret, go_sem, entry, joinEsc, if_pos, reduceIte, Nat.reduceAdd, Nat.reduceLeDiff, Nat.reduceLT, Nat.reduceEqDiff]
    exact r1 _ _ _ _ _ _ _ _ _ _ _ _ _ _ _ hy30 (by omega) rfl
  · have c0' : decide (x1 = 2) = false := decide_eq_false c0
    by_cases c1 : x1 = 4
    · subst c1
      simp +contextual only [fillParts, hl, c0', e_s_l1Most, decide_true, cellsAt_s0, cellsAt_sk, blkAt_s0, blkAt_sk, set_s0, set_sk, set_sapp, set_app, List.set_set, List.length_set, finish_one_setG, finish_one_set0, clean_none', Nat.add_assoc, Wp_some, Wp_none, Wp_ite, Wc_some, Wc_none, Wc_ite, Wp_thenRun, seqQ_normal, seqQ_exit, seqQ_ret, Wp_inBlock, blkQ_normal, blkQ_ret, blkQ_same, blkQ_exit, Wp_opThen, opQ_at, Wp_guardP, retQ_normal, retQ_ret, loopQ_normal, loopQ_exit, loopQ_ret, go_sem, entry, joinEsc, if_pos, reduceIte, Nat.reduceAdd, Nat.reduceLeDiff, Nat.reduceLT, Nat.reduceEqDiff]
      exact r1 _ _ _ _ _ _ _ _ _ _ _ _ _ _ _ hy30 (by omega) rfl
    · have c1' : decide (x1 = 4) = false := decide_eq_false c1
      by_cases c2 : x1 = 5
      · subst c2
        simp +contextual only [fillParts, hl, c0', c1', decide_true, cellsAt_s0, cellsAt_sk, blkAt_s0, blkAt_sk, set_s0, set_sk, set_sapp, set_app, List.set_set, List.length_set, finish_one_setG, finish_one_set0, clean_none', Nat.add_assoc, Wp_some, Wp_none, Wp_ite, Wc_some, Wc_none, Wc_ite, Wp_thenRun, seqQ_normal, seqQ_exit, seqQ_ret, Wp_inBlock, blkQ_normal, blkQ_ret, blkQ_same, blkQ_exit, Wp_opThen, opQ_at, Wp_guardP, retQ_normal, retQ_ret, loopQ_normal, loopQ_exit, loopQ_ret, go_sem, entry, joinEsc, if_pos, reduceIte, Nat.reduceAdd, Nat.reduceLeDiff, Nat.reduceLT, Nat.reduceEqDiff]
        exact r1 _ _ _ _ _ _ _ _ _ _ _ _ _ _ _ hy30 (by omega) rfl
      · have c2' : decide (x1 = 5) = false := decide_eq_false c2
        simp +contextual only [fillParts, hl, c0', c1', c2', cellsAt_s0, cellsAt_sk, blkAt_s0, blkAt_sk, set_s0, set_sk, set_sapp, set_app, List.set_set, List.length_set, finish_one_setG, finish_one_set0, clean_none', Nat.add_assoc, Wp_some, Wp_none, Wp_ite, Wc_some, Wc_none, Wc_ite, Wp_thenRun, seqQ_normal, seqQ_exit, seqQ_ret, Wp_inBlock, blkQ_normal, blkQ_ret, blkQ_same, blkQ_exit, Wp_opThen, opQ_at, Wp_guardP, retQ_normal, retQ_ret, loopQ_normal, loopQ_exit, loopQ_ret, go_sem, entry, joinEsc, if_pos, reduceIte, Nat.reduceAdd, Nat.reduceLeDiff, Nat.reduceLT, Nat.reduceEqDiff]
        exact r1 _ _ _ _ _ _ _ _ _ _ _ _ _ _ _ hy30 (by omega) rfl

set_option maxHeartbeats 4000000 in
theorem wc_task12 {q n1 n2 s1 s2 : Nat} {p1 p2 : Option (Nat × Nat)} {k1 k2 : Option Nat} {av : AV} {p : Int} (a b t c : Int) (h : Cu H q av p) (hp : p ≤ 1000000000) : Wc (call T pr f_s_l1Cur_task12 [.ptr (some (q, 0)), stV (.slice p1 s1 n1 k1) a b (.slice p2 s2 n2 k2) t c] ⟨H, e⟩) (fun v m => ∃ k a b c y z : Int, v = tkV k a b c ∧ 0 ≤ y ∧ y ≤ p + 60 ∧ m = ⟨H.set q (curB av y z), e⟩) := by
  have hl := h.lt
  rw [call_wc t_s_l1Cur_task12]
  obtain ⟨R2, hR2⟩ : ∃ R, R = seqTl (seqTl (seqTl (seqTl (seqTl c_s_l1Cur_task12)))) := ⟨_, rfl⟩
  obtain ⟨R1, hR1⟩ : ∃ R, R = seqTl (seqTl (seqTl (seqTl c_s_l1Cur_task12))) := ⟨_, rfl⟩
  have hc1 : R1 = .seq (seqHd (seqTl (seqTl (seqTl (seqTl c_s_l1Cur_task12))))) R2 := by rw [hR1, hR2]; rfl
  have hc : c_s_l1Cur_task12 = .seq (seqHd c_s_l1Cur_task12) (.seq (seqHd (seqTl c_s_l1Cur_task12)) (.seq (seqHd (seqTl (seqTl c_s_l1Cur_task12))) (.seq (seqHd (seqTl (seqTl (seqTl c_s_l1Cur_task12)))) R1))) := by rw [hR1]; rfl
  have r2 : ∀ (k' a' b' c' y z : Int) (B0 B1 B2 : Blk) (G : List Blk) (w1 w5 w6 w7 w8 w9 w10 w11 w12 w13 w14 w15 w16 w17 w18 : AV), 0 ≤ y → y ≤ p + 60 → B1 = .cells [.int .i64 0, .int .i64 0, .int .i64 0, .int .i64 0] true →
      Wp (run T pr R2 ⟨[.ptr (some (q, 0)), w1, .ptr (some (H.length, 0)), .ptr (some (H.length + 1, 0)), .ptr (some (H.length + 3, 0)), w5, w6, w7, w8, w9, w10, w11, w12, w13, w14, w15, w16, w17, w18], ⟨H.set q (curB av y z) ++ (B0 :: B1 :: B2 :: .cells [.int .i64 k', .int .i64 a', .int .i64 b', .int .i64 c'] true :: G), none⟩⟩) (retQ a_s_l1Cur_task12 ⟨H, e⟩ fun v m => ∃ k a b c y z : Int, v = tkV k a b c ∧ 0 ≤ y ∧ y ≤ p + 60 ∧ m = ⟨H.set q (curB av y z), e⟩) := by
    rintro k' a' b' c' y z B0 _ B2 G w1 w5 w6 w7 w8 w9 w10 w11 w12 w13 w14 w15 w16 w17 w18 hy0 hy1 rfl
    rw [hR2]
    simp (maxSteps := 2000000) +contextual only [a_s_l1Cur_task12, c_s_l1Cur_task12, seqTl, seqHd, hl, cellsAt_s0, cellsAt_sk, blkAt_s0, blkAt_sk, set_s0, set_sk, set_sapp, set_app, List.set_set, List.length_set, finish_one_setG, finish_one_set0, clean_none', Nat.add_assoc, Wp_some, Wp_none, Wp_ite, Wc_some, Wc_none, Wc_ite, Wp_thenRun, seqQ_normal, seqQ_exit, seqQ_ret, Wp_inBlock, blkQ_normal, blkQ_ret, blkQ_same, blkQ_exit, Wp_opThen, opQ_at, Wp_guardP, retQ_normal, retQ_ret, loopQ_normal, loopQ_exit, loopQ_ret, finish_one_eq, finish_one_eq0, finish_two_eq, finish_two_eq0, roots_slice_new, roots_slice_new0, roots_slice_none, roots_ptr_new, roots_ptr_new0, roots_int, roots_bool, roots_str, roots_agg, roots_tup, roots_cons, roots_nil, rename_slice, rename_slice_none, rename_ptr, rename_int, rename_bool, rename_str, rename_agg, rename_tup, rename_cons, rename_nil, keepBlks_nil, keepBlks_cons, flatAll_nil, flatAll_cons, flatBlk_cells, dedup_nil, dedup_one, dedup_two, renum_one, renum_one0, renum_two0, renum_two1, clean_none', clean_some, minEsc_none, minEsc_some, Nat.add_left_cancel_iff, Nat.le_add_right, Nat.le_refl, decide_true, go_sem, entry, joinEsc, if_pos, reduceIte, Nat.reduceAdd, Nat.reduceLeDiff, Nat.reduceLT, Nat.reduceEqDiff]
    exact ⟨k', a', b', c', y, z, rfl, hy0, hy1, rfl⟩
  have r1 : ∀ (k' a' b' c' y z : Int) (B0 B1 B2 : Blk) (G : List Blk) (w1 w5 w6 w7 w8 w9 w10 w11 w12 w13 w14 w15 w16 w17 w18 : AV), 0 ≤ y → y ≤ p + 40 → B1 = .cells [.int .i64 0, .int .i64 0, .int .i64 0, .int .i64 0] true →
      Wp (run T pr R1 ⟨[.ptr (some (q, 0)), w1, .ptr (some (H.length, 0)), .ptr (some (H.length + 1, 0)), .ptr (some (H.length + 3, 0)), w5, w6, w7, w8, w9, w10, w11, w12, w13, w14, w15, w16, w17, w18], ⟨H.set q (curB av y z) ++ (B0 :: B1 :: B2 :: .cells [.int .i64 k', .int .i64 a', .int .i64 b', .int .i64 c'] true :: G), none⟩⟩) (retQ a_s_l1Cur_task12 ⟨H, e⟩ fun v m => ∃ k a b c y z : Int, v = tkV k a b c ∧ 0 ≤ y ∧ y ≤ p + 60 ∧ m = ⟨H.set q (curB av y z), e⟩) := by
    rintro k' a' b' c' y z B0 B1 B2 G w1 w5 w6 w7 w8 w9 w10 w11 w12 w13 w14 w15 w16 w17 w18 hy0 hy1 hB
    have h1 := h.step hy0 z
    rw [hc1]
    simp (maxSteps := 2000000) +contextual only [c_s_l1Cur_task12, seqTl, seqHd, hl, cellsAt_s0, cellsAt_sk, blkAt_s0, blkAt_sk, set_s0, set_sk, set_sapp, set_app, List.set_set, List.length_set, finish_one_setG, finish_one_set0, clean_none', Nat.add_assoc, Wp_some, Wp_none, Wp_ite, Wc_some, Wc_none, Wc_ite, Wp_thenRun, seqQ_normal, seqQ_exit, seqQ_ret, Wp_inBlock, blkQ_normal, blkQ_ret, blkQ_same, blkQ_exit, Wp_opThen, opQ_at, Wp_guardP, retQ_normal, retQ_ret, loopQ_normal, loopQ_exit, loopQ_ret, go_sem, entry, joinEsc, if_pos, reduceIte, Nat.reduceAdd, Nat.reduceLeDiff, Nat.reduceLT, Nat.reduceEqDiff]
    refine (wc_pick 32 (h1.more _) (by omega) (by omega)).mono ?_
    rintro v m ⟨x2, y2, z2, rfl, hx20, hx21, hy20, hy21, rfl⟩
    have h2 := h1.step hy20 z2
    rw [List.set_set] at h2
    by_cases c0 : x2 = 0
    · subst c0
      simp (maxSteps := 2000000) +contextual only [fillParts, hl,  decide_true, cellsAt_s0, cellsAt_sk, blkAt_s0, blkAt_sk, set_s0, set_sk, set_sapp, set_app, List.set_set, List.length_set, finish_one_setG, finish_one_set0, clean_none', Nat.add_assoc, Wp_some, Wp_none, Wp_ite, Wc_some, Wc_none, Wc_ite, Wp_thenRun, seqQ_normal, seqQ_exit, seqQ_ret, Wp_inBlock, blkQ_normal, blkQ_ret, blkQ_same, blkQ_exit, Wp_opThen, opQ_at, Wp_guardP, retQ_normal, retQ_ret, loopQ_normal, loopQ_exit, loopQ_ret, go_sem, entry, joinEsc, if_pos, reduceIte, Nat.reduceAdd, Nat.reduceLeDiff, Nat.reduceLT, Nat.reduceEqDiff]
      refine (amongN (n := 5) [-1, 60, 61, 12, 4611686018427387904] (h2.more _) (by omega) (by simp (maxSteps := 2000000) +contextual only [cellsAt_s0, cellsAt_sk, blkAt_s0, blkAt_sk, set_s0, set_sk, set_sapp, set_app, List.set_set, List.length_set, finish_one_setG, finish_one_set0, clean_none', Nat.add_assoc, go_sem, entry, joinEsc, if_pos, reduceIte, Nat.reduceAdd, Nat.reduceLeDiff, Nat.reduceLT, Nat.reduceEqDiff]) (by omega) rfl (by omega) (by omega)).mono ?_
      rintro v m ⟨x3, y3, z3, rfl, hx3, hy30, hy31, rfl⟩
      simp (maxSteps := 2000000) +contextual only [fillParts, hl, decide_true, cellsAt_s0, cellsAt_sk, blkAt_s0, blkAt_sk, set_s0, set_sk, set_sapp, set_app, List.set_set, List.length_set, finish_one_setG, finish_one_set0, clean_none', Nat.add_assoc, Wp_some, Wp_none, Wp_ite, Wc_some, Wc_none, Wc_ite, Wp_thenRun, seqQ_normal, seqQ_exit, seqQ_ret, Wp_inBlock, blkQ_normal, blkQ_ret, blkQ_same, blkQ_exit, Wp_opThen, opQ_at, Wp_guardP, retQ_normal, retQ_ret, loopQ_normal, loopQ_exit, loopQ_ret, go_sem, entry, joinEsc, if_pos, reduceIte, Nat.reduceAdd, Nat.reduceLeDiff, Nat.reduceLT, Nat.reduceEqDiff]
      exact r2 _ _ _ _ _ _ _ _ _ _ _ _ _ _ _ _ _ _ _ _ _ _ _ _ _ hy30 (by omega) hB
    · have c0' : decide (x2 = 0) = false := decide_eq_false c0
      by_cases c1 : x2 = 1
      · subst c1
        simp (maxSteps := 2000000) +contextual only [fillParts, hl, c0', decide_true, cellsAt_s0, cellsAt_sk, blkAt_s0, blkAt_sk, set_s0, set_sk, set_sapp, set_app, List.set_set, List.length_set, finish_one_setG, finish_one_set0, clean_none', Nat.add_assoc, Wp_some, Wp_none, Wp_ite, Wc_some, Wc_none, Wc_ite, Wp_thenRun, seqQ_normal, seqQ_exit, seqQ_ret, Wp_inBlock, blkQ_normal, blkQ_ret, blkQ_same, blkQ_exit, Wp_opThen, opQ_at, Wp_guardP, retQ_normal, retQ_ret, loopQ_normal, loopQ_exit, loopQ_ret, go_sem, entry, joinEsc, if_pos, reduceIte, Nat.reduceAdd, Nat.reduceLeDiff, Nat.reduceLT, Nat.reduceEqDiff]
        refine (amongN (n := 4) [0, 99, 100, -1] (h2.more _) (by omega) (by simp (maxSteps := 2000000) +contextual only [cellsAt_s0, cellsAt_sk, blkAt_s0, blkAt_sk, set_s0, set_sk, set_sapp, set_app, List.set_set, List.length_set, finish_one_setG, finish_one_set0, clean_none', Nat.add_assoc, go_sem, entry, joinEsc, if_pos, reduceIte, Nat.reduceAdd, Nat.reduceLeDiff, Nat.reduceLT, Nat.reduceEqDiff]) (by omega) rfl (by omega) (by omega)).mono ?_
        rintro v m ⟨x3, y3, z3, rfl, hx3, hy30, hy31, rfl⟩
        simp (maxSteps := 2000000) +contextual only [fillParts, hl, decide_true, cellsAt_s0, cellsAt_sk, blkAt_s0, blkAt_sk, set_s0, set_sk, set_sapp, set_app, List.set_set, List.length_set, finish_one_setG, finish_one_set0, clean_none', Nat.add_assoc, Wp_some, Wp_none, Wp_ite, Wc_some, Wc_none, Wc_ite, Wp_thenRun, seqQ_normal, seqQ_exit, seqQ_ret, Wp_inBlock, blkQ_normal, blkQ_ret, blkQ_same, blkQ_exit, Wp_opThen, opQ_at, Wp_guardP, retQ_normal, retQ_ret, loopQ_normal, loopQ_exit, loopQ_ret, go_sem, entry, joinEsc, if_pos, reduceIte, Nat.reduceAdd, Nat.reduceLeDiff, Nat.reduceLT, Nat.reduceEqDiff]
        exact r2 _ _ _ _ _ _ _ _ _ _ _ _ _ _ _ _ _ _ _ _ _ _ _ _ _ hy30 (by omega) hB
      · have c1' : decide (x2 = 1) = false := decide_eq_false c1
        by_cases c2 : x2 = 2
        · subst c2
          simp (maxSteps := 2000000) +contextual only [fillParts, hl, c0',c1', decide_true, cellsAt_s0, cellsAt_sk, blkAt_s0, blkAt_sk, set_s0, set_sk, set_sapp, set_app, List.set_set, List.length_set, finish_one_setG, finish_one_set0, clean_none', Nat.add_assoc, Wp_some, Wp_none, Wp_ite, Wc_some, Wc_none, Wc_ite, Wp_thenRun, seqQ_normal, seqQ_exit, seqQ_ret, Wp_inBlock, blkQ_normal, blkQ_ret, blkQ_same, blkQ_exit, Wp_opThen, opQ_at, Wp_guardP, retQ_normal, retQ_ret, loopQ_normal, loopQ_exit, loopQ_ret, go_sem, entry, joinEsc, if_pos, reduceIte, Nat.reduceAdd, Nat.reduceLeDiff, Nat.reduceLT, Nat.reduceEqDiff]
          refine (amongN (n := 3) [1, 25, -1] (h2.more _) (by omega) (by simp (maxSteps := 2000000) +contextual only [cellsAt_s0, cellsAt_sk, blkAt_s0, blkAt_sk, set_s0, set_sk, set_sapp, set_app, List.set_set, List.length_set, finish_one_setG, finish_one_set0, clean_none', Nat.add_assoc, go_sem, entry, joinEsc, if_pos, reduceIte, Nat.reduceAdd, Nat.reduceLeDiff, Nat.reduceLT, Nat.reduceEqDiff]) (by omega) rfl (by omega) (by omega)).mono ?_
          rintro v m ⟨x3, y3, z3, rfl, hx3, hy30, hy31, rfl⟩
          simp (maxSteps := 2000000) +contextual only [fillParts, hl, decide_true, cellsAt_s0, cellsAt_sk, blkAt_s0, blkAt_sk, set_s0, set_sk, set_sapp, set_app, List.set_set, List.length_set, finish_one_setG, finish_one_set0, clean_none', Nat.add_assoc, Wp_some, Wp_none, Wp_ite, Wc_some, Wc_none, Wc_ite, Wp_thenRun, seqQ_normal, seqQ_exit, seqQ_ret, Wp_inBlock, blkQ_normal, blkQ_ret, blkQ_same, blkQ_exit, Wp_opThen, opQ_at, Wp_guardP, retQ_normal, retQ_ret, loopQ_normal, loopQ_exit, loopQ_ret, go_sem, entry, joinEsc, if_pos, reduceIte, Nat.reduceAdd, Nat.reduceLeDiff, Nat.reduceLT, Nat.reduceEqDiff]
          exact r2 _ _ _ _ _ _ _ _ _ _ _ _ _ _ _ _ _ _ _ _ _ _ _ _ _ hy30 (by omega) hB
        · have c2' : decide (x2 = 2) = false := decide_eq_false c2
          by_cases c3 : x2 = 3
          · subst c3
            simp (maxSteps := 2000000) +contextual only [fillParts, hl, c0',c1',c2', decide_true, cellsAt_s0, cellsAt_sk, blkAt_s0, blkAt_sk, set_s0, set_sk, set_sapp, set_app, List.set_set, List.length_set, finish_one_setG, finish_one_set0, clean_none', Nat.add_assoc, Wp_some, Wp_none, Wp_ite, Wc_some, Wc_none, Wc_ite, Wp_thenRun, seqQ_normal, seqQ_exit, seqQ_ret, Wp_inBlock, blkQ_normal, blkQ_ret, blkQ_same, blkQ_exit, Wp_opThen, opQ_at, Wp_guardP, retQ_normal, retQ_ret, loopQ_normal, loopQ_exit, loopQ_ret, go_sem, entry, joinEsc, if_pos, reduceIte, Nat.reduceAdd, Nat.reduceLeDiff, Nat.reduceLT, Nat.reduceEqDiff]
            refine (amongN (n := 3) [0, 7, -1] (h2.more _) (by omega) (by simp (maxSteps := 2000000) +contextual only [cellsAt_s0, cellsAt_sk, blkAt_s0, blkAt_sk, set_s0, set_sk, set_sapp, set_app, List.set_set, List.length_set, finish_one_setG, finish_one_set0, clean_none', Nat.add_assoc, go_sem, entry, joinEsc, if_pos, reduceIte, Nat.reduceAdd, Nat.reduceLeDiff, Nat.reduceLT, Nat.reduceEqDiff]) (by omega) rfl (by omega) (by omega)).mono ?_
            rintro v m ⟨x3, y3, z3, rfl, hx3, hy30, hy31, rfl⟩
            simp (maxSteps := 2000000) +contextual only [fillParts, hl, decide_true, cellsAt_s0, cellsAt_sk, blkAt_s0, blkAt_sk, set_s0, set_sk, set_sapp, set_app, List.set_set, List.length_set, finish_one_setG, finish_one_set0, clean_none', Nat.add_assoc, Wp_some, Wp_none, Wp_ite, Wc_some, Wc_none, Wc_ite, Wp_thenRun, seqQ_normal, seqQ_exit, seqQ_ret, Wp_inBlock, blkQ_normal, blkQ_ret, blkQ_same, blkQ_exit, Wp_opThen, opQ_at, Wp_guardP, retQ_normal, retQ_ret, loopQ_normal, loopQ_exit, loopQ_ret, go_sem, entry, joinEsc, if_pos, reduceIte, Nat.reduceAdd, Nat.reduceLeDiff, Nat.reduceLT, Nat.reduceEqDiff]
            exact r2 _ _ _ _ _ _ _ _ _ _ _ _ _ _ _ _ _ _ _ _ _ _ _ _ _ hy30 (by omega) hB
          · have c3' : decide (x2 = 3) = false := decide_eq_false c3
            simp (maxSteps := 2000000) +contextual only [hl, c0',c1',c2',c3', cellsAt_s0, cellsAt_sk, blkAt_s0, blkAt_sk, set_s0, set_sk, set_sapp, set_app, List.set_set, List.length_set, finish_one_setG, finish_one_set0, clean_none', Nat.add_assoc, Wp_some, Wp_none, Wp_ite, Wc_some, Wc_none, Wc_ite, Wp_thenRun, seqQ_normal, seqQ_exit, seqQ_ret, Wp_inBlock, blkQ_normal, blkQ_ret, blkQ_same, blkQ_exit, Wp_opThen, opQ_at, Wp_guardP, retQ_normal, retQ_ret, loopQ_normal, loopQ_exit, loopQ_ret, go_sem, entry, joinEsc, if_pos, reduceIte, Nat.reduceAdd, Nat.reduceLeDiff, Nat.reduceLT, Nat.reduceEqDiff]
            exact r2 _ _ _ _ _ _ _ _ _ _ _ _ _ _ _ _ _ _ _ _ _ _ _ _ _ hy20 (by omega) hB
  show Wp (run T pr c_s_l1Cur_task12 _) _
  rw [hc]
  simp (maxSteps := 2000000) +contextual only [a_s_l1Cur_task12, c_s_l1Cur_task12, seqTl, seqHd, fillParts, cellsAt_s0, cellsAt_sk, blkAt_s0, blkAt_sk, set_s0, set_sk, set_sapp, set_app, List.set_set, List.length_set, finish_one_setG, finish_one_set0, clean_none', Nat.add_assoc, Wp_some, Wp_none, Wp_ite, Wc_some, Wc_none, Wc_ite, Wp_thenRun, seqQ_normal, seqQ_exit, seqQ_ret, Wp_inBlock, blkQ_normal, blkQ_ret, blkQ_same, blkQ_exit, Wp_opThen, opQ_at, Wp_guardP, retQ_normal, retQ_ret, loopQ_normal, loopQ_exit, loopQ_ret, go_sem, entry, joinEsc, if_pos, reduceIte, Nat.reduceAdd, Nat.reduceLeDiff, Nat.reduceLT, Nat.reduceEqDiff]
  refine (amongN (n := 10) [1, 1, 1, 2, 3, 3, 4, 5, 5, 6] (h.more _) (by omega) (by simp (maxSteps := 2000000) +contextual only [cellsAt_s0, cellsAt_sk, blkAt_s0, blkAt_sk, set_s0, set_sk, set_sapp, set_app, List.set_set, List.length_set, finish_one_setG, finish_one_set0, clean_none', Nat.add_assoc, go_sem, entry, joinEsc, if_pos, reduceIte, Nat.reduceAdd, Nat.reduceLeDiff, Nat.reduceLT, Nat.reduceEqDiff]) (by omega) rfl (by omega) (by omega)).mono ?_
  rintro v m ⟨x1, y1, z1, rfl, hx1, hy10, hy11, rfl⟩
  have h1 := h.step hy10 z1
  obtain ⟨N, hN, hN2⟩ : ∃ N : Int, (if (if (n1 : Int) < 12 then (n1 : Int) else 12) < 1 then (1 : Int) else (if (n1 : Int) < 12 then (n1 : Int) else 12)) = N ∧ N ≤ 12 := ⟨_, rfl, by split <;> (try split) <;> omega⟩
  obtain ⟨M, hM, hM2⟩ : ∃ N : Int, (if (if (n2 : Int) < 5 then (n2 : Int) else 5) < 1 then (1 : Int) else (if (n2 : Int) < 5 then (n2 : Int) else 5)) = N ∧ N ≤ 12 := ⟨_, rfl, by split <;> (try split) <;> omega⟩
  by_cases c1 : x1 = 1
  · subst c1
    simp (maxSteps := 2000000) +contextual only [fillParts, hl, l1Least_any, e_s_l1Most, hN, hM,  decide_true, cellsAt_s0, cellsAt_sk, blkAt_s0, blkAt_sk, set_s0, set_sk, set_sapp, set_app, List.set_set, List.length_set, finish_one_setG, finish_one_set0, clean_none', Nat.add_assoc, Wp_some, Wp_none, Wp_ite, Wc_some, Wc_none, Wc_ite, Wp_thenRun, seqQ_normal, seqQ_exit, seqQ_ret, Wp_inBlock, blkQ_normal, blkQ_ret, blkQ_same, blkQ_exit, Wp_opThen, opQ_at, Wp_guardP, retQ_normal, retQ_ret, loopQ_normal, loopQ_exit, loopQ_ret, go_sem, entry, joinEsc, if_pos, reduceIte, Nat.reduceAdd, Nat.reduceLeDiff, Nat.reduceLT, Nat.reduceEqDiff]
    refine (wc_pick 9 (h1.more _) (by omega) (by omega)).mono ?_
    rintro v m ⟨x2, y2, z2, rfl, hx20, hx21, hy20, hy21, rfl⟩
    have h2 := h1.step hy20 z2
    rw [List.set_set] at h2
    simp (maxSteps := 2000000) +contextual only [fillParts, hl, l1Least_any, e_s_l1Most, hN, hM,  decide_true, cellsAt_s0, cellsAt_sk, blkAt_s0, blkAt_sk, set_s0, set_sk, set_sapp, set_app, List.set_set, List.length_set, finish_one_setG, finish_one_set0, clean_none', Nat.add_assoc, Wp_some, Wp_none, Wp_ite, Wc_some, Wc_none, Wc_ite, Wp_thenRun, seqQ_normal, seqQ_exit, seqQ_ret, Wp_inBlock, blkQ_normal, blkQ_ret, blkQ_same, blkQ_exit, Wp_opThen, opQ_at, Wp_guardP, retQ_normal, retQ_ret, loopQ_normal, loopQ_exit, loopQ_ret, go_sem, entry, joinEsc, if_pos, reduceIte, Nat.reduceAdd, Nat.reduceLeDiff, Nat.reduceLT, Nat.reduceEqDiff]
    refine (wc_pick 6 (h2.more _) (by omega) (by omega)).mono ?_
    rintro v m ⟨x3, y3, z3, rfl, hx30, hx31, hy30, hy31, rfl⟩
    have h3 := h2.step hy30 z3
    rw [List.set_set] at h3
    simp (maxSteps := 2000000) +contextual only [fillParts, hl, l1Least_any, e_s_l1Most, hN, hM,  decide_true, cellsAt_s0, cellsAt_sk, blkAt_s0, blkAt_sk, set_s0, set_sk, set_sapp, set_app, List.set_set, List.length_set, finish_one_setG, finish_one_set0, clean_none', Nat.add_assoc, Wp_some, Wp_none, Wp_ite, Wc_some, Wc_none, Wc_ite, Wp_thenRun, seqQ_normal, seqQ_exit, seqQ_ret, Wp_inBlock, blkQ_normal, blkQ_ret, blkQ_same, blkQ_exit, Wp_opThen, opQ_at, Wp_guardP, retQ_normal, retQ_ret, loopQ_normal, loopQ_exit, loopQ_ret, go_sem, entry, joinEsc, if_pos, reduceIte, Nat.reduceAdd, Nat.reduceLeDiff, Nat.reduceLT, Nat.reduceEqDiff]
    exact r1 _ _ _ _ _ _ _ _ _ _ _ _ _ _ _ _ _ _ _ _ _ _ _ _ _ hy30 (by omega) rfl
  · have c1' : decide (x1 = 1) = false := decide_eq_false c1
    by_cases c2 : x1 = 2
    · subst c2
      simp (maxSteps := 2000000) +contextual only [fillParts, hl, l1Least_any, e_s_l1Most, hN, hM, c1', decide_true, cellsAt_s0, cellsAt_sk, blkAt_s0, blkAt_sk, set_s0, set_sk, set_sapp, set_app, List.set_set, List.length_set, finish_one_setG, finish_one_set0, clean_none', Nat.add_assoc, Wp_some, Wp_none, Wp_ite, Wc_some, Wc_none, Wc_ite, Wp_thenRun, seqQ_normal, seqQ_exit, seqQ_ret, Wp_inBlock, blkQ_normal, blkQ_ret, blkQ_same, blkQ_exit, Wp_opThen, opQ_at, Wp_guardP, retQ_normal, retQ_ret, loopQ_normal, loopQ_exit, loopQ_ret, go_sem, entry, joinEsc, if_pos, reduceIte, Nat.reduceAdd, Nat.reduceLeDiff, Nat.reduceLT, Nat.reduceEqDiff]
      refine (wc_pick N (h1.more _) (by omega) (by omega)).mono ?_
      rintro v m ⟨x2, y2, z2, rfl, hx20, hx21, hy20, hy21, rfl⟩
      have h2 := h1.step hy20 z2
      rw [List.set_set] at h2
      simp (maxSteps := 2000000) +contextual only [fillParts, hl, l1Least_any, e_s_l1Most, hN, hM,  decide_true, cellsAt_s0, cellsAt_sk, blkAt_s0, blkAt_sk, set_s0, set_sk, set_sapp, set_app, List.set_set, List.length_set, finish_one_setG, finish_one_set0, clean_none', Nat.add_assoc, Wp_some, Wp_none, Wp_ite, Wc_some, Wc_none, Wc_ite, Wp_thenRun, seqQ_normal, seqQ_exit, seqQ_ret, Wp_inBlock, blkQ_normal, blkQ_ret, blkQ_same, blkQ_exit, Wp_opThen, opQ_at, Wp_guardP, retQ_normal, retQ_ret, loopQ_normal, loopQ_exit, loopQ_ret, go_sem, entry, joinEsc, if_pos, reduceIte, Nat.reduceAdd, Nat.reduceLeDiff, Nat.reduceLT, Nat.reduceEqDiff]
      exact r1 _ _ _ _ _ _ _ _ _ _ _ _ _ _ _ _ _ _ _ _ _ _ _ _ _ hy20 (by omega) rfl
    · have c2' : decide (x1 = 2) = false := decide_eq_false c2
      by_cases c3 : x1 = 3
      · subst c3
        simp (maxSteps := 2000000) +contextual only [fillParts, hl, l1Least_any, e_s_l1Most, hN, hM, c1',c2', decide_true, cellsAt_s0, cellsAt_sk, blkAt_s0, blkAt_sk, set_s0, set_sk, set_sapp, set_app, List.set_set, List.length_set, finish_one_setG, finish_one_set0, clean_none', Nat.add_assoc, Wp_some, Wp_none, Wp_ite, Wc_some, Wc_none, Wc_ite, Wp_thenRun, seqQ_normal, seqQ_exit, seqQ_ret, Wp_inBlock, blkQ_normal, blkQ_ret, blkQ_same, blkQ_exit, Wp_opThen, opQ_at, Wp_guardP, retQ_normal, retQ_ret, loopQ_normal, loopQ_exit, loopQ_ret, go_sem, entry, joinEsc, if_pos, reduceIte, Nat.reduceAdd, Nat.reduceLeDiff, Nat.reduceLT, Nat.reduceEqDiff]
        refine (wc_pick N (h1.more _) (by omega) (by omega)).mono ?_
        rintro v m ⟨x2, y2, z2, rfl, hx20, hx21, hy20, hy21, rfl⟩
        have h2 := h1.step hy20 z2
        rw [List.set_set] at h2
        simp (maxSteps := 2000000) +contextual only [fillParts, hl, l1Least_any, e_s_l1Most, hN, hM,  decide_true, cellsAt_s0, cellsAt_sk, blkAt_s0, blkAt_sk, set_s0, set_sk, set_sapp, set_app, List.set_set, List.length_set, finish_one_setG, finish_one_set0, clean_none', Nat.add_assoc, Wp_some, Wp_none, Wp_ite, Wc_some, Wc_none, Wc_ite, Wp_thenRun, seqQ_normal, seqQ_exit, seqQ_ret, Wp_inBlock, blkQ_normal, blkQ_ret, blkQ_same, blkQ_exit, Wp_opThen, opQ_at, Wp_guardP, retQ_normal, retQ_ret, loopQ_normal, loopQ_exit, loopQ_ret, go_sem, entry, joinEsc, if_pos, reduceIte, Nat.reduceAdd, Nat.reduceLeDiff, Nat.reduceLT, Nat.reduceEqDiff]
        refine (wc_pick 9 (h2.more _) (by omega) (by omega)).mono ?_
        rintro v m ⟨x3, y3, z3, rfl, hx30, hx31, hy30, hy31, rfl⟩
        have h3 := h2.step hy30 z3
        rw [List.set_set] at h3
        simp (maxSteps := 2000000) +contextual only [fillParts, hl, l1Least_any, e_s_l1Most, hN, hM,  decide_true, cellsAt_s0, cellsAt_sk, blkAt_s0, blkAt_sk, set_s0, set_sk, set_sapp, set_app, List.set_set, List.length_set, finish_one_setG, finish_one_set0, clean_none', Nat.add_assoc, Wp_some, Wp_none, Wp_ite, Wc_some, Wc_none, Wc_ite, Wp_thenRun, seqQ_normal, seqQ_exit, seqQ_ret, Wp_inBlock, blkQ_normal, blkQ_ret, blkQ_same, blkQ_exit, Wp_opThen, opQ_at, Wp_guardP, retQ_normal, retQ_ret, loopQ_normal, loopQ_exit, loopQ_ret, go_sem, entry, joinEsc, if_pos, reduceIte, Nat.reduceAdd, Nat.reduceLeDiff, Nat.reduceLT, Nat.reduceEqDiff]
        exact r1 _ _ _ _ _ _ _ _ _ _ _ _ _ _ _ _ _ _ _ _ _ _ _ _ _ hy30 (by omega) rfl
      · have c3' : decide (x1 = 3) = false := decide_eq_false c3
        by_cases c4 : x1 = 4
        · subst c4
          simp (maxSteps := 2000000) +contextual only [fillParts, hl, l1Least_any, e_s_l1Most, hN, hM, c1',c2',c3', decide_true, cellsAt_s0, cellsAt_sk, blkAt_s0, blkAt_sk, set_s0, set_sk, set_sapp, set_app, List.set_set, List.length_set, finish_one_setG, finish_one_set0, clean_none', Nat.add_assoc, Wp_some, Wp_none, Wp_ite, Wc_some, Wc_none, Wc_ite, Wp_thenRun, seqQ_normal, seqQ_exit, seqQ_ret, Wp_inBlock, blkQ_normal, blkQ_ret, blkQ_same, blkQ_exit, Wp_opThen, opQ_at, Wp_guardP, retQ_normal, retQ_ret, loopQ_normal, loopQ_exit, loopQ_ret, go_sem, entry, joinEsc, if_pos, reduceIte, Nat.reduceAdd, Nat.reduceLeDiff, Nat.reduceLT, Nat.reduceEqDiff]
          refine (wc_pick 4 (h1.more _) (by omega) (by omega)).mono ?_
          rintro v m ⟨x2, y2, z2, rfl, hx20, hx21, hy20, hy21, rfl⟩
          have h2 := h1.step hy20 z2
          rw [List.set_set] at h2
          simp (maxSteps := 2000000) +contextual only [fillParts, hl, l1Least_any, e_s_l1Most, hN, hM,  decide_true, cellsAt_s0, cellsAt_sk, blkAt_s0, blkAt_sk, set_s0, set_sk, set_sapp, set_app, List.set_set, List.length_set, finish_one_setG, finish_one_set0, clean_none', Nat.add_assoc, Wp_some, Wp_none, Wp_ite, Wc_some, Wc_none, Wc_ite, Wp_thenRun, seqQ_normal, seqQ_exit, seqQ_ret, Wp_inBlock, blkQ_normal, blkQ_ret, blkQ_same, blkQ_exit, Wp_opThen, opQ_at, Wp_guardP, retQ_normal, retQ_ret, loopQ_normal, loopQ_exit, loopQ_ret, go_sem, entry, joinEsc, if_pos, reduceIte, Nat.reduceAdd, Nat.reduceLeDiff, Nat.reduceLT, Nat.reduceEqDiff]
          refine (wc_pick 5 (h2.more _) (by omega) (by omega)).mono ?_
          rintro v m ⟨x3, y3, z3, rfl, hx30, hx31, hy30, hy31, rfl⟩
          have h3 := h2.step hy30 z3
          rw [List.set_set] at h3
          simp (maxSteps := 2000000) +contextual only [fillParts, hl, l1Least_any, e_s_l1Most, hN, hM,  decide_true, cellsAt_s0, cellsAt_sk, blkAt_s0, blkAt_sk, set_s0, set_sk, set_sapp, set_app, List.set_set, List.length_set, finish_one_setG, finish_one_set0, clean_none', Nat.add_assoc, Wp_some, Wp_none, Wp_ite, Wc_some, Wc_none, Wc_ite, Wp_thenRun, seqQ_normal, seqQ_exit, seqQ_ret, Wp_inBlock, blkQ_normal, blkQ_ret, blkQ_same, blkQ_exit, Wp_opThen, opQ_at, Wp_guardP, retQ_normal, retQ_ret, loopQ_normal, loopQ_exit, loopQ_ret, go_sem, entry, joinEsc, if_pos, reduceIte, Nat.reduceAdd, Nat.reduceLeDiff, Nat.reduceLT, Nat.reduceEqDiff]
          exact r1 _ _ _ _ _ _ _ _ _ _ _ _ _ _ _ _ _ _ _ _ _ _ _ _ _ hy30 (by omega) rfl
        · have c4' : decide (x1 = 4) = false := decide_eq_false c4
          by_cases c5 : x1 = 5
          · subst c5
            simp (maxSteps := 2000000) +contextual only [fillParts, hl, l1Least_any, e_s_l1Most, hN, hM, c1',c2',c3',c4', decide_true, cellsAt_s0, cellsAt_sk, blkAt_s0, blkAt_sk, set_s0, set_sk, set_sapp, set_app, List.set_set, List.length_set, finish_one_setG, finish_one_set0, clean_none', Nat.add_assoc, Wp_some, Wp_none, Wp_ite, Wc_some, Wc_none, Wc_ite, Wp_thenRun, seqQ_normal, seqQ_exit, seqQ_ret, Wp_inBlock, blkQ_normal, blkQ_ret, blkQ_same, blkQ_exit, Wp_opThen, opQ_at, Wp_guardP, retQ_normal, retQ_ret, loopQ_normal, loopQ_exit, loopQ_ret, go_sem, entry, joinEsc, if_pos, reduceIte, Nat.reduceAdd, Nat.reduceLeDiff, Nat.reduceLT, Nat.reduceEqDiff]
            refine (wc_stage7 (h1.more _) (by omega)).mono ?_
            rintro v m ⟨g1, g2, g3, y2, z2, rfl, hy20, hy21, rfl⟩
            simp (maxSteps := 2000000) +contextual only [fillParts, hl, l1Least_any, e_s_l1Most, hN, hM,  decide_true, cellsAt_s0, cellsAt_sk, blkAt_s0, blkAt_sk, set_s0, set_sk, set_sapp, set_app, List.set_set, List.length_set, finish_one_setG, finish_one_set0, clean_none', Nat.add_assoc, Wp_some, Wp_none, Wp_ite, Wc_some, Wc_none, Wc_ite, Wp_thenRun, seqQ_normal, seqQ_exit, seqQ_ret, Wp_inBlock, blkQ_normal, blkQ_ret, blkQ_same, blkQ_exit, Wp_opThen, opQ_at, Wp_guardP, retQ_normal, retQ_ret, loopQ_normal, loopQ_exit, loopQ_ret, go_sem, entry, joinEsc, if_pos, reduceIte, Nat.reduceAdd, Nat.reduceLeDiff, Nat.reduceLT, Nat.reduceEqDiff]
            exact r1 _ _ _ _ _ _ _ _ _ _ _ _ _ _ _ _ _ _ _ _ _ _ _ _ _ hy20 (by omega) rfl
          · have c5' : decide (x1 = 5) = false := decide_eq_false c5
            by_cases c6 : x1 = 6
            · subst c6
              simp (maxSteps := 2000000) +contextual only [fillParts, hl, l1Least_any, e_s_l1Most, hN, hM, c1',c2',c3',c4',c5', decide_true, cellsAt_s0, cellsAt_sk, blkAt_s0, blkAt_sk, set_s0, set_sk, set_sapp, set_app, List.set_set, List.length_set, finish_one_setG, finish_one_set0, clean_none', Nat.add_assoc, Wp_some, Wp_none, Wp_ite, Wc_some, Wc_none, Wc_ite, Wp_thenRun, seqQ_normal, seqQ_exit, seqQ_ret, Wp_inBlock, blkQ_normal, blkQ_ret, blkQ_same, blkQ_exit, Wp_opThen, opQ_at, Wp_guardP, retQ_normal, retQ_ret, loopQ_normal, loopQ_exit, loopQ_ret, go_sem, entry, joinEsc, if_pos, reduceIte, Nat.reduceAdd, Nat.reduceLeDiff, Nat.reduceLT, Nat.reduceEqDiff]
              refine (wc_pick M (h1.more _) (by omega) (by omega)).mono ?_
              rintro v m ⟨x2, y2, z2, rfl, hx20, hx21, hy20, hy21, rfl⟩
              have h2 := h1.step hy20 z2
              rw [List.set_set] at h2
              simp (maxSteps := 2000000) +contextual only [fillParts, hl, l1Least_any, e_s_l1Most, hN, hM,  decide_true, cellsAt_s0, cellsAt_sk, blkAt_s0, blkAt_sk, set_s0, set_sk, set_sapp, set_app, List.set_set, List.length_set, finish_one_setG, finish_one_set0, clean_none', Nat.add_assoc, Wp_some, Wp_none, Wp_ite, Wc_some, Wc_none, Wc_ite, Wp_thenRun, seqQ_normal, seqQ_exit, seqQ_ret, Wp_inBlock, blkQ_normal, blkQ_ret, blkQ_same, blkQ_exit, Wp_opThen, opQ_at, Wp_guardP, retQ_normal, retQ_ret, loopQ_normal, loopQ_exit, loopQ_ret, go_sem, entry, joinEsc, if_pos, reduceIte, Nat.reduceAdd, Nat.reduceLeDiff, Nat.reduceLT, Nat.reduceEqDiff]
              exact r1 _ _ _ _ _ _ _ _ _ _ _ _ _ _ _ _ _ _ _ _ _ _ _ _ _ hy20 (by omega) rfl
            · have c6' : decide (x1 = 6) = false := decide_eq_false c6
              simp (maxSteps := 2000000) +contextual only [fillParts, hl, l1Least_any, e_s_l1Most, hN, hM, c1',c2',c3',c4',c5',c6', decide_true, cellsAt_s0, cellsAt_sk, blkAt_s0, blkAt_sk, set_s0, set_sk, set_sapp, set_app, List.set_set, List.length_set, finish_one_setG, finish_one_set0, clean_none', Nat.add_assoc, Wp_some, Wp_none, Wp_ite, Wc_some, Wc_none, Wc_ite, Wp_thenRun, seqQ_normal, seqQ_exit, seqQ_ret, Wp_inBlock, blkQ_normal, blkQ_ret, blkQ_same, blkQ_exit, Wp_opThen, opQ_at, Wp_guardP, retQ_normal, retQ_ret, loopQ_normal, loopQ_exit, loopQ_ret, go_sem, entry, joinEsc, if_pos, reduceIte, Nat.reduceAdd, Nat.reduceLeDiff, Nat.reduceLT, Nat.reduceEqDiff]
              exact r1 _ _ _ _ _ _ _ _ _ _ _ _ _ _ _ _ _ _ _ _ _ _ _ _ _ hy10 (by omega) rfl

end Go.Proofs.Ytlocjmbfcdfjfaa.Slim
