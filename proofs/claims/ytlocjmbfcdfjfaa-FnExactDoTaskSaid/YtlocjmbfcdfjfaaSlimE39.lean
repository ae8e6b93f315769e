/- The safe moves of a party. -/
import Derived.Test.YtlocjmbfcdfjfaaSlimE37
namespace Go.Proofs.Ytlocjmbfcdfjfaa.Slim

open Go

set_option linter.unusedSimpArgs false

set_option linter.unusedVariables false

variable {pr : Prims} {H : List Blk} {e : Option Nat}

/-- one person at another place -/
def movd : List Ld → Nat → Int → List Ld
  | [], _, _ => []
  | l :: ls, 0, p => (p, l.2) :: ls
  | l :: ls, i + 1, p => l :: movd ls i p

theorem movd_length : ∀ (ls : List Ld) (i : Nat) (p : Int), (movd ls i p).length = ls.length
  | [], _, _ => rfl
  | l :: ls, 0, p => rfl
  | l :: ls, i + 1, p => by simp [movd, movd_length ls i p]

theorem movd_split {ls : List Ld} {i : Nat} (p : Int) (hi : i < ls.length) : ∃ P l R, ls = P ++ l :: R ∧ P.length = i ∧ ls[i]? = some l ∧ movd ls i p = P ++ (p, l.2) :: R := by
  induction ls generalizing i with
  | nil => simp at hi
  | cons l ls ih =>
    cases i with
    | zero => exact ⟨[], l, ls, rfl, rfl, rfl, rfl⟩
    | succ i =>
      obtain ⟨P, l', R, h1, h2, h3, h4⟩ := ih (by simpa using hi)
      exact ⟨l :: P, l', R, by rw [h1]; rfl, by simp [h2], by simpa using h3, by rw [movd, h4]; rfl⟩

theorem putL_set : ∀ (ls : List Ld) (ss : List Int) (i : Nat) (p : Int), i < ls.length → ls.length ≤ ss.length → putL ls (ss.set i p) = movd (putL ls ss) i p
  | [], ss, i, p, hi, hl => by simp at hi
  | l :: ls, [], i, p, hi, hl => by simp at hl
  | l :: ls, s :: ss, 0, p, hi, hl => rfl
  | l :: ls, s :: ss, i + 1, p, hi, hl => by
    have := putL_set ls ss i p (by simpa using hi) (by simpa using hl)
    simp [putL, movd, this]

theorem setRange_movd {ls : List Ld} {i : Nat} (p : Int) (hi : i < ls.length) : setRange (encL ls) (i * 2) [.int .i64 p] = encL (movd ls i p) := by
  obtain ⟨P, l, R, h1, h2, _, h4⟩ := movd_split p hi
  rw [h4, h1, ← h2]
  exact setRange_midL0 P R l p

/-- is it a place on the plank, and do they rest there? -/
def okMv (x a b : Int) (ls : List Ld) (i : Nat) (p : Int) : Bool := (decide (0 ≤ p) && decide (p ≤ x)) && decide (sideW (movd ls i p) a b = 0)

def plOf (ls : List Ld) (i : Nat) : Int := (ls[i]?.getD (0, 0)).1

/-- is a move safe? -/
def safeMv (x a b : Int) (ls : List Ld) (s i p : Int) : Bool := ((decide (0 ≤ i) && decide (i ≤ (ls.length : Int) - 1)) && (decide (0 ≤ p) && decide (p ≤ x))) && ((decide (wr (p - plOf ls i.toNat) = s) || decide (wr (p - plOf ls i.toNat) = wr (0 - s))) && decide (sideW (movd ls i.toNat p) a b = 0))

theorem at02 : ((0 : Int) ≤ 0 ∧ (0 : Int) < ((2 : Nat) : Int)) = True := by simp

theorem at12 : ((0 : Int) ≤ 1 ∧ (1 : Int) < ((2 : Nat) : Int)) = True := by simp

theorem toNat0 : Int.toNat 0 = 0 := rfl

theorem toNat1 : Int.toNat 1 = 1 := rfl

theorem append_ld2 {G : List Blk} {B : Blk} {j : Nat} {o : List Ld} {cap : Option Nat} (hG : G[j]? = some (.cells (encL o) true)) (hcap : cap = some 0 → o = []) (hmb : (o.length + 1) * 16 ≤ maxBytes) (a b : Int) :
    appendV (H ++ (G ++ [B, .cells [.int .i64 a, .int .i64 b] true])) e false 2 16 (slL (H.length + j) o.length cap) (.slice (some (H.length + (G.length + 1), 0)) 2 1 (some 1)) =
      some (slL (H.length + (G.length + 2)) (o.length + 1) none, ⟨H ++ (killIf cap j (G ++ [B, .cells [.int .i64 a, .int .i64 b] true]) ++ [.cells (encL o ++ [.int .i64 a, .int .i64 b]) true]), e⟩) := by
  have hj : j < G.length := (List.getElem?_eq_some_iff.mp hG).1
  have h := append_ld (H := H) (e := e) (G := G ++ [B]) (j := j) (o := o) (cap := cap) (by rw [List.getElem?_append_left hj]; exact hG) hcap hmb a b
  simpa [Nat.add_assoc] using h

/-- the safe ones of some moves of one person -/
def selM (x a b : Int) (ls : List Ld) (i : Nat) (ps : List Int) : List Ld := (ps.filter (okMv x a b ls i)).map fun p => ((i : Int), p)

theorem selM_cons (x a b : Int) (ls : List Ld) (i : Nat) (p : Int) (ps : List Int) : selM x a b ls i (p :: ps) = if okMv x a b ls i p = true then ((i : Int), p) :: selM x a b ls i ps else selM x a b ls i ps := by
  unfold selM
  cases h : okMv x a b ls i p <;> simp [h]

theorem set3 {s0 s1 s2 p : Int} {i : Nat} (hi : i < 3) : ∃ t0 t1 t2, [s0, s1, s2].set i p = [t0, t1, t2] ∧ setRange [.int .i64 s0, .int .i64 s1, .int .i64 s2] i [.int .i64 p] = [.int .i64 t0, .int .i64 t1, .int .i64 t2] := by
  match i, hi with
  | 0, _ => exact ⟨p, s1, s2, rfl, rfl⟩
  | 1, _ => exact ⟨s0, p, s2, rfl, rfl⟩
  | 2, _ => exact ⟨s0, s1, p, rfl, rfl⟩

/-- all safe moves -/
def mvsFrom (x a b s : Int) (ls : List Ld) : Nat → Nat → List Ld
  | 0, _ => []
  | k + 1, i => selM x a b ls i [wr (plOf ls i - s), wr (plOf ls i + s)] ++ mvsFrom x a b s ls k (i + 1)

theorem selM_le (x a b : Int) (ls : List Ld) (i : Nat) (ps : List Int) : (selM x a b ls i ps).length ≤ ps.length := by
  unfold selM
  rw [List.length_map]
  exact List.length_filter_le _ _

theorem plOf_putL : ∀ (ls : List Ld) (ss : List Int) (i : Nat) (p : Int), i < ls.length → ss[i]? = some p → plOf (putL ls ss) i = p
  | [], ss, i, p, hi, hp => by simp at hi
  | l :: ls, [], i, p, hi, hp => by simp at hp
  | l :: ls, s :: ss, 0, p, hi, hp => by simp at hp; subst hp; rfl
  | l :: ls, s :: ss, i + 1, p, hi, hp => plOf_putL ls ss i p (by simpa using hi) (by simpa using hp)

/-- how a party's places are bounded -/
def plB (ls : List Ld) : Prop := ∀ i, i < ls.length → 0 ≤ plOf ls i ∧ plOf ls i ≤ 60

theorem safe_ok {x a b s : Int} {ls : List Ld} {i : Nat} (hi : i < ls.length) (hpl : plB ls) (hs : 1 ≤ s ∧ s ≤ 4) {p : Int} (hp : p = wr (plOf ls i - s) ∨ p = wr (plOf ls i + s)) : safeMv x a b ls s i p = okMv x a b ls i p := by
  obtain ⟨h1, h2⟩ := hpl i hi
  have w1 : wr (plOf ls i - s) = plOf ls i - s := wrap64 (by omega) (by omega)
  have w2 : wr (plOf ls i + s) = plOf ls i + s := wrap64 (by omega) (by omega)
  have w3 : wr (0 - s) = - s := by show IntKind.i64.wrap (0 - s) = - s; rw [wrap64 (by omega) (by omega)]; omega
  have w4 : wr (p - plOf ls i) = p - plOf ls i := wrap64 (by omega) (by omega)
  have hr : (decide (0 ≤ (i : Int)) && decide ((i : Int) ≤ (ls.length : Int) - 1)) = true := by simp; omega
  unfold safeMv okMv
  rw [hr, Int.toNat_natCast, w3, w4, Bool.true_and]
  have : (decide (p - plOf ls i = s) || decide (p - plOf ls i = -s)) = true := by
    rw [w1, w2] at hp
    simp
    omega
  rw [this, Bool.true_and]

end Go.Proofs.Ytlocjmbfcdfjfaa.Slim
