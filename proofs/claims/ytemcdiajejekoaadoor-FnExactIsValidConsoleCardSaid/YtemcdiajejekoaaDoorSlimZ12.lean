/- Texts, and records of a log. -/
import Derived.Test.YtemcdiajejekoaaDoorSlimZ11
import Derived.Lib.Bytealg
/- Texts, and records of a log. -/
namespace Go.Proofs.YtemcdiajejekoaaDoor.Slim

open Go

set_option linter.unusedSimpArgs false

set_option linter.unusedVariables false

variable {pr : Prims} {H : List Blk} {e : Option Nat}

/-- a byte that a record may have -/
def okB (b : UInt8) : Bool := !((decide ((b.toNat : Int) < 32) || decide (126 < (b.toNat : Int))) || decide ((b.toNat : Int) = 35))

def textOk (s : ByteArray) : Bool := s.data.toList.all okB

/-- does a text have this byte? -/
def hasB (s : ByteArray) (c : Int) : Bool := s.data.toList.any fun b => decide ((b.toNat : Int) = c)

theorem str_get {s : ByteArray} {i : Nat} (h : i < s.data.toList.length) : s[i]? = some s.data.toList[i] := by
  have h1 : i < s.size := h
  rw [getElem?_pos s i h1]
  rfl

theorem str_len (s : ByteArray) : s.data.toList.length = s.size := rfl

theorem loop_i_isText {s : ByteArray} (hn : s.data.toList.length ≤ 9223372036854775806) :
    ∀ (k i : Nat) (y2 y5 y6 : AV), k + i = s.data.toList.length → ∃ (z2 z4 z5 z6 : AV), run T pr (.loop w_i_isText_1) ⟨[.str s, .bool false, y2, .int .i64 s.data.toList.length, .int .i64 i, y5, y6], ⟨H, e⟩⟩ =
      some (if (s.data.toList.drop i).all okB = true then Ex.exit 0 else Ex.ret, ⟨[.str s, .bool false, z2, .int .i64 s.data.toList.length, z4, z5, z6], ⟨H, e⟩⟩)
  | 0, i, y2, y5, y6, hk => by
    have hi : i = s.data.toList.length := by omega
    subst hi
    refine ⟨y2, .int .i64 s.data.toList.length, .bool false, y6, ?_⟩
    rw [run_loop, List.drop_length]
    generalize run T pr (.loop w_i_isText_1) = R
    simp +contextual only [w_i_isText_1, Nat.lt_irrefl, decide_false, List.all_nil, go_sem, entry, joinEsc, if_pos, reduceIte, Nat.reduceAdd, Nat.reduceLeDiff, Nat.reduceLT, Nat.reduceEqDiff]
  | k + 1, i, y2, y5, y6, hk => by
    have hi : i < s.data.toList.length := by omega
    have hb := str_get hi
    rw [run_loop, List.drop_eq_getElem_cons hi, List.all_cons]
    obtain ⟨z2, z4, z5, z6, ih⟩ := loop_i_isText hn k (i + 1) (.int .i64 i) (.bool true) (.bool false) (by omega)
    generalize s.data.toList[i] = b at hb ⊢
    generalize run T pr (.loop w_i_isText_1) = R at ih ⊢
    unfold okB
    cases h1 : decide ((b.toNat : Int) < 32) with
    | true =>
      refine ⟨.int .i64 i, .int .i64 i, .bool true, .bool true, ?_⟩
      simp +contextual only [w_i_isText_1, hi, hb, h1, decide_true, go_sem, entry, joinEsc, if_pos, reduceIte, Nat.reduceAdd, Nat.reduceLeDiff, Nat.reduceLT, Nat.reduceEqDiff]
    | false =>
      cases h2 : decide (126 < (b.toNat : Int)) with
      | true =>
        refine ⟨.int .i64 i, .int .i64 i, .bool true, .bool true, ?_⟩
        simp +contextual only [w_i_isText_1, hi, hb, h1, h2, decide_true, go_sem, entry, joinEsc, if_pos, reduceIte, Nat.reduceAdd, Nat.reduceLeDiff, Nat.reduceLT, Nat.reduceEqDiff]
      | false =>
        cases h3 : decide ((b.toNat : Int) = 35) with
        | true =>
          refine ⟨.int .i64 i, .int .i64 i, .bool true, .bool true, ?_⟩
          simp +contextual only [w_i_isText_1, hi, hb, h1, h2, h3, decide_true, go_sem, entry, joinEsc, if_pos, reduceIte, Nat.reduceAdd, Nat.reduceLeDiff, Nat.reduceLT, Nat.reduceEqDiff]
        | false =>
          refine ⟨z2, z4, z5, z6, ?_⟩
          simp +contextual only [w_i_isText_1, hi, hb, h1, h2, h3, wrap_succ (show i < 9223372036854775807 by omega), decide_true, go_sem, entry, joinEsc, if_pos, reduceIte, Nat.reduceAdd, Nat.reduceLeDiff, Nat.reduceLT, Nat.reduceEqDiff]
          exact ih

theorem e_i_isText {s : ByteArray} (hn : s.data.toList.length ≤ 9223372036854775806) : call T pr f_i_isText [.str s] ⟨H, e⟩ = some (.bool (textOk s), ⟨H, e⟩) := by
  obtain ⟨z2, z4, z5, z6, hl⟩ := loop_i_isText (pr := pr) (H := H) (e := none) hn s.data.toList.length 0 .undef .undef .undef rfl
  have h0 : ((0 : Nat) : Int) = 0 := rfl
  rw [h0, List.drop_zero, str_len] at hl
  rw [call_eq t_i_isText]
  unfold textOk
  cases h1 : s.data.toList.all okB <;> rw [h1] at hl <;> simp +contextual only [a_i_isText, c_i_isText, hl, go_sem, entry, joinEsc, if_pos, reduceIte, Nat.reduceAdd, Nat.reduceLeDiff, Nat.reduceLT, Nat.reduceEqDiff]

theorem u8_lt (b : UInt8) : b.toNat < 256 := b.toNat_lt

theorem loop_s_l12Bytes {s : ByteArray} {x : AV} (hn : s.data.toList.length ≤ 9223372036854775806) :
    ∀ (k i : Nat) (y4 y5 : AV), k + i = s.data.toList.length → ∃ (z3 z4 z5 : AV), run T pr (.loop w_s_l12Bytes_1) ⟨[.str s, x, .bool false, .int .i64 i, y4, y5], ⟨H, e⟩⟩ =
      some (if (s.data.toList.drop i).all okB = true then Ex.exit 0 else Ex.ret, ⟨[.str s, x, .bool false, z3, z4, z5], ⟨H, e⟩⟩)
  | 0, i, y4, y5, hk => by
    have hi : i = s.data.toList.length := by omega
    subst hi
    refine ⟨.int .i64 s.data.toList.length, .bool false, y5, ?_⟩
    rw [run_loop, List.drop_length, str_len]
    generalize run T pr (.loop w_s_l12Bytes_1) = R
    simp +contextual only [w_s_l12Bytes_1, Nat.lt_irrefl, decide_false, List.all_nil, go_sem, entry, joinEsc, if_pos, reduceIte, Nat.reduceAdd, Nat.reduceLeDiff, Nat.reduceLT, Nat.reduceEqDiff]
  | k + 1, i, y4, y5, hk => by
    have hi : i < s.data.toList.length := by omega
    have hi' : i < s.size := hi
    have hb := str_get hi
    rw [run_loop, List.drop_eq_getElem_cons hi, List.all_cons]
    obtain ⟨z3, z4, z5, ih⟩ := loop_s_l12Bytes (x := x) hn k (i + 1) (.bool true) (.bool false) (by omega)
    generalize s.data.toList[i] = b at hb ⊢
    generalize run T pr (.loop w_s_l12Bytes_1) = R at ih ⊢
    have hlt := u8_lt b
    have hw : IntKind.i64.wrap (b.toNat : Int) = (b.toNat : Int) := wrap64 (by omega) (by omega)
    have hin : (decide ((32 : Int) ≤ (b.toNat : Int)) && decide ((b.toNat : Int) ≤ 126)) = !(decide ((b.toNat : Int) < 32) || decide (126 < (b.toNat : Int))) := by
      rw [Bool.eq_iff_iff]
      simp
    unfold okB
    cases h1 : (decide ((b.toNat : Int) < 32) || decide (126 < (b.toNat : Int))) with
    | true =>
      rw [h1] at hin
      refine ⟨.int .i64 i, .bool true, .bool true, ?_⟩
      simp +contextual only [w_s_l12Bytes_1, hi', hb, hw, e_s_l1In, hin, decide_true, go_sem, entry, joinEsc, if_pos, reduceIte, Nat.reduceAdd, Nat.reduceLeDiff, Nat.reduceLT, Nat.reduceEqDiff]
    | false =>
      rw [h1] at hin
      have hin1 : decide ((32 : Int) ≤ (b.toNat : Int)) = true := (Bool.and_eq_true_iff.mp hin).1
      have hin2 : decide ((b.toNat : Int) ≤ 126) = true := (Bool.and_eq_true_iff.mp hin).2
      cases h3 : decide ((b.toNat : Int) = 35) with
      | true =>
        refine ⟨.int .i64 i, .bool true, .bool true, ?_⟩
        simp +contextual only [w_s_l12Bytes_1, hi', hb, hw, e_s_l1In, hin1, hin2, h3, decide_true, go_sem, entry, joinEsc, if_pos, reduceIte, Nat.reduceAdd, Nat.reduceLeDiff, Nat.reduceLT, Nat.reduceEqDiff]
      | false =>
        refine ⟨z3, z4, z5, ?_⟩
        simp +contextual only [w_s_l12Bytes_1, hi', hb, hw, e_s_l1In, hin1, hin2, h3, wrap_succ (show i < 9223372036854775807 by omega), decide_true, go_sem, entry, joinEsc, if_pos, reduceIte, Nat.reduceAdd, Nat.reduceLeDiff, Nat.reduceLT, Nat.reduceEqDiff]
        exact ih

theorem e_s_l12Bytes {s : ByteArray} (hn : s.data.toList.length ≤ 9223372036854775806) (x : Int) : call T pr f_s_l12Bytes [.str s, .int .i64 x] ⟨H, e⟩ = some (.bool (textOk s && decide ((s.size : Int) ≤ x)), ⟨H, e⟩) := by
  obtain ⟨z3, z4, z5, hl⟩ := loop_s_l12Bytes (pr := pr) (H := H) (e := none) (x := .int .i64 x) hn s.data.toList.length 0 .undef .undef rfl
  have h0 : ((0 : Nat) : Int) = 0 := rfl
  rw [h0, List.drop_zero] at hl
  rw [call_eq t_s_l12Bytes]
  unfold textOk
  cases h1 : s.data.toList.all okB <;> rw [h1] at hl <;> simp +contextual only [a_s_l12Bytes, c_s_l12Bytes, hl, go_sem, entry, joinEsc, if_pos, reduceIte, Nat.reduceAdd, Nat.reduceLeDiff, Nat.reduceLT, Nat.reduceEqDiff]

theorem loop_s_l1Stands {s : ByteArray} {c : Int} (hn : s.data.toList.length ≤ 9223372036854775806) :
    ∀ (k i : Nat) (y4 y5 : AV), k + i = s.data.toList.length → ∃ (z3 z4 z5 : AV), run T pr (.loop w_s_l1Stands_1) ⟨[.str s, .int .u8 c, .bool false, .int .i64 i, y4, y5], ⟨H, e⟩⟩ =
      some (if ((s.data.toList.drop i).any fun b => decide ((b.toNat : Int) = c)) = true then Ex.ret else Ex.exit 0, ⟨[.str s, .int .u8 c, .bool ((s.data.toList.drop i).any fun b => decide ((b.toNat : Int) = c)), z3, z4, z5], ⟨H, e⟩⟩)
  | 0, i, y4, y5, hk => by
    have hi : i = s.data.toList.length := by omega
    subst hi
    refine ⟨.int .i64 s.data.toList.length, .bool false, y5, ?_⟩
    rw [run_loop, List.drop_length, str_len]
    generalize run T pr (.loop w_s_l1Stands_1) = R
    simp +contextual only [w_s_l1Stands_1, Nat.lt_irrefl, decide_false, List.any_nil, go_sem, entry, joinEsc, if_pos, reduceIte, Nat.reduceAdd, Nat.reduceLeDiff, Nat.reduceLT, Nat.reduceEqDiff]
  | k + 1, i, y4, y5, hk => by
    have hi : i < s.data.toList.length := by omega
    have hi' : i < s.size := hi
    have hb := str_get hi
    rw [run_loop, List.drop_eq_getElem_cons hi, List.any_cons]
    obtain ⟨z3, z4, z5, ih⟩ := loop_s_l1Stands (c := c) hn k (i + 1) (.bool true) (.bool false) (by omega)
    generalize s.data.toList[i] = b at hb ⊢
    generalize run T pr (.loop w_s_l1Stands_1) = R at ih ⊢
    cases h1 : decide ((b.toNat : Int) = c) with
    | true =>
      refine ⟨.int .i64 i, .bool true, .bool true, ?_⟩
      simp +contextual only [w_s_l1Stands_1, hi', hb, h1, decide_true, go_sem, entry, joinEsc, if_pos, reduceIte, Nat.reduceAdd, Nat.reduceLeDiff, Nat.reduceLT, Nat.reduceEqDiff]
    | false =>
      refine ⟨z3, z4, z5, ?_⟩
      simp +contextual only [w_s_l1Stands_1, hi', hb, h1, wrap_succ (show i < 9223372036854775807 by omega), decide_true, go_sem, entry, joinEsc, if_pos, reduceIte, Nat.reduceAdd, Nat.reduceLeDiff, Nat.reduceLT, Nat.reduceEqDiff]
      exact ih

theorem e_s_l1Stands {s : ByteArray} (hn : s.data.toList.length ≤ 9223372036854775806) (c : Int) : call T pr f_s_l1Stands [.str s, .int .u8 c] ⟨H, e⟩ = some (.bool (hasB s c), ⟨H, e⟩) := by
  obtain ⟨z3, z4, z5, hl⟩ := loop_s_l1Stands (pr := pr) (H := H) (e := none) (c := c) hn s.data.toList.length 0 .undef .undef rfl
  have h0 : ((0 : Nat) : Int) = 0 := rfl
  rw [h0, List.drop_zero] at hl
  rw [call_eq t_s_l1Stands]
  unfold hasB
  cases h1 : (s.data.toList.any fun b => decide ((b.toNat : Int) = c)) <;> rw [h1] at hl <;> simp +contextual only [a_s_l1Stands, c_s_l1Stands, hl, go_sem, entry, joinEsc, if_pos, reduceIte, Nat.reduceAdd, Nat.reduceLeDiff, Nat.reduceLT, Nat.reduceEqDiff]

theorem index_has (l : List UInt8) (c : UInt8) : decide (0 ≤ Lib.indexByte l c) = l.any fun b => decide ((b.toNat : Int) = (c.toNat : Int)) := by
  induction l with
  | nil => rfl
  | cons b l ih =>
    have hge := Lib.indexByte_ge l c
    rw [List.any_cons, Lib.indexByte]
    by_cases h : b = c
    · subst h
      simp
    · have h1 : (b == c) = false := by simpa using h
      have h2 : ¬ (b.toNat : Int) = (c.toNat : Int) := fun e => h (UInt8.toNat_inj.mp (by omega))
      rw [h1, decide_eq_false h2, Bool.false_or, ← ih]
      by_cases h3 : Lib.indexByte l c = -1
      · simp [h3]
      · have h4 : (Lib.indexByte l c == -1) = false := by simpa using h3
        rw [h4]
        simp only [Bool.false_eq_true, if_false]
        exact decide_eq_decide.mpr (by omega)

/-- strings.Contains, at one byte -/
def HasContains (pr : Prims) : Prop := ∀ (s : ByteArray) (c : UInt8) (m : Mem), call T pr f_strings_Contains [.str s, .str ⟨#[c]⟩] m = some (.bool (decide (0 ≤ Lib.indexByte s.data.toList c)), m)

abbrev rcV (s t : ByteArray) : AV := .agg [.str s, .str t]

def recOk (s t : ByteArray) : Bool := ((decide ((1 : Int) ≤ (s.size : Int)) && decide ((s.size : Int) ≤ 160)) && decide ((t.size : Int) ≤ 250)) && (textOk s && (textOk t && !hasB s 64))

theorem e_i_IsValidRecord (hp : HasContains pr) {s t : ByteArray} (hs : s.data.toList.length ≤ 9223372036854775806) (ht : t.data.toList.length ≤ 9223372036854775806) : call T pr f_i_IsValidRecord [rcV s t] ⟨H, e⟩ = some (.bool (recOk s t), ⟨H, e⟩) := by
  have hc : ∀ m, call T pr f_strings_Contains [.str s, .str ⟨#[64]⟩] m = some (.bool (hasB s 64), m) := fun m => by
    rw [hp s 64 m, index_has]
    rfl
  rw [call_eq t_i_IsValidRecord]
  unfold recOk
  cases h1 : (decide ((1 : Int) ≤ (s.size : Int)) && decide ((s.size : Int) ≤ 160)) with
  | false => simp +contextual only [a_i_IsValidRecord, c_i_IsValidRecord, e_i_within, h1, go_sem, entry, joinEsc, if_pos, reduceIte, Nat.reduceAdd, Nat.reduceLeDiff, Nat.reduceLT, Nat.reduceEqDiff]
  | true =>
    cases h2 : decide ((t.size : Int) ≤ 250) with
    | false => simp +contextual only [a_i_IsValidRecord, c_i_IsValidRecord, e_i_within, h1, h2, go_sem, entry, joinEsc, if_pos, reduceIte, Nat.reduceAdd, Nat.reduceLeDiff, Nat.reduceLT, Nat.reduceEqDiff]
    | true =>
      cases h3 : textOk s with
      | false => simp +contextual only [a_i_IsValidRecord, c_i_IsValidRecord, e_i_within, e_i_isText hs, h1, h2, h3, go_sem, entry, joinEsc, if_pos, reduceIte, Nat.reduceAdd, Nat.reduceLeDiff, Nat.reduceLT, Nat.reduceEqDiff]
      | true =>
        cases h4 : textOk t with
        | false => simp +contextual only [a_i_IsValidRecord, c_i_IsValidRecord, e_i_within, e_i_isText hs, e_i_isText ht, h1, h2, h3, h4, go_sem, entry, joinEsc, if_pos, reduceIte, Nat.reduceAdd, Nat.reduceLeDiff, Nat.reduceLT, Nat.reduceEqDiff]
        | true => simp +contextual only [a_i_IsValidRecord, c_i_IsValidRecord, e_i_within, e_i_isText hs, e_i_isText ht, hc, h1, h2, h3, h4, go_sem, entry, joinEsc, if_pos, reduceIte, Nat.reduceAdd, Nat.reduceLeDiff, Nat.reduceLT, Nat.reduceEqDiff]

theorem str_none (s : ByteArray) : (!decide (s = ⟨#[]⟩)) = decide ((1 : Int) ≤ (s.size : Int)) := by
  have h : s = ⟨#[]⟩ ↔ s.size = 0 := by
    constructor
    · rintro rfl; rfl
    · intro h
      have h1 : s.data.size = 0 := h
      have h2 : s.data = #[] := Array.eq_empty_of_size_eq_zero h1
      cases s
      simp at h2
      rw [h2]
  rw [← decide_not]
  exact decide_eq_decide.mpr (by rw [h]; omega)

end Go.Proofs.YtemcdiajejekoaaDoor.Slim

/- People at other places. -/
namespace Go.Proofs.YtemcdiajejekoaaDoor.Slim

open Go

set_option linter.unusedSimpArgs false

set_option linter.unusedVariables false

variable {pr : Prims} {H : List Blk} {e : Option Nat}

/-- people at other places -/
def putL : List Ld → List Int → List Ld
  | [], _ => []
  | l :: ls, ss => (ss.headD 0, l.2) :: putL ls ss.tail

theorem putL_length : ∀ (ls : List Ld) (ss : List Int), (putL ls ss).length = ls.length
  | [], _ => rfl
  | l :: ls, ss => by simp [putL, putL_length ls]

theorem drop_head (ss : List Int) (i : Nat) (h : i < ss.length) : ss[i]? = some ((ss.drop i).headD 0) ∧ (ss.drop i).tail = ss.drop (i + 1) := by
  rw [List.drop_eq_getElem_cons h]
  exact ⟨List.getElem?_eq_getElem h, rfl⟩

theorem cellsAt_set_ne {L : List Blk} {b u : Nat} {x : Blk} {cs : List AV} (h : cellsAt L u = some cs) (hne : b ≠ u) : cellsAt (L.set b x) u = some cs := by
  unfold cellsAt at *
  rw [List.getElem?_set_ne hne]
  exact h

theorem cellsAt_get {L : List Blk} {j : Nat} {cs : List AV} {w : Bool} (h : L[j]? = some (.cells cs w)) : cellsAt L j = some cs := by
  unfold cellsAt
  rw [h]

abbrev spV (s0 s1 s2 : Int) : AV := .agg [.int .i64 s0, .int .i64 s1, .int .i64 s2]

/-- the digits of a number, the last one first -/
def digs (m : Nat) : Nat → Nat → List Nat
  | 0, _ => []
  | n + 1, k => k % m :: digs m n (k / m)

theorem digs_length (m : Nat) : ∀ n k, (digs m n k).length = n
  | 0, _ => rfl
  | n + 1, k => by simp [digs, digs_length m n]

def ints (l : List Nat) : List Int := l.map fun (i : Nat) => (i : Int)

theorem tmodN (k m : Nat) : Int.tmod (k : Int) (m : Int) = ((k % m : Nat) : Int) := rfl

theorem tdivN (k m : Nat) : Int.tdiv (k : Int) (m : Int) = ((k / m : Nat) : Int) := rfl

theorem putL_app : ∀ (P : List Ld) (Q : List Ld) (ss ts : List Int), P.length = ss.length → putL (P ++ Q) (ss ++ ts) = putL P ss ++ putL Q ts
  | [], Q, [], ts, _ => rfl
  | p :: P, Q, s :: ss, ts, h => by simp [putL, putL_app P Q ss ts (by simpa using h)]

end Go.Proofs.YtemcdiajejekoaaDoor.Slim

/- The safe moves of a party. -/
namespace Go.Proofs.YtemcdiajejekoaaDoor.Slim

open Go

set_option linter.unusedSimpArgs false

set_option linter.unusedVariables false

variable {pr : Prims} {H : List Blk} {e : Option Nat}

/-- one person at another place -/
def movd : List Ld → Nat → Int → List Ld
  | [], _, _ => []
  | l :: ls, 0, p => (p, l.2) :: ls
  | l :: ls, i + 1, p => l :: movd ls i p

theorem movd_length : ∀ (ls : List Ld) (i : Nat) (p : Int), (movd ls i p).length = ls.length
  | [], _, _ => rfl
  | l :: ls, 0, p => rfl
  | l :: ls, i + 1, p => by simp [movd, movd_length ls i p]

theorem movd_split {ls : List Ld} {i : Nat} (p : Int) (hi : i < ls.length) : ∃ P l R, ls = P ++ l :: R ∧ P.length = i ∧ ls[i]? = some l ∧ movd ls i p = P ++ (p, l.2) :: R := by
  induction ls generalizing i with
  | nil => simp at hi
  | cons l ls ih =>
    cases i with
    | zero => exact ⟨[], l, ls, rfl, rfl, rfl, rfl⟩
    | succ i =>
      obtain ⟨P, l', R, h1, h2, h3, h4⟩ := ih (by simpa using hi)
      exact ⟨l :: P, l', R, by rw [h1]; rfl, by simp [h2], by simpa using h3, by rw [movd, h4]; rfl⟩

theorem putL_set : ∀ (ls : List Ld) (ss : List Int) (i : Nat) (p : Int), i < ls.length → ls.length ≤ ss.length → putL ls (ss.set i p) = movd (putL ls ss) i p
  | [], ss, i, p, hi, hl => by simp at hi
  | l :: ls, [], i, p, hi, hl => by simp at hl
  | l :: ls, s :: ss, 0, p, hi, hl => rfl
  | l :: ls, s :: ss, i + 1, p, hi, hl => by
    have := putL_set ls ss i p (by simpa using hi) (by simpa using hl)
    simp [putL, movd, this]

theorem setRange_movd {ls : List Ld} {i : Nat} (p : Int) (hi : i < ls.length) : setRange (encL ls) (i * 2) [.int .i64 p] = encL (movd ls i p) := by
  obtain ⟨P, l, R, h1, h2, _, h4⟩ := movd_split p hi
  rw [h4, h1, ← h2]
  exact setRange_midL0 P R l p

/-- is it a place on the plank, and do they rest there? -/
def okMv (x a b : Int) (ls : List Ld) (i : Nat) (p : Int) : Bool := (decide (0 ≤ p) && decide (p ≤ x)) && decide (sideW (movd ls i p) a b = 0)

def plOf (ls : List Ld) (i : Nat) : Int := (ls[i]?.getD (0, 0)).1

/-- is a move safe? -/
def safeMv (x a b : Int) (ls : List Ld) (s i p : Int) : Bool := ((decide (0 ≤ i) && decide (i ≤ (ls.length : Int) - 1)) && (decide (0 ≤ p) && decide (p ≤ x))) && ((decide (wr (p - plOf ls i.toNat) = s) || decide (wr (p - plOf ls i.toNat) = wr (0 - s))) && decide (sideW (movd ls i.toNat p) a b = 0))

theorem at02 : ((0 : Int) ≤ 0 ∧ (0 : Int) < ((2 : Nat) : Int)) = True := by simp

theorem at12 : ((0 : Int) ≤ 1 ∧ (1 : Int) < ((2 : Nat) : Int)) = True := by simp

theorem toNat0 : Int.toNat 0 = 0 := rfl

theorem toNat1 : Int.toNat 1 = 1 := rfl

theorem append_ld2 {G : List Blk} {B : Blk} {j : Nat} {o : List Ld} {cap : Option Nat} (hG : G[j]? = some (.cells (encL o) true)) (hcap : cap = some 0 → o = []) (hmb : (o.length + 1) * 16 ≤ maxBytes) (a b : Int) :
    appendV (H ++ (G ++ [B, .cells [.int .i64 a, .int .i64 b] true])) e false 2 16 (slL (H.length + j) o.length cap) (.slice (some (H.length + (G.length + 1), 0)) 2 1 (some 1)) =
      some (slL (H.length + (G.length + 2)) (o.length + 1) none, ⟨H ++ (killIf cap j (G ++ [B, .cells [.int .i64 a, .int .i64 b] true]) ++ [.cells (encL o ++ [.int .i64 a, .int .i64 b]) true]), e⟩) := by
  have hj : j < G.length := (List.getElem?_eq_some_iff.mp hG).1
  have h := append_ld (H := H) (e := e) (G := G ++ [B]) (j := j) (o := o) (cap := cap) (by rw [List.getElem?_append_left hj]; exact hG) hcap hmb a b
  simpa [Nat.add_assoc] using h

/-- the safe ones of some moves of one person -/
def selM (x a b : Int) (ls : List Ld) (i : Nat) (ps : List Int) : List Ld := (ps.filter (okMv x a b ls i)).map fun p => ((i : Int), p)

theorem selM_cons (x a b : Int) (ls : List Ld) (i : Nat) (p : Int) (ps : List Int) : selM x a b ls i (p :: ps) = if okMv x a b ls i p = true then ((i : Int), p) :: selM x a b ls i ps else selM x a b ls i ps := by
  unfold selM
  cases h : okMv x a b ls i p <;> simp [h]

theorem set3 {s0 s1 s2 p : Int} {i : Nat} (hi : i < 3) : ∃ t0 t1 t2, [s0, s1, s2].set i p = [t0, t1, t2] ∧ setRange [.int .i64 s0, .int .i64 s1, .int .i64 s2] i [.int .i64 p] = [.int .i64 t0, .int .i64 t1, .int .i64 t2] := by
  match i, hi with
  | 0, _ => exact ⟨p, s1, s2, rfl, rfl⟩
  | 1, _ => exact ⟨s0, p, s2, rfl, rfl⟩
  | 2, _ => exact ⟨s0, s1, p, rfl, rfl⟩

/-- all safe moves -/
def mvsFrom (x a b s : Int) (ls : List Ld) : Nat → Nat → List Ld
  | 0, _ => []
  | k + 1, i => selM x a b ls i [wr (plOf ls i - s), wr (plOf ls i + s)] ++ mvsFrom x a b s ls k (i + 1)

theorem selM_le (x a b : Int) (ls : List Ld) (i : Nat) (ps : List Int) : (selM x a b ls i ps).length ≤ ps.length := by
  unfold selM
  rw [List.length_map]
  exact List.length_filter_le _ _

theorem plOf_putL : ∀ (ls : List Ld) (ss : List Int) (i : Nat) (p : Int), i < ls.length → ss[i]? = some p → plOf (putL ls ss) i = p
  | [], ss, i, p, hi, hp => by simp at hi
  | l :: ls, [], i, p, hi, hp => by simp at hp
  | l :: ls, s :: ss, 0, p, hi, hp => by simp at hp; subst hp; rfl
  | l :: ls, s :: ss, i + 1, p, hi, hp => plOf_putL ls ss i p (by simpa using hi) (by simpa using hp)

/-- how a party's places are bounded -/
def plB (ls : List Ld) : Prop := ∀ i, i < ls.length → 0 ≤ plOf ls i ∧ plOf ls i ≤ 60

theorem safe_ok {x a b s : Int} {ls : List Ld} {i : Nat} (hi : i < ls.length) (hpl : plB ls) (hs : 1 ≤ s ∧ s ≤ 4) {p : Int} (hp : p = wr (plOf ls i - s) ∨ p = wr (plOf ls i + s)) : safeMv x a b ls s i p = okMv x a b ls i p := by
  obtain ⟨h1, h2⟩ := hpl i hi
  have w1 : wr (plOf ls i - s) = plOf ls i - s := wrap64 (by omega) (by omega)
  have w2 : wr (plOf ls i + s) = plOf ls i + s := wrap64 (by omega) (by omega)
  have w3 : wr (0 - s) = - s := by show IntKind.i64.wrap (0 - s) = - s; rw [wrap64 (by omega) (by omega)]; omega
  have w4 : wr (p - plOf ls i) = p - plOf ls i := wrap64 (by omega) (by omega)
  have hr : (decide (0 ≤ (i : Int)) && decide ((i : Int) ≤ (ls.length : Int) - 1)) = true := by simp; omega
  unfold safeMv okMv
  rw [hr, Int.toNat_natCast, w3, w4, Bool.true_and]
  have : (decide (p - plOf ls i = s) || decide (p - plOf ls i = -s)) = true := by
    rw [w1, w2] at hp
    simp
    omega
  rw [this, Bool.true_and]

end Go.Proofs.YtemcdiajejekoaaDoor.Slim

/- Nothing is taken by contract here. -/
namespace Go.Proofs.YtemcdiajejekoaaDoor.Slim
end Go.Proofs.YtemcdiajejekoaaDoor.Slim

/- Tasks of a stand: what they make. -/
namespace Go.Proofs.YtemcdiajejekoaaDoor.Slim

open Go

set_option linter.unusedSimpArgs false

set_option linter.unusedVariables false

variable {pr : Prims} {H : List Blk} {e : Option Nat}

def sliceHiV (sz : Nat) (v h : AV) : Option AV := match v with
  | .slice p sz' n cap => (match natOf h with
    | some h => sliceVal sz p sz' n cap 0 h none
    | none => none)
  | _ => none

def sliceLoV (sz : Nat) (v l : AV) : Option AV := match v with
  | .slice p sz' n cap => (match natOf l with
    | some l => sliceVal sz p sz' n cap l n none
    | none => none)
  | _ => none

section

variable {C : FuncId → List AV → Mem → Option (AV × Mem)} {g : X → AV} {m : Mem}

theorem aop_sliceHi (sz : Nat) (x h : X) : aop C g m (.sliceSl sz x none (some h) none) = valOf m (sliceHiV sz (g x) (g h)) := by
  rw [aop_of_light rfl]
  simp only [light, sliceHiV, bound, optNat]
  generalize g x = v
  generalize natOf (g h) = o
  cases v <;> cases o <;> simp

theorem aop_sliceLo (sz : Nat) (x l : X) : aop C g m (.sliceSl sz x (some l) none none) = valOf m (sliceLoV sz (g x) (g l)) := by
  rw [aop_of_light rfl]
  simp only [light, sliceLoV, bound, optNat]
  generalize g x = v
  generalize natOf (g l) = o
  cases v <;> cases o <;> simp

end

theorem sliceHiV_at (sz b o n h : Nat) (cap : Option Nat) (hh : h ≤ n) : sliceHiV sz (.slice (some (b, o)) sz n cap) (.int .i64 h) = some (.slice (some (b, o)) sz h cap) := by
  unfold sliceHiV natOf sliceVal
  simp [hh]

theorem sliceLoV_at (sz b o n l : Nat) (hl : l ≤ n) : sliceLoV sz (.slice (some (b, o)) sz n none) (.int .i64 l) = some (.slice (some (b, o + l * sz)) sz (n - l) none) := by
  unfold sliceLoV natOf sliceVal
  simp [hl]

theorem encL_take : ∀ (ls : List Ld) (i : Nat), (encL ls).take (i * 2) = encL (ls.take i)
  | ls, 0 => by simp [encL]
  | [], i + 1 => by simp [encL]
  | l :: ls, i + 1 => by
    rw [show (i + 1) * 2 = i * 2 + 1 + 1 by omega]
    simp [encL, encL_take ls i]

theorem encL_drop : ∀ (ls : List Ld) (i : Nat), (encL ls).drop (i * 2) = encL (ls.drop i)
  | ls, 0 => by simp
  | [], i + 1 => by simp [encL]
  | l :: ls, i + 1 => by
    rw [show (i + 1) * 2 = i * 2 + 1 + 1 by omega]
    simp [encL, encL_drop ls i]

theorem encS_take : ∀ (ls : List Sg) (i : Nat), (encS ls).take (i * 3) = encS (ls.take i)
  | ls, 0 => by simp [encS]
  | [], i + 1 => by simp [encS]
  | l :: ls, i + 1 => by
    rw [show (i + 1) * 3 = i * 3 + 1 + 1 + 1 by omega]
    simp [encS, encS_take ls i]

theorem encS_drop : ∀ (ls : List Sg) (i : Nat), (encS ls).drop (i * 3) = encS (ls.drop i)
  | ls, 0 => by simp
  | [], i + 1 => by simp [encS]
  | l :: ls, i + 1 => by
    rw [show (i + 1) * 3 = i * 3 + 1 + 1 + 1 by omega]
    simp [encS, encS_drop ls i]

theorem encS_append : ∀ a b : List Sg, encS (a ++ b) = encS a ++ encS b
  | [], b => rfl
  | l :: a, b => by simp [encS, encS_append a b]

theorem encL_erase (ls : List Ld) (i : Nat) : (encL ls).take (i * 2) ++ (encL ls).drop ((i + 1) * 2) = encL (ls.eraseIdx i) := by
  rw [encL_take, encL_drop, List.eraseIdx_eq_take_drop_succ, encL_append]

theorem encS_erase (ls : List Sg) (i : Nat) : (encS ls).take (i * 3) ++ (encS ls).drop ((i + 1) * 3) = encS (ls.eraseIdx i) := by
  rw [encS_take, encS_drop, List.eraseIdx_eq_take_drop_succ, encS_append]

/-- an element taken out of a slice that has its block alone -/
theorem append_del {L : List Blk} {b n sz bytes i : Nat} {cs : List AV} (hb : L[b]? = some (.cells cs true)) (hcs : cs.length = n * sz) (hi : i < n) (hm : n * bytes ≤ maxBytes) :
    appendV L e false sz bytes (.slice (some (b, 0)) sz i none) (.slice (some (b, (i + 1) * sz)) sz (n - (i + 1)) none) = some (.slice (some (L.length, 0)) sz (n - 1) none, ⟨L.set b .dead ++ [.cells (cs.take (i * sz) ++ cs.drop ((i + 1) * sz)) true], e⟩) := by
  have e1 : (i + 1) * sz + (n - (i + 1)) * sz = n * sz := by rw [← Nat.add_mul]; congr 1; omega
  have e2 : (i + 1) * sz = i * sz + sz := by rw [Nat.add_mul, Nat.one_mul]
  have hs : srcCells false L (.slice (some (b, (i + 1) * sz)) sz (n - (i + 1)) none) = some (n - (i + 1), cs.drop ((i + 1) * sz)) := by
    unfold srcCells
    have hc : cellsAt L b = some cs := by unfold cellsAt; rw [hb]
    simp only [Bool.false_eq_true, if_false, hc]
    rw [if_pos (by omega), List.take_of_length_le (by rw [List.length_drop]; omega)]
  have e3 : i + (n - (i + 1)) = n - 1 := by omega
  unfold appendV
  simp only [hb, hs]
  rw [if_pos ⟨trivial, by rw [e3]; exact Nat.le_trans (Nat.mul_le_mul_right _ (by omega)) hm, by rw [List.length_drop]; omega, by omega⟩]
  rw [if_neg (by simp), if_pos trivial, e3, List.drop_zero]

/-- an element more on a slice that has its block alone -/
theorem append_gen {L : List Blk} {b q n sz bytes : Nat} {cs new : List AV} {c : Option Nat} (hb : L[b]? = some (.cells cs true)) (hq : cellsAt L q = some new) (hcs : cs.length = n * sz) (hnew : new.length = sz) (hm : (n + 1) * bytes ≤ maxBytes) :
    appendV L e false sz bytes (.slice (some (b, 0)) sz n none) (.slice (some (q, 0)) sz 1 c) = some (.slice (some (L.length, 0)) sz (n + 1) none, ⟨L.set b .dead ++ [.cells (cs ++ new) true], e⟩) := by
  have hs := srcCells_new L 1 sz c new q hq (by omega)
  unfold appendV
  simp only [hb, hs]
  rw [if_pos ⟨trivial, hm, by omega, by omega⟩, if_neg (by simp), if_pos trivial, List.drop_zero, ← hcs, List.take_length]

abbrev tkV (k x y z : Int) : AV := .agg [.int .i64 k, .int .i64 x, .int .i64 y, .int .i64 z]

/-- may a task be made? -/
def mayT (ls : List Ld) (ss : List Sg) (k x y z : Int) : Bool :=
  if k = 1 ∨ k = 4 then decide (z = 0)
  else if k = 2 then ((decide (0 ≤ x) && decide (x ≤ (ls.length : Int) - 1)) && decide (y = 0)) && decide (z = 0)
  else if k = 3 then (decide (0 ≤ x) && decide (x ≤ (ls.length : Int) - 1)) && decide (z = 0)
  else if k = 6 then ((decide (0 ≤ x) && decide (x ≤ (ss.length : Int) - 1)) && decide (y = 0)) && decide (z = 0)
  else decide (k = 5)

/-- what a task makes of a row and a chain -/
def rowT (ls : List Ld) (k x y : Int) : List Ld :=
  if k = 1 then ls ++ [(x, y)] else if k = 2 then ls.eraseIdx x.toNat else if k = 3 then movd ls x.toNat y else ls

def chainT (ss : List Sg) (k x y z : Int) : List Sg :=
  if k = 5 then ss ++ [(x, y, z)] else if k = 6 then ss.eraseIdx x.toNat else ss

def baseA (a k x : Int) : Int := if k = 4 then x else a

end Go.Proofs.YtemcdiajejekoaaDoor.Slim

/- Tasks of a stand: DoTask. -/
namespace Go.Proofs.YtemcdiajejekoaaDoor.Slim

open Go

set_option linter.unusedSimpArgs false

set_option linter.unusedVariables false

variable {pr : Prims} {H : List Blk} {e : Option Nat}

def stOk (ls : List Ld) (ss : List Sg) (a b t c : Int) : Bool := rowOk ls && (chainOk ss && restOk a b t c)

theorem isStand_at {ls : List Ld} {ss : List Sg} {n m : Nat} (hn : ls.length = n) (hm : ss.length = m) (hm2 : m ≤ 1048576) (a b t c : Int) {L : List Blk} {q1 q2 : Nat} {c1 c2 : Option Nat} (h1 : cellsAt L q1 = some (encL ls)) (h2 : cellsAt L q2 = some (encS ss)) :
    call T pr f_i_IsStand [stV (slL q1 n c1) a b (slS q2 m c2) t c] ⟨L, e⟩ = some (.bool (stOk ls ss a b t c), ⟨L, e⟩) := by
  subst hn hm
  exact e_i_IsStand (fun G => e_i_IsRow (cells_mono h1 G)) (fun G => e_i_isChain (cells_mono h2 G) (by omega)) a b t c

theorem good_at {ls : List Ld} {ss : List Sg} {n m : Nat} (hn : ls.length = n) (hm : ss.length = m) (hm2 : m ≤ 1048576) (a b t c : Int) {L : List Blk} {q1 q2 : Nat} {c1 c2 : Option Nat} (h1 : cellsAt L q1 = some (encL ls)) (h2 : cellsAt L q2 = some (encS ss)) :
    call T pr f_s_l12Good [stV (slL q1 n c1) a b (slS q2 m c2) t c] ⟨L, e⟩ = some (.bool (stOk ls ss a b t c), ⟨L, e⟩) := by
  subst hn hm
  exact e_s_l12Good (fun G => e_s_l2Row (cells_mono h1 G)) (fun G => e_s_l7Stages (cells_mono h2 G) (by omega)) a b t c

abbrev noStand : AV := stV (.slice none 0 0 none) 0 0 (.slice none 0 0 none) 0 0

/-- can a task of a valid stand be made? -/
def doOk (ls : List Ld) (ss : List Sg) (a b t c k x y z : Int) : Bool := mayT ls ss k x y z && stOk (rowT ls k x y) (chainT ss k x y z) (baseA a k x) (baseA b k y) t (wr (c + 1))

/-- how often the row did not stand behind a task -/
def tipsT (ls : List Ld) (a b t k x y : Int) : Int := if decide (sideW (rowT ls k x y) (baseA a k x) (baseA b k y) = 0) = true then t else wr (t + 1)

/-- what the call of a task returns -/
def doRes (H : List Blk) (e : Option Nat) (ok : Bool) (ls : List Ld) (ss : List Sg) (a b t c : Int) : Option (AV × Mem) :=
  if ok = true then some (.tup [stV (slL H.length ls.length none) a b (slS (H.length + 1) ss.length none) t c, .bool true], ⟨H ++ [.cells (encL ls) true, .cells (encS ss) true], e⟩)
  else some (.tup [noStand, .bool false], ⟨H, e⟩)

theorem rowT_length (ls : List Ld) (k x y : Int) : (rowT ls k x y).length ≤ ls.length + 1 := by
  unfold rowT
  split
  · simp
  · split
    · have := List.length_eraseIdx_le ls x.toNat; omega
    · split
      · rw [movd_length]; omega
      · omega

theorem chainT_length (ss : List Sg) (k x y z : Int) : (chainT ss k x y z).length ≤ ss.length + 1 := by
  unfold chainT
  split
  · simp
  · split
    · have := List.length_eraseIdx_le ss x.toNat; omega
    · omega

end Go.Proofs.YtemcdiajejekoaaDoor.Slim

/- The slim machine: walking by what holds at the end; loops by invariants. -/
namespace Go.Proofs.YtemcdiajejekoaaDoor.Slim
open Go
set_option linter.unusedVariables false
set_option linter.unusedSimpArgs false

section
variable {T : Table} {pr : Prims} {H : List Blk} {e : Option Nat}

/-- code comes to an end, of which this holds -/
def Wp (r : Option (Ex × St)) (Q : Ex → St → Prop) : Prop := ∃ ex st, r = some (ex, st) ∧ Q ex st
/-- a call (or an operation) comes to an end, of which this holds -/
def Wc (r : Option (AV × Mem)) (Q : AV → Mem → Prop) : Prop := ∃ v m, r = some (v, m) ∧ Q v m

theorem Wp.mono {r : Option (Ex × St)} {P Q : Ex → St → Prop} (h : Wp r P) (k : ∀ ex st, P ex st → Q ex st) : Wp r Q := by
  obtain ⟨ex, st, h1, h2⟩ := h
  exact ⟨ex, st, h1, k _ _ h2⟩
theorem Wc.mono {r : Option (AV × Mem)} {P Q : AV → Mem → Prop} (h : Wc r P) (k : ∀ v m, P v m → Q v m) : Wc r Q := by
  obtain ⟨v, m, h1, h2⟩ := h
  exact ⟨v, m, h1, k _ _ h2⟩
theorem Wc.eq {r : Option (AV × Mem)} {v : AV} {m : Mem} (h : Wc r fun v' m' => v' = v ∧ m' = m) : r = some (v, m) := by
  obtain ⟨_, _, h1, rfl, rfl⟩ := h
  exact h1
theorem Wc.of_eq {r : Option (AV × Mem)} {v : AV} {m : Mem} {Q : AV → Mem → Prop} (h : r = some (v, m)) (k : Q v m) : Wc r Q := ⟨v, m, h, k⟩

@[congr] theorem Wp_congr {r r' : Option (Ex × St)} {Q : Ex → St → Prop} (h : r = r') : Wp r Q = Wp r' Q := by rw [h]
@[congr] theorem Wc_congr {r r' : Option (AV × Mem)} {Q : AV → Mem → Prop} (h : r = r') : Wc r Q = Wc r' Q := by rw [h]

theorem Wp_some (ex : Ex) (st : St) (Q : Ex → St → Prop) : Wp (some (ex, st)) Q = Q ex st := by
  apply propext
  constructor
  · rintro ⟨_, _, h1, h2⟩; cases h1; exact h2
  · exact fun h => ⟨_, _, rfl, h⟩
theorem Wp_none (Q : Ex → St → Prop) : Wp none Q = False := by
  apply propext
  constructor
  · rintro ⟨_, _, h1, _⟩; cases h1
  · exact False.elim
theorem Wp_ite (c : Prop) [Decidable c] (a b : Option (Ex × St)) (Q : Ex → St → Prop) : Wp (if c then a else b) Q = ((c → Wp a Q) ∧ (¬ c → Wp b Q)) := by
  by_cases h : c <;> simp [h]
theorem Wc_some (v : AV) (m : Mem) (Q : AV → Mem → Prop) : Wc (some (v, m)) Q = Q v m := by
  apply propext
  constructor
  · rintro ⟨_, _, h1, h2⟩; cases h1; exact h2
  · exact fun h => ⟨_, _, rfl, h⟩
theorem Wc_none (Q : AV → Mem → Prop) : Wc none Q = False := by
  apply propext
  constructor
  · rintro ⟨_, _, h1, _⟩; cases h1
  · exact False.elim
theorem Wc_ite (c : Prop) [Decidable c] (a b : Option (AV × Mem)) (Q : AV → Mem → Prop) : Wc (if c then a else b) Q = ((c → Wc a Q) ∧ (¬ c → Wc b Q)) := by
  by_cases h : c <;> simp [h]

def seqQ (f : St → Option (Ex × St)) (Q : Ex → St → Prop) : Ex → St → Prop
  | .normal, st => Wp (f st) Q
  | ex, st => Q ex st
theorem seqQ_normal (f : St → Option (Ex × St)) (Q : Ex → St → Prop) (st : St) : seqQ f Q .normal st = Wp (f st) Q := Eq.trans rfl rfl
theorem seqQ_exit (f : St → Option (Ex × St)) (Q : Ex → St → Prop) (k : Nat) (st : St) : seqQ f Q (.exit k) st = Q (.exit k) st := Eq.trans rfl rfl
theorem seqQ_ret (f : St → Option (Ex × St)) (Q : Ex → St → Prop) (st : St) : seqQ f Q .ret st = Q .ret st := Eq.trans rfl rfl
theorem Wp_thenRun (r : Option (Ex × St)) (f : St → Option (Ex × St)) (Q : Ex → St → Prop) : Wp (thenRun r f) Q = Wp r (seqQ f Q) := by
  cases r with
  | none => simp only [thenRun_none, Wp_none]
  | some p =>
    obtain ⟨ex, st⟩ := p
    cases ex <;> simp only [thenRun_normal, thenRun_ret, thenRun_exit, Wp_some, seqQ]

def blkQ (id : Nat) (Q : Ex → St → Prop) : Ex → St → Prop
  | .exit k, st => if k = id then Q .normal st else Q (.exit k) st
  | ex, st => Q ex st
theorem blkQ_normal (id : Nat) (Q : Ex → St → Prop) (st : St) : blkQ id Q .normal st = Q .normal st := Eq.trans rfl rfl
theorem blkQ_ret (id : Nat) (Q : Ex → St → Prop) (st : St) : blkQ id Q .ret st = Q .ret st := Eq.trans rfl rfl
theorem blkQ_same (id : Nat) (Q : Ex → St → Prop) (st : St) : blkQ id Q (.exit id) st = Q .normal st := by simp [blkQ]
theorem blkQ_exit (id k : Nat) (Q : Ex → St → Prop) (st : St) : blkQ id Q (.exit k) st = if k = id then Q .normal st else Q (.exit k) st := Eq.trans rfl rfl
theorem Wp_inBlock (id : Nat) (r : Option (Ex × St)) (Q : Ex → St → Prop) : Wp (inBlock id r) Q = Wp r (blkQ id Q) := by
  cases r with
  | none => simp only [inBlock_none, Wp_none]
  | some p =>
    obtain ⟨ex, st⟩ := p
    cases ex with
    | normal => simp only [inBlock_normal, Wp_some, blkQ]
    | ret => simp only [inBlock_ret, Wp_some, blkQ]
    | exit k => by_cases h : k = id <;> simp only [inBlock_exit, h, if_true, if_false, Wp_some, blkQ]

/-- behind a region's operation -/
def opQ (tm : List AV) (outs : List (Nat × Nat)) (f : AV → Mem → Option (List AV × Mem)) (Q : Ex → St → Prop) : AV → Mem → Prop := fun v m => Wp (outRun tm outs (f v m)) Q
theorem opQ_at (tm : List AV) (outs : List (Nat × Nat)) (f : AV → Mem → Option (List AV × Mem)) (Q : Ex → St → Prop) (v : AV) (m : Mem) : opQ tm outs f Q v m = Wp (outRun tm outs (f v m)) Q := Eq.trans rfl rfl
theorem Wp_opThen (tm : List AV) (outs : List (Nat × Nat)) (r : Option (AV × Mem)) (f : AV → Mem → Option (List AV × Mem)) (Q : Ex → St → Prop) :
    Wp (outRun tm outs (opThen r f)) Q = Wc r (opQ tm outs f Q) := by
  cases r with
  | none => simp only [opThen_none, outRun_none, Wp_none, Wc_none]
  | some p =>
    obtain ⟨v, m⟩ := p
    simp only [opThen_some, Wc_some, opQ]

/-- behind a guarded operation -/
theorem Wp_guardP (tm : List AV) (outs : List (Nat × Nat)) (p : Prop) [Decidable p] (r : Option (AV × Mem)) (m : Mem) (f : AV → Mem → Option (List AV × Mem)) (Q : Ex → St → Prop) :
    Wp (outRun tm outs (guardP p r m f)) Q = ((p → Wc r (opQ tm outs f Q)) ∧ (¬ p → Wp (outRun tm outs (f (.tup []) m)) Q)) := by
  by_cases h : p
  · simp only [h, guardP_true, Wp_opThen, true_imp_iff, not_true_eq_false, false_imp_iff, and_true]
  · simp only [h, guardP_false, not_false_eq_true, true_imp_iff, false_imp_iff, true_and]

/-- behind a call's code -/
def retQ (F : AFun) (m : Mem) (Q : AV → Mem → Prop) : Ex → St → Prop
  | .exit _, _ => False
  | _, st => Wc (finRun F m st) Q
theorem retQ_normal (F : AFun) (m : Mem) (Q : AV → Mem → Prop) (st : St) : retQ F m Q .normal st = Wc (finRun F m st) Q := Eq.trans rfl rfl
theorem retQ_ret (F : AFun) (m : Mem) (Q : AV → Mem → Prop) (st : St) : retQ F m Q .ret st = Wc (finRun F m st) Q := Eq.trans rfl rfl
theorem Wc_endCall (F : AFun) (m : Mem) (r : Option (Ex × St)) (Q : AV → Mem → Prop) : Wc (endCall F m r) Q = Wp r (retQ F m Q) := by
  cases r with
  | none => simp only [endCall_none, Wc_none, Wp_none]
  | some p =>
    obtain ⟨ex, st⟩ := p
    cases ex <;> simp only [endCall_normal, endCall_ret, endCall_exit, Wc_none, Wp_some, retQ]

theorem call_wc {f : FuncId} {F : AFun} (h : T f = some F) (args : List AV) (m : Mem) (Q : AV → Mem → Prop) : Wc (call T pr f args m) Q = Wp (run T pr F.code ⟨entry F args, { m with esc := none }⟩) (retQ F m Q) := by
  rw [call_eq h, Wc_endCall]

/-! loops -/
/-- what a loop's round must bring -/
abbrev Holds (I : St → Prop) (st : St) : Prop := I st
@[congr] theorem Holds_congr {I : St → Prop} {st st' : St} (h : st = st') : Holds I st = Holds I st' := by rw [h]
def loopQ (I : St → Prop) (Q : Ex → St → Prop) : Ex → St → Prop
  | .normal, st => Holds I st
  | ex, st => Q ex st
theorem loopQ_normal (I : St → Prop) (Q : Ex → St → Prop) (st : St) : loopQ I Q .normal st = Holds I st := Eq.trans rfl rfl
theorem loopQ_exit (I : St → Prop) (Q : Ex → St → Prop) (k : Nat) (st : St) : loopQ I Q (.exit k) st = Q (.exit k) st := Eq.trans rfl rfl
theorem loopQ_ret (I : St → Prop) (Q : Ex → St → Prop) (st : St) : loopQ I Q .ret st = Q .ret st := Eq.trans rfl rfl

theorem Wp_loop {b : ACode} {Q : Ex → St → Prop} (I : Nat → St → Prop) (hs : ∀ k st, I k st → Wp (run T pr b st) (loopQ (fun st' => ∃ j, j < k ∧ I j st') Q)) :
    ∀ (n : Nat) (st : St), I n st → Wp (run T pr (.loop b) st) Q := by
  intro n
  induction n using Nat.strongRecOn with
  | _ n ih =>
    intro st h
    rw [run_loop, Wp_thenRun]
    refine (hs n st h).mono fun ex st' h' => ?_
    cases ex with
    | normal =>
      obtain ⟨j, hj, hI⟩ := h'
      exact ih j hj st' hI
    | exit k => exact h'
    | ret => exact h'

/-! the end of a call that keeps what its result names -/
theorem roots_slice_new (sz n o k : Nat) (c : Option Nat) : AV.roots H.length (.slice (some (H.length + k, o)) sz n c) = [H.length + k] := by simp [AV.roots]
theorem roots_slice_new0 (sz n o : Nat) (c : Option Nat) : AV.roots H.length (.slice (some (H.length, o)) sz n c) = [H.length] := by simp [AV.roots]
theorem roots_slice_none (lim sz n : Nat) (c : Option Nat) : AV.roots lim (.slice none sz n c) = [] := by simp [AV.roots]
theorem roots_slice_old {lim b : Nat} (sz n o : Nat) (c : Option Nat) (h : b < lim) : AV.roots lim (.slice (some (b, o)) sz n c) = [] := by simp [AV.roots, h]
theorem roots_ptr_new (o k : Nat) : AV.roots H.length (.ptr (some (H.length + k, o))) = [H.length + k] := by simp [AV.roots]
theorem roots_ptr_new0 (o : Nat) : AV.roots H.length (.ptr (some (H.length, o))) = [H.length] := by simp [AV.roots]
theorem roots_int (lim : Nat) (k : IntKind) (x : Int) : AV.roots lim (.int k x) = [] := by simp [AV.roots]
theorem roots_bool (lim : Nat) (x : Bool) : AV.roots lim (.bool x) = [] := by simp [AV.roots]
theorem roots_str (lim : Nat) (x : ByteArray) : AV.roots lim (.str x) = [] := by simp [AV.roots]
theorem roots_agg (lim : Nat) (cs : List AV) : AV.roots lim (.agg cs) = AV.roots.go lim cs := by simp [AV.roots]
theorem roots_tup (lim : Nat) (cs : List AV) : AV.roots lim (.tup cs) = AV.roots.go lim cs := by simp [AV.roots]
theorem roots_cons (lim : Nat) (c : AV) (cs : List AV) : AV.roots.go lim (c :: cs) = AV.roots lim c ++ AV.roots.go lim cs := by simp [AV.roots.go]
theorem roots_nil (lim : Nat) : AV.roots.go lim [] = [] := by simp [AV.roots.go]
theorem rename_slice (f : Nat → Nat) (b o sz n : Nat) (c : Option Nat) : AV.rename f (.slice (some (b, o)) sz n c) = .slice (some (f b, o)) sz n c := by simp [AV.rename]
theorem rename_slice_none (f : Nat → Nat) (sz n : Nat) (c : Option Nat) : AV.rename f (.slice none sz n c) = .slice none sz n c := by simp [AV.rename]
theorem rename_ptr (f : Nat → Nat) (b o : Nat) : AV.rename f (.ptr (some (b, o))) = .ptr (some (f b, o)) := by simp [AV.rename]
theorem rename_int (f : Nat → Nat) (k : IntKind) (x : Int) : AV.rename f (.int k x) = .int k x := by simp [AV.rename]
theorem rename_bool (f : Nat → Nat) (x : Bool) : AV.rename f (.bool x) = .bool x := by simp [AV.rename]
theorem rename_str (f : Nat → Nat) (x : ByteArray) : AV.rename f (.str x) = .str x := by simp [AV.rename]
theorem rename_agg (f : Nat → Nat) (cs : List AV) : AV.rename f (.agg cs) = .agg (AV.rename.go f cs) := by simp [AV.rename]
theorem rename_tup (f : Nat → Nat) (cs : List AV) : AV.rename f (.tup cs) = .tup (AV.rename.go f cs) := by simp [AV.rename]
theorem rename_cons (f : Nat → Nat) (c : AV) (cs : List AV) : AV.rename.go f (c :: cs) = AV.rename f c :: AV.rename.go f cs := by simp [AV.rename.go]
theorem rename_nil (f : Nat → Nat) : AV.rename.go f [] = [] := by simp [AV.rename.go]

def keepBlks (L : List Blk) (rs : List Nat) : List Blk := rs.map fun b => (L[b]?).getD .dead
theorem keepBlks_nil (L : List Blk) : keepBlks L [] = [] := Eq.trans rfl rfl
theorem keepBlks_cons (L : List Blk) (b : Nat) (rs : List Nat) : keepBlks L (b :: rs) = (L[b]?).getD .dead :: keepBlks L rs := Eq.trans rfl rfl
def flatAll (lim : Nat) (L : List Blk) (rs : List Nat) : Bool := rs.all fun b => flatBlk lim L[b]?
theorem flatAll_nil (lim : Nat) (L : List Blk) : flatAll lim L [] = true := Eq.trans rfl rfl
theorem flatAll_cons (lim : Nat) (L : List Blk) (b : Nat) (rs : List Nat) : flatAll lim L (b :: rs) = (flatBlk lim L[b]? && flatAll lim L rs) := Eq.trans rfl rfl
theorem flatBlk_cells (lim : Nat) (cs : List AV) (w : Bool) : flatBlk lim (some (.cells cs w)) = cs.all fun c => c.under lim := Eq.trans rfl rfl
theorem finish_two_eq (G : List Blk) (e0 e1 : Option Nat) (v : AV) : finish 2 H.length e0 v ⟨H ++ G, e1⟩ =
    if clean H.length e1 = true ∧ flatAll H.length (H ++ G) (dedup (v.roots H.length)) = true then some (v.rename (renum H.length (dedup (v.roots H.length))), ⟨H ++ keepBlks (H ++ G) (dedup (v.roots H.length)), e0⟩) else none := by
  unfold finish keepBlks flatAll
  simp
theorem finish_two_eq0 (e0 e1 : Option Nat) (v : AV) : finish 2 H.length e0 v ⟨H, e1⟩ =
    if clean H.length e1 = true ∧ flatAll H.length H (dedup (v.roots H.length)) = true then some (v.rename (renum H.length (dedup (v.roots H.length))), ⟨H ++ keepBlks H (dedup (v.roots H.length)), e0⟩) else none := by
  unfold finish keepBlks flatAll
  simp
theorem finish_one_eq (G : List Blk) (e0 e1 : Option Nat) (v : AV) : finish 1 H.length e0 v ⟨H ++ G, e1⟩ = if v.under H.length = true ∧ clean H.length e1 = true then some (v, ⟨H, e0⟩) else none := by
  unfold finish
  simp
theorem finish_one_eq0 (e0 e1 : Option Nat) (v : AV) : finish 1 H.length e0 v ⟨H, e1⟩ = if v.under H.length = true ∧ clean H.length e1 = true then some (v, ⟨H, e0⟩) else none := by
  unfold finish
  simp
theorem dedup_nil : dedup [] = [] := Eq.trans rfl rfl
theorem dedup_one (b : Nat) : dedup [b] = [b] := Eq.trans rfl rfl
theorem dedup_two (a b : Nat) : dedup [a, b] = if a = b then [a] else [a, b] := by
  by_cases h : a = b
  · simp [dedup, h]
  · have : ¬ b = a := fun h' => h h'.symm
    simp [dedup, h, this]
theorem renum_old {lim b : Nat} (rs : List Nat) (h : b < lim) : renum lim rs b = b := by simp [renum, h]
theorem renum_one (k : Nat) : renum H.length [H.length + k] (H.length + k) = H.length := by
  have h1 : ¬ H.length + k < H.length := by omega
  simp only [renum, h1, if_false, List.idxOf_cons_self, Nat.add_zero]
theorem renum_one0 : renum H.length [H.length] H.length = H.length := by simp [renum]
theorem renum_two0 {a b : Nat} (h : H.length ≤ a) : renum H.length [a, b] a = H.length := by
  have h1 : ¬ a < H.length := by omega
  simp [renum, h1]
theorem renum_two1 {a b : Nat} (h : H.length ≤ b) (hne : a ≠ b) : renum H.length [a, b] b = H.length + 1 := by
  have h1 : ¬ b < H.length := by omega
  have h2 : (a == b) = false := by simpa using hne
  simp [renum, h1, h2, List.idxOf_cons]

theorem finV_wc (F : AFun) (m : Mem) (st : St) (Q : AV → Mem → Prop) : Wc (finRun F m st) Q = Wc (finV F m (resultList st.tm st.m.H F.results) st.m) Q := Eq.trans rfl rfl

theorem get_more {α : Type} {L : List α} {j : Nat} {b : α} (h : L[j]? = some b) (X : List α) : (L ++ X)[j]? = some b := by
  rw [List.getElem?_append_left (List.getElem?_eq_some_iff.mp h).1]; exact h
theorem cellsAt_of {L : List Blk} {j : Nat} {cs : List AV} {w : Bool} (h : L[j]? = some (.cells cs w)) : cellsAt L j = some cs := by
  unfold cellsAt; rw [h]

theorem clean_none' (n : Nat) : clean n none = true := Eq.trans rfl rfl
theorem clean_some (n k : Nat) : clean n (some k) = decide (n ≤ k) := Eq.trans rfl rfl
theorem clean_ite (c : Prop) [Decidable c] (n : Nat) (a b : Option Nat) : clean n (if c then a else b) = if c then clean n a else clean n b := by split <;> rfl
theorem minEsc_none (b : Nat) : minEsc none b = some b := Eq.trans rfl rfl
theorem minEsc_some (a b : Nat) : minEsc (some a) b = some (min a b) := Eq.trans rfl rfl
end

end Go.Proofs.YtemcdiajejekoaaDoor.Slim

/- Rows of elements of some cells each; slices of tasks. -/
namespace Go.Proofs.YtemcdiajejekoaaDoor.Slim

open Go

set_option linter.unusedSimpArgs false

set_option linter.unusedVariables false

variable {pr : Prims} {H : List Blk} {e : Option Nat}

/-- rows of elements, each of which lies in k cells -/
def encE {α : Type} (f : α → List AV) : List α → List AV
  | [] => []
  | x :: xs => f x ++ encE f xs

section

variable {α : Type} {f : α → List AV} {k : Nat}

theorem encE_append : ∀ a b : List α, encE f (a ++ b) = encE f a ++ encE f b
  | [], b => rfl
  | x :: a, b => by rw [List.cons_append, encE, encE, encE_append a b, List.append_assoc]

theorem encE_length (hf : ∀ x, (f x).length = k) : ∀ xs : List α, (encE f xs).length = xs.length * k
  | [] => by simp [encE]
  | x :: xs => by rw [encE, List.length_append, hf, encE_length hf xs, List.length_cons, Nat.add_mul, Nat.one_mul, Nat.add_comm]

theorem encE_drop (hf : ∀ x, (f x).length = k) : ∀ (xs : List α) (i : Nat), (encE f xs).drop (i * k) = encE f (xs.drop i)
  | xs, 0 => by rw [Nat.zero_mul, List.drop_zero, List.drop_zero]
  | [], i + 1 => by simp [encE]
  | x :: xs, i + 1 => by
    rw [encE, Nat.add_mul, Nat.one_mul, Nat.add_comm, ← hf x, List.drop_length_add_append, hf x, List.drop_succ_cons, encE_drop hf xs i]

theorem encE_take (hf : ∀ x, (f x).length = k) : ∀ (xs : List α) (i : Nat), (encE f xs).take (i * k) = encE f (xs.take i)
  | xs, 0 => by simp [encE]
  | [], i + 1 => by simp [encE]
  | x :: xs, i + 1 => by
    rw [encE, Nat.add_mul, Nat.one_mul, Nat.add_comm, ← hf x, List.take_length_add_append, hf x, List.take_succ_cons, encE, encE_take hf xs i]

theorem encE_at (hf : ∀ x, (f x).length = k) {xs : List α} {i : Nat} {x : α} (h : xs[i]? = some x) : ∃ ys, (encE f xs).drop (i * k) = f x ++ ys ∧ i * k + k ≤ (encE f xs).length := by
  have hi := (List.getElem?_eq_some_iff.mp h).1
  refine ⟨encE f (xs.drop (i + 1)), ?_, ?_⟩
  · rw [encE_drop hf, List.drop_eq_getElem_cons hi, encE]
    rw [List.getElem?_eq_getElem hi] at h
    rw [Option.some.inj h]
  · rw [encE_length hf]
    have : (i + 1) * k ≤ xs.length * k := Nat.mul_le_mul_right _ hi
    rw [Nat.add_mul, Nat.one_mul] at this
    exact this

theorem part_encE (hf : ∀ x, (f x).length = k) {xs : List α} {i : Nat} {x : α} (h : xs[i]? = some x) : part true (encE f xs) (i * k) k = some (.agg (f x)) := by
  obtain ⟨ys, h1, h2⟩ := encE_at hf h
  rw [part_true, if_pos h2, h1, ← hf x, List.take_left']
  rfl

theorem part_encEj (hf : ∀ x, (f x).length = k) {xs : List α} {i j : Nat} {x : α} {c : AV} (sz : Nat) (h : xs[i]? = some x) (hc : (f x)[j]? = some c) : part false (encE f xs) (i * k + j) sz = some c := by
  obtain ⟨ys, h1, h2⟩ := encE_at hf h
  rw [part_false]
  have : (encE f xs)[i * k + j]? = ((encE f xs).drop (i * k))[j]? := by rw [List.getElem?_drop]
  rw [this, h1, List.getElem?_append_left (List.getElem?_eq_some_iff.mp hc).1, hc]

theorem part_encE0 (hf : ∀ x, (f x).length = k) {xs : List α} {i : Nat} {x : α} {c : AV} (sz : Nat) (h : xs[i]? = some x) (hc : (f x)[0]? = some c) : part false (encE f xs) (i * k) sz = some c := part_encEj (j := 0) hf sz h hc

theorem setRange_encE (hf : ∀ x, (f x).length = k) : ∀ {xs : List α} {i : Nat} (x : α), i < xs.length → setRange (encE f xs) (i * k) (f x) = encE f (xs.set i x)
  | [], i, x, h => by simp at h
  | y :: xs, 0, x, h => by
    unfold setRange
    rw [Nat.zero_mul, Nat.zero_add, List.set_cons_zero, encE, encE, hf x, ← hf y, List.drop_left']
    · simp
    · rfl
  | y :: xs, i + 1, x, h => by
    have ih := setRange_encE hf x (by simpa using h : i < xs.length)
    rw [List.set_cons_succ, encE, encE, ← ih]
    unfold setRange
    rw [Nat.add_mul, Nat.one_mul, Nat.add_comm (i * k) k]
    rw [← hf y, List.take_length_add_append, Nat.add_assoc, List.drop_length_add_append]
    simp only [List.append_assoc]

theorem setRange_one {cs : List AV} {o : Nat} (v : AV) (h : o < cs.length) : setRange cs o [v] = cs.set o v := by
  unfold setRange
  rw [List.set_eq_take_append_cons_drop, if_pos h]
  simp

theorem set_encE (hf : ∀ x, (f x).length = k) {j : Nat} {v : AV} {m m' : α} (hj : j < k) (hm : (f m).set j v = f m') : ∀ {Y : List α} {i : Nat}, Y[i]? = some m → (encE f Y).set (i * k + j) v = encE f (Y.set i m')
  | [], i, h => by simp at h
  | y :: Y, 0, h => by
    simp at h
    subst h
    rw [Nat.zero_mul, Nat.zero_add, List.set_cons_zero, encE, encE, ← hm, List.set_append_left _ _ (by rw [hf]; exact hj)]
  | y :: Y, i + 1, h => by
    rw [List.set_cons_succ, encE, encE, ← set_encE hf hj hm (by simpa using h : Y[i]? = some m), Nat.add_mul, Nat.one_mul, List.set_append_right _ _ (by rw [hf]; omega), hf]
    congr 2
    omega

theorem setRange_encEj (hf : ∀ x, (f x).length = k) {j : Nat} {v : AV} {m m' : α} {Y : List α} {i : Nat} (hY : Y[i]? = some m) (hj : j < k) (hm : (f m).set j v = f m') : setRange (encE f Y) (i * k + j) [v] = encE f (Y.set i m') := by
  obtain ⟨_, _, h2⟩ := encE_at hf hY
  rw [setRange_one v (by omega), set_encE hf hj hm hY]

theorem zeros_encE {z : α} : ∀ n, zeros n (f z) = encE f (List.replicate n z)
  | 0 => rfl
  | n + 1 => by
    have := zeros_encE (z := z) n
    unfold zeros at *
    rw [List.replicate_succ, List.flatten_cons, this, List.replicate_succ, encE]

theorem under_encE (hf : ∀ (x : α) (n : Nat), ((f x).all fun c => c.under n) = true) (n : Nat) : ∀ xs : List α, ((encE f xs).all fun c => c.under n) = true
  | [] => rfl
  | x :: xs => by rw [encE, List.all_append, hf, under_encE hf n xs]; rfl

end

abbrev Tk := Int × Int × Int × Int

def tkC (m : Tk) : List AV := [.int .i64 m.1, .int .i64 m.2.1, .int .i64 m.2.2.1, .int .i64 m.2.2.2]

theorem tkC_length (m : Tk) : (tkC m).length = 4 := rfl

theorem tkC_under (m : Tk) (n : Nat) : ((tkC m).all fun c => c.under n) = true := by simp [tkC, AV.under]

abbrev encT (ts : List Tk) : List AV := encE tkC ts

abbrev slT (b n : Nat) (c : Option Nat) : AV := .slice (some (b, 0)) 4 n c

def ArgT (H : List Blk) (av : AV) (ts : List Tk) : Prop :=
  ∃ p sz c, av = .slice p sz ts.length c ∧ ts.length ≤ maxLen ∧ (ts ≠ [] → sz = 4 ∧ ∃ b, p = some (b, 0) ∧ cellsAt H b = some (encT ts))

theorem ArgT.more {av : AV} {ls : List Tk} (h : ArgT H av ls) (G : List Blk) : ArgT (H ++ G) av ls := by
  obtain ⟨p, sz, c, h1, h2, h3⟩ := h
  refine ⟨p, sz, c, h1, h2, fun hne => ?_⟩
  obtain ⟨e1, b, e2, e3⟩ := h3 hne
  exact ⟨e1, b, e2, cells_mono e3 G⟩

theorem tasks_of : ∀ (es : List (List Int)), (∀ e ∈ es, e.length = 4) → ∃ ts : List Tk, es.flatten.map (AV.int .i64) = encT ts ∧ ts.length = es.length
  | [], _ => ⟨[], rfl, rfl⟩
  | x :: es, h => by
    obtain ⟨ts, h1, h2⟩ := tasks_of es fun e he => h e (by simp [he])
    match x, h x (by simp) with
    | [a, b, c, d], _ => exact ⟨(a, b, c, d) :: ts, by simp [encE, tkC, h1], by simp [h2]⟩

theorem argT_of {av : AV} {es : List (List Int)} (h : IsArg H av .i64 4 es) : ∃ ts, ArgT H av ts := by
  obtain ⟨h1, h2⟩ := h
  obtain ⟨ts, t1, t2⟩ := tasks_of es fun e he => (h1 e he).1
  rcases h2 with ⟨rfl, rfl⟩ | ⟨b, cap, rfl, h3, h4, h5⟩
  · simp at t2
    subst t2
    exact ⟨[], none, 0, none, rfl, by simp, fun h => absurd rfl h⟩
  · refine ⟨ts, some (b, 0), 4, some cap, by rw [t2], by omega, fun _ => ⟨rfl, b, rfl, ?_⟩⟩
    unfold cellsAt
    rw [h5, ← t1]

end Go.Proofs.YtemcdiajejekoaaDoor.Slim
