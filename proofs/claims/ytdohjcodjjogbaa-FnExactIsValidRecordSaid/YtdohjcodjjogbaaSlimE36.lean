/- Texts, and records of a log. -/
import Derived.Test.YtdohjcodjjogbaaSlimE2
import Derived.Lib.Bytealg
namespace Go.Proofs.Ytdohjcodjjogbaa.Slim

open Go

set_option linter.unusedSimpArgs false

set_option linter.unusedVariables false

variable {pr : Prims} {H : List Blk} {e : Option Nat}

/-- a byte that a record may have -/
def okB (b : UInt8) : Bool := !((decide ((b.toNat : Int) < 32) || decide (126 < (b.toNat : Int))) || decide ((b.toNat : Int) = 35))

def textOk (s : ByteArray) : Bool := s.data.toList.all okB

/-- does a text have this byte? -/
def hasB (s : ByteArray) (c : Int) : Bool := s.data.toList.any fun b => decide ((b.toNat : Int) = c)

theorem str_get {s : ByteArray} {i : Nat} (h : i < s.data.toList.length) : s[i]? = some s.data.toList[i] := by
  have h1 : i < s.size := h
  rw [getElem?_pos s i h1]
  rfl

theorem str_len (s : ByteArray) : s.data.toList.length = s.size := rfl

theorem loop_i_isText {s : ByteArray} (hn : s.data.toList.length ≤ 9223372036854775806) :
    ∀ (k i : Nat) (y2 y5 y6 : AV), k + i = s.data.toList.length → ∃ (z2 z4 z5 z6 : AV), run T pr (.loop w_i_isText_1) ⟨[.str s, .bool false, y2, .int .i64 s.data.toList.length, .int .i64 i, y5, y6], ⟨H, e⟩⟩ =
      some (if (s.data.toList.drop i).all okB = true then Ex.exit 0 else Ex.ret, ⟨[.str s, .bool false, z2, .int .i64 s.data.toList.length, z4, z5, z6], ⟨H, e⟩⟩)
  | 0, i, y2, y5, y6, hk => by
    have hi : i = s.data.toList.length := by omega
    subst hi
    refine ⟨y2, .int .i64 s.data.toList.length, .bool false, y6, ?_⟩
    rw [run_loop, List.drop_length]
    generalize run T pr (.loop w_i_isText_1) = R
    simp +contextual only [w_i_isText_1, Nat.lt_irrefl, decide_false, List.all_nil, go_sem, entry, joinEsc, if_pos, reduceIte, Nat.reduceAdd, Nat.reduceLeDiff, Nat.reduceLT, Nat.reduceEqDiff]
  | k + 1, i, y2, y5, y6, hk => by
    have hi : i < s.data.toList.length := by omega
    have hb := str_get hi
    rw [run_loop, List.drop_eq_getElem_cons hi, List.all_cons]
    obtain ⟨z2, z4, z5, z6, ih⟩ := loop_i_isText hn k (i + 1) (.int .i64 i) (.bool true) (.bool false) (by omega)
    generalize s.data.toList[i] = b at hb ⊢
    generalize run T pr (.loop w_i_isText_1) = R at ih ⊢
    unfold okB
    cases h1 : decide ((b.toNat : Int) < 32) with
    | true =>
      refine ⟨.int .i64 i, .int .i64 i, .bool true, .bool true, ?_⟩
      simp +contextual only [w_i_isText_1, hi, hb, h1, decide_true, go_sem, entry, joinEsc, if_pos, reduceIte, Nat.reduceAdd, Nat.reduceLeDiff, Nat.reduceLT, Nat.reduceEqDiff]
    | false =>
      cases h2 : decide (126 < (b.toNat : Int)) with
      | true =>
        refine ⟨.int .i64 i, .int .i64 i, .bool true, .bool true, ?_⟩
        simp +contextual only [w_i_isText_1, hi, hb, h1, h2, decide_true, go_sem, entry, joinEsc, if_pos, reduceIte, Nat.reduceAdd, Nat.reduceLeDiff, Nat.reduceLT, Nat.reduceEqDiff]
      | false =>
        cases h3 : decide ((b.toNat : Int) = 35) with
        | true =>
          refine ⟨.int .i64 i, .int .i64 i, .bool true, .bool true, ?_⟩
          simp +contextual only [w_i_isText_1, hi, hb, h1, h2, h3, decide_true, go_sem, entry, joinEsc, if_pos, reduceIte, Nat.reduceAdd, Nat.reduceLeDiff, Nat.reduceLT, Nat.reduceEqDiff]
        | false =>
          refine ⟨z2, z4, z5, z6, ?_⟩
          simp +contextual only [w_i_isText_1, hi, hb, h1, h2, h3, wrap_succ (show i < 9223372036854775807 by omega), decide_true, go_sem, entry, joinEsc, if_pos, reduceIte, Nat.reduceAdd, Nat.reduceLeDiff, Nat.reduceLT, Nat.reduceEqDiff]
          exact ih

theorem e_i_isText {s : ByteArray} (hn : s.data.toList.length ≤ 9223372036854775806) : call T pr f_i_isText [.str s] ⟨H, e⟩ = some (.bool (textOk s), ⟨H, e⟩) := by
  obtain ⟨z2, z4, z5, z6, hl⟩ := loop_i_isText (pr := pr) (H := H) (e := none) hn s.data.toList.length 0 .undef .undef .undef rfl
  have h0 : ((0 : Nat) : Int) = 0 := rfl
  rw [h0, List.drop_zero, str_len] at hl
  rw [call_eq t_i_isText]
  unfold textOk
  cases h1 : s.data.toList.all okB <;> rw [h1] at hl <;> simp +contextual only [a_i_isText, c_i_isText, hl, go_sem, entry, joinEsc, if_pos, reduceIte, Nat.reduceAdd, Nat.reduceLeDiff, Nat.reduceLT, Nat.reduceEqDiff]

theorem u8_lt (b : UInt8) : b.toNat < 256 := b.toNat_lt

theorem loop_s_l12Bytes {s : ByteArray} {x : AV} (hn : s.data.toList.length ≤ 9223372036854775806) :
    ∀ (k i : Nat) (y4 y5 : AV), k + i = s.data.toList.length → ∃ (z3 z4 z5 : AV), run T pr (.loop w_s_l12Bytes_1) ⟨[.str s, x, .bool false, .int .i64 i, y4, y5], ⟨H, e⟩⟩ =
      some (if (s.data.toList.drop i).all okB = true then Ex.exit 0 else Ex.ret, ⟨[.str s, x, .bool false, z3, z4, z5], ⟨H, e⟩⟩)
  | 0, i, y4, y5, hk => by
    have hi : i = s.data.toList.length := by omega
    subst hi
    refine ⟨.int .i64 s.data.toList.length, .bool false, y5, ?_⟩
    rw [run_loop, List.drop_length, str_len]
    generalize run T pr (.loop w_s_l12Bytes_1) = R
    simp +contextual only [w_s_l12Bytes_1, Nat.lt_irrefl, decide_false, List.all_nil, go_sem, entry, joinEsc, if_pos, reduceIte, Nat.reduceAdd, Nat.reduceLeDiff, Nat.reduceLT, Nat.reduceEqDiff]
  | k + 1, i, y4, y5, hk => by
    have hi : i < s.data.toList.length := by omega
    have hi' : i < s.size := hi
    have hb := str_get hi
    rw [run_loop, List.drop_eq_getElem_cons hi, List.all_cons]
    obtain ⟨z3, z4, z5, ih⟩ := loop_s_l12Bytes (x := x) hn k (i + 1) (.bool true) (.bool false) (by omega)
    generalize s.data.toList[i] = b at hb ⊢
    generalize run T pr (.loop w_s_l12Bytes_1) = R at ih ⊢
    have hlt := u8_lt b
    have hw : IntKind.i64.wrap (b.toNat : Int) = (b.toNat : Int) := wrap64 (by omega) (by omega)
    have hin : (decide ((32 : Int) ≤ (b.toNat : Int)) && decide ((b.toNat : Int) ≤ 126)) = !(decide ((b.toNat : Int) < 32) || decide (126 < (b.toNat : Int))) := by
      rw [Bool.eq_iff_iff]
      simp
    unfold okB
    cases h1 : (decide ((b.toNat : Int) < 32) || decide (126 < (b.toNat : Int))) with
    | true =>
      rw [h1] at hin
      refine ⟨.int .i64 i, .bool true, .bool true, ?_⟩
      simp +contextual only [w_s_l12Bytes_1, hi', hb, hw, e_s_l1In, hin, decide_true, go_sem, entry, joinEsc, if_pos, reduceIte, Nat.reduceAdd, Nat.reduceLeDiff, Nat.reduceLT, Nat.reduceEqDiff]
    | false =>
      rw [h1] at hin
      have hin1 : decide ((32 : Int) ≤ (b.toNat : Int)) = true := (Bool.and_eq_true_iff.mp hin).1
      have hin2 : decide ((b.toNat : Int) ≤ 126) = true := (Bool.and_eq_true_iff.mp hin).2
      cases h3 : decide ((b.toNat : Int) = 35) with
      | true =>
        refine ⟨.int .i64 i, .bool true, .bool true, ?_⟩
        simp +contextual only [w_s_l12Bytes_1, hi', hb, hw, e_s_l1In, hin1, hin2, h3, decide_true, go_sem, entry, joinEsc, if_pos, reduceIte, Nat.reduceAdd, Nat.reduceLeDiff, Nat.reduceLT, Nat.reduceEqDiff]
      | false =>
        refine ⟨z3, z4, z5, ?_⟩
        simp +contextual only [w_s_l12Bytes_1, hi', hb, hw, e_s_l1In, hin1, hin2, h3, wrap_succ (show i < 9223372036854775807 by omega), decide_true, go_sem, entry, joinEsc, if_pos, reduceIte, Nat.reduceAdd, Nat.reduceLeDiff, Nat.reduceLT, Nat.reduceEqDiff]
        exact ih

theorem e_s_l12Bytes {s : ByteArray} (hn : s.data.toList.length ≤ 9223372036854775806) (x : Int) : call T pr f_s_l12Bytes [.str s, .int .i64 x] ⟨H, e⟩ = some (.bool (textOk s && decide ((s.size : Int) ≤ x)), ⟨H, e⟩) := by
  obtain ⟨z3, z4, z5, hl⟩ := loop_s_l12Bytes (pr := pr) (H := H) (e := none) (x := .int .i64 x) hn s.data.toList.length 0 .undef .undef rfl
  have h0 : ((0 : Nat) : Int) = 0 := rfl
  rw [h0, List.drop_zero] at hl
  rw [call_eq t_s_l12Bytes]
  unfold textOk
  cases h1 : s.data.toList.all okB <;> rw [h1] at hl <;> simp +contextual only [a_s_l12Bytes, c_s_l12Bytes, hl, go_sem, entry, joinEsc, if_pos, reduceIte, Nat.reduceAdd, Nat.reduceLeDiff, Nat.reduceLT, Nat.reduceEqDiff]

theorem loop_s_l1Stands {s : ByteArray} {c : Int} (hn : s.data.toList.length ≤ 9223372036854775806) :
    ∀ (k i : Nat) (y4 y5 : AV), k + i = s.data.toList.length → ∃ (z3 z4 z5 : AV), run T pr (.loop w_s_l1Stands_1) ⟨[.str s, .int .u8 c, .bool false, .int .i64 i, y4, y5], ⟨H, e⟩⟩ =
      some (if ((s.data.toList.drop i).any fun b => decide ((b.toNat : Int) = c)) = true then Ex.ret else Ex.exit 0, ⟨[.str s, .int .u8 c, .bool ((s.data.toList.drop i).any fun b => decide ((b.toNat : Int) = c)), z3, z4, z5], ⟨H, e⟩⟩)
  | 0, i, y4, y5, hk => by
    have hi : i = s.data.toList.length := by omega
    subst hi
    refine ⟨.int .i64 s.data.toList.length, .bool false, y5, ?_⟩
    rw [run_loop, List.drop_length, str_len]
    generalize run T pr (.loop w_s_l1Stands_1) = R
    simp +contextual only [w_s_l1Stands_1, Nat.lt_irrefl, decide_false, List.any_nil, go_sem, entry, joinEsc, if_pos, reduceIte, Nat.reduceAdd, Nat.reduceLeDiff, Nat.reduceLT, Nat.reduceEqDiff]
  | k + 1, i, y4, y5, hk => by
    have hi : i < s.data.toList.length := by omega
    have hi' : i < s.size := hi
    have hb := str_get hi
    rw [run_loop, List.drop_eq_getElem_cons hi, List.any_cons]
    obtain ⟨z3, z4, z5, ih⟩ := loop_s_l1Stands (c := c) hn k (i + 1) (.bool true) (.bool false) (by omega)
    generalize s.data.toList[i] = b at hb ⊢
    generalize run T pr (.loop w_s_l1Stands_1) = R at ih ⊢
    cases h1 : decide ((b.toNat : Int) = c) with
    | true =>
      refine ⟨.int .i64 i, .bool true, .bool true, ?_⟩
      simp +contextual only [w_s_l1Stands_1, hi', hb, h1, decide_true, go_sem, entry, joinEsc, if_pos, reduceIte, Nat.reduceAdd, Nat.reduceLeDiff, Nat.reduceLT, Nat.reduceEqDiff]
    | false =>
      refine ⟨z3, z4, z5, ?_⟩
      simp +contextual only [w_s_l1Stands_1, hi', hb, h1, wrap_succ (show i < 9223372036854775807 by omega), decide_true, go_sem, entry, joinEsc, if_pos, reduceIte, Nat.reduceAdd, Nat.reduceLeDiff, Nat.reduceLT, Nat.reduceEqDiff]
      exact ih

theorem e_s_l1Stands {s : ByteArray} (hn : s.data.toList.length ≤ 9223372036854775806) (c : Int) : call T pr f_s_l1Stands [.str s, .int .u8 c] ⟨H, e⟩ = some (.bool (hasB s c), ⟨H, e⟩) := by
  obtain ⟨z3, z4, z5, hl⟩ := loop_s_l1Stands (pr := pr) (H := H) (e := none) (c := c) hn s.data.toList.length 0 .undef .undef rfl
  have h0 : ((0 : Nat) : Int) = 0 := rfl
  rw [h0, List.drop_zero] at hl
  rw [call_eq t_s_l1Stands]
  unfold hasB
  cases h1 : (s.data.toList.any fun b => decide ((b.toNat : Int) = c)) <;> rw [h1] at hl <;> simp +contextual only [a_s_l1Stands, c_s_l1Stands, hl, go_sem, entry, joinEsc, if_pos, reduceIte, Nat.reduceAdd, Nat.reduceLeDiff, Nat.reduceLT, Nat.reduceEqDiff]

theorem index_has (l : List UInt8) (c : UInt8) : decide (0 ≤ Lib.indexByte l c) = l.any fun b => decide ((b.toNat : Int) = (c.toNat : Int)) := by
  induction l with
  | nil => rfl
  | cons b l ih =>
    have hge := Lib.indexByte_ge l c
    rw [List.any_cons, Lib.indexByte]
    by_cases h : b = c
    · subst h
      simp
    · have h1 : (b == c) = false := by simpa using h
      have h2 : ¬ (b.toNat : Int) = (c.toNat : Int) := fun e => h (UInt8.toNat_inj.mp (by omega))
      rw [h1, decide_eq_false h2, Bool.false_or, ← ih]
      by_cases h3 : Lib.indexByte l c = -1
      · simp [h3]
      · have h4 : (Lib.indexByte l c == -1) = false := by simpa using h3
        rw [h4]
        simp only [Bool.false_eq_true, if_false]
        exact decide_eq_decide.mpr (by omega)

/-- strings.Contains, at one byte -/
def HasContains (pr : Prims) : Prop := ∀ (s : ByteArray) (c : UInt8) (m : Mem), call T pr f_strings_Contains [.str s, .str ⟨#[c]⟩] m = some (.bool (decide (0 ≤ Lib.indexByte s.data.toList c)), m)

abbrev rcV (s t : ByteArray) : AV := .agg [.str s, .str t]

def recOk (s t : ByteArray) : Bool := ((decide ((1 : Int) ≤ (s.size : Int)) && decide ((s.size : Int) ≤ 160)) && decide ((t.size : Int) ≤ 250)) && (textOk s && (textOk t && !hasB s 64))

theorem e_i_IsValidRecord (hp : HasContains pr) {s t : ByteArray} (hs : s.data.toList.length ≤ 9223372036854775806) (ht : t.data.toList.length ≤ 9223372036854775806) : call T pr f_i_IsValidRecord [rcV s t] ⟨H, e⟩ = some (.bool (recOk s t), ⟨H, e⟩) := by
  have hc : ∀ m, call T pr f_strings_Contains [.str s, .str ⟨#[64]⟩] m = some (.bool (hasB s 64), m) := fun m => by
    rw [hp s 64 m, index_has]
    rfl
  rw [call_eq t_i_IsValidRecord]
  unfold recOk
  cases h1 : (decide ((1 : Int) ≤ (s.size : Int)) && decide ((s.size : Int) ≤ 160)) with
  | false => simp +contextual only [a_i_IsValidRecord, c_i_IsValidRecord, e_i_within, h1, go_sem, entry, joinEsc, if_pos, reduceIte, Nat.reduceAdd, Nat.reduceLeDiff, Nat.reduceLT, Nat.reduceEqDiff]
  | true =>
    cases h2 : decide ((t.size : Int) ≤ 250) with
    | false => simp +contextual only [a_i_IsValidRecord, c_i_IsValidRecord, e_i_within, h1, h2, go_sem, entry, joinEsc, if_pos, reduceIte, Nat.reduceAdd, Nat.reduceLeDiff, Nat.reduceLT, Nat.reduceEqDiff]
    | true =>
      cases h3 : textOk s with
      | false => simp +contextual only [a_i_IsValidRecord, c_i_IsValidRecord, e_i_within, e_i_isText hs, h1, h2, h3, go_sem, entry, joinEsc, if_pos, reduceIte, Nat.reduceAdd, Nat.reduceLeDiff, Nat.reduceLT, Nat.reduceEqDiff]
      | true =>
        cases h4 : textOk t with
        | false => simp +contextual only [a_i_IsValidRecord, c_i_IsValidRecord, e_i_within, e_i_isText hs, e_i_isText ht, h1, h2, h3, h4, go_sem, entry, joinEsc, if_pos, reduceIte, Nat.reduceAdd, Nat.reduceLeDiff, Nat.reduceLT, Nat.reduceEqDiff]
        | true => simp +contextual only [a_i_IsValidRecord, c_i_IsValidRecord, e_i_within, e_i_isText hs, e_i_isText ht, hc, h1, h2, h3, h4, go_sem, entry, joinEsc, if_pos, reduceIte, Nat.reduceAdd, Nat.reduceLeDiff, Nat.reduceLT, Nat.reduceEqDiff]

theorem str_none (s : ByteArray) : (!decide (s = ⟨#[]⟩)) = decide ((1 : Int) ≤ (s.size : Int)) := by
  have h : s = ⟨#[]⟩ ↔ s.size = 0 := by
    constructor
    · rintro rfl; rfl
    · intro h
      have h1 : s.data.size = 0 := h
      have h2 : s.data = #[] := Array.eq_empty_of_size_eq_zero h1
      cases s
      simp at h2
      rw [h2]
  rw [← decide_not]
  exact decide_eq_decide.mpr (by rw [h]; omega)

theorem e_s_IsValidRecord {s t : ByteArray} (hs : s.data.toList.length ≤ 9223372036854775806) (ht : t.data.toList.length ≤ 9223372036854775806) : call T pr f_s_IsValidRecord [rcV s t] ⟨H, e⟩ = some (.bool (recOk s t), ⟨H, e⟩) := by
  have hr : ∀ L, call T pr f_s_l12Record [rcV s t] ⟨L, none⟩ = some (.bool (recOk s t), ⟨L, none⟩) := by
    intro L
    rw [call_eq t_s_l12Record]
    unfold recOk
    have hn := str_none s
    cases h1 : decide ((1 : Int) ≤ (s.size : Int)) with
    | false =>
      rw [h1] at hn
      have hn' : decide (s = ⟨#[]⟩) = true := by simpa using hn
      simp +contextual only [a_s_l12Record, c_s_l12Record, hn', h1, go_sem, entry, joinEsc, if_pos, reduceIte, Nat.reduceAdd, Nat.reduceLeDiff, Nat.reduceLT, Nat.reduceEqDiff]
    | true =>
      rw [h1] at hn
      have hn' : decide (s = ⟨#[]⟩) = false := by simpa using hn
      cases h3 : textOk s with
      | false => simp +contextual only [a_s_l12Record, c_s_l12Record, hn', h1, e_s_l12Bytes hs, h3, Bool.and_false, go_sem, entry, joinEsc, if_pos, reduceIte, Nat.reduceAdd, Nat.reduceLeDiff, Nat.reduceLT, Nat.reduceEqDiff]
      | true =>
        cases h5 : decide ((s.size : Int) ≤ 160) with
        | false => simp +contextual only [a_s_l12Record, c_s_l12Record, hn', h1, e_s_l12Bytes hs, h3, h5, Bool.and_false, go_sem, entry, joinEsc, if_pos, reduceIte, Nat.reduceAdd, Nat.reduceLeDiff, Nat.reduceLT, Nat.reduceEqDiff]
        | true =>
          cases h6 : hasB s 64 with
          | true => simp +contextual only [a_s_l12Record, c_s_l12Record, hn', h1, e_s_l12Bytes hs, e_s_l1Stands hs, h3, h5, h6, Bool.and_false, go_sem, entry, joinEsc, if_pos, reduceIte, Nat.reduceAdd, Nat.reduceLeDiff, Nat.reduceLT, Nat.reduceEqDiff]
          | false =>
            cases h4 : textOk t <;> cases h2 : decide ((t.size : Int) ≤ 250) <;> simp +contextual only [a_s_l12Record, c_s_l12Record, hn', h1, e_s_l12Bytes hs, e_s_l12Bytes ht, e_s_l1Stands hs, h2, h3, h4, h5, h6, Bool.and_false, go_sem, entry, joinEsc, if_pos, reduceIte, Nat.reduceAdd, Nat.reduceLeDiff, Nat.reduceLT, Nat.reduceEqDiff]
  rw [call_eq t_s_IsValidRecord]
  simp +contextual only [a_s_IsValidRecord, c_s_IsValidRecord, hr, go_sem, entry, joinEsc, if_pos, reduceIte, Nat.reduceAdd, Nat.reduceLeDiff, Nat.reduceLT, Nat.reduceEqDiff]

theorem e_l_toLogRecord (s t : ByteArray) : call T pr f_l_toLogRecord [rcV s t] ⟨H, e⟩ = some (rcV s t, ⟨H, e⟩) := by
  rw [call_eq t_l_toLogRecord]
  simp +contextual only [a_l_toLogRecord, c_l_toLogRecord, go_sem, entry, joinEsc, if_pos, reduceIte, Nat.reduceAdd, Nat.reduceLeDiff, Nat.reduceLT, Nat.reduceEqDiff]

theorem e_l_szLogRecord {s t : ByteArray} (hs : s.size ≤ maxLen) (ht : t.size ≤ maxLen) : call T pr f_l_szLogRecord [rcV s t, .int .i64 1048576] ⟨H, e⟩ = some (.int .i64 (if s.size + t.size ≤ 1048576 then 1048576 - ((s.size + t.size : Nat) : Int) else -1), ⟨H, e⟩) := by
  rw [call_eq t_l_szLogRecord]
  have hm : maxLen = 9223372036854775807 := by decide
  have w1 : IntKind.i64.wrap (1048576 - (s.size : Int)) = 1048576 - (s.size : Int) := wrap64 (by omega) (by omega)
  by_cases h1 : s.size ≤ 1048576
  · have h2 : ¬ (1048576 - (s.size : Int) < 0) := by omega
    have w2 : IntKind.i64.wrap (1048576 - (s.size : Int) - (t.size : Int)) = 1048576 - ((s.size + t.size : Nat) : Int) := by
      rw [show 1048576 - (s.size : Int) - (t.size : Int) = 1048576 - ((s.size + t.size : Nat) : Int) by omega]
      exact wrap64 (by omega) (by omega)
    by_cases h3 : s.size + t.size ≤ 1048576
    · have h4 : ¬ (1048576 - ((s.size + t.size : Nat) : Int) < 0) := by omega
      simp +contextual only [a_l_szLogRecord, c_l_szLogRecord, w1, w2, h2, h3, h4, decide_false, go_sem, entry, joinEsc, if_pos, reduceIte, Nat.reduceAdd, Nat.reduceLeDiff, Nat.reduceLT, Nat.reduceEqDiff]
    · have h4 : 1048576 - ((s.size + t.size : Nat) : Int) < 0 := by omega
      simp +contextual only [a_l_szLogRecord, c_l_szLogRecord, w1, w2, h2, h3, h4, decide_true, decide_false, go_sem, entry, joinEsc, if_pos, reduceIte, Nat.reduceAdd, Nat.reduceLeDiff, Nat.reduceLT, Nat.reduceEqDiff]
  · have h2 : 1048576 - (s.size : Int) < 0 := by omega
    have h3 : ¬ (s.size + t.size ≤ 1048576) := by omega
    simp +contextual only [a_l_szLogRecord, c_l_szLogRecord, w1, h2, h3, decide_true, go_sem, entry, joinEsc, if_pos, reduceIte, Nat.reduceAdd, Nat.reduceLeDiff, Nat.reduceLT, Nat.reduceEqDiff]

theorem law_IsValidRecord (hp : HasContains pr) {s t : ByteArray} (hs : s.size ≤ maxLen) (ht : t.size ≤ maxLen) : ∃ m', call T pr f_l_FnExactIsValidRecord [rcV s t] ⟨H, none⟩ = some (.bool true, m') := by
  refine ⟨⟨H, none⟩, ?_⟩
  have hsz := fun L e' => e_l_szLogRecord (pr := pr) (H := L) (e := e') hs ht
  rw [call_eq t_l_FnExactIsValidRecord]
  by_cases hn : s.size + t.size ≤ 1048576
  · have hneg : ¬ (1048576 - ((s.size + t.size : Nat) : Int) < 0) := by omega
    have h1 : s.data.toList.length ≤ 9223372036854775806 := by rw [str_len]; omega
    have h2 : t.data.toList.length ≤ 9223372036854775806 := by rw [str_len]; omega
    simp +contextual only [a_l_FnExactIsValidRecord, c_l_FnExactIsValidRecord, hsz, hn, hneg, e_l_toLogRecord, e_s_IsValidRecord h1 h2, e_i_IsValidRecord hp h1 h2, decide_false, beq_self_eq_true, go_sem, entry, joinEsc, if_pos, reduceIte, Nat.reduceAdd, Nat.reduceLeDiff, Nat.reduceLT, Nat.reduceEqDiff]
  · simp +contextual only [a_l_FnExactIsValidRecord, c_l_FnExactIsValidRecord, hsz, hn, decide_true, show ((-1 : Int) < 0) by omega, go_sem, entry, joinEsc, if_pos, reduceIte, Nat.reduceAdd, Nat.reduceLeDiff, Nat.reduceLT, Nat.reduceEqDiff]

end Go.Proofs.Ytdohjcodjjogbaa.Slim
