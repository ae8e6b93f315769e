/- Texts, and records of a log. -/
import Derived.Test.YtdohjcodjjogbaaDoorSlimZ9
import Derived.Lib.Bytealg
/- Texts, and records of a log. -/
namespace Go.Proofs.YtdohjcodjjogbaaDoor.Slim

open Go

set_option linter.unusedSimpArgs false

set_option linter.unusedVariables false

variable {pr : Prims} {H : List Blk} {e : Option Nat}

/-- a byte that a record may have -/
def okB (b : UInt8) : Bool := !((decide ((b.toNat : Int) < 32) || decide (126 < (b.toNat : Int))) || decide ((b.toNat : Int) = 35))

def textOk (s : ByteArray) : Bool := s.data.toList.all okB

/-- does a text have this byte? -/
def hasB (s : ByteArray) (c : Int) : Bool := s.data.toList.any fun b => decide ((b.toNat : Int) = c)

theorem str_get {s : ByteArray} {i : Nat} (h : i < s.data.toList.length) : s[i]? = some s.data.toList[i] := by
  have h1 : i < s.size := h
  rw [getElem?_pos s i h1]
  rfl

theorem str_len (s : ByteArray) : s.data.toList.length = s.size := rfl

theorem loop_i_isText {s : ByteArray} (hn : s.data.toList.length ≤ 9223372036854775806) :
    ∀ (k i : Nat) (y2 y5 y6 : AV), k + i = s.data.toList.length → ∃ (z2 z4 z5 z6 : AV), run T pr (.loop w_i_isText_1) ⟨[.str s, .bool false, y2, .int .i64 s.data.toList.length, .int .i64 i, y5, y6], ⟨H, e⟩⟩ =
      some (if (s.data.toList.drop i).all okB = true then Ex.exit 0 else Ex.ret, ⟨[.str s, .bool false, z2, .int .i64 s.data.toList.length, z4, z5, z6], ⟨H, e⟩⟩)
  | 0, i, y2, y5, y6, hk => by
    have hi : i = s.data.toList.length := by omega
    subst hi
    refine ⟨y2, .int .i64 s.data.toList.length, .bool false, y6, ?_⟩
    rw [run_loop, List.drop_length]
    generalize run T pr (.loop w_i_isText_1) = R
    simp +contextual only [w_i_isText_1, Nat.lt_irrefl, decide_false, List.all_nil, go_sem, entry, joinEsc, if_pos, reduceIte, Nat.reduceAdd, Nat.reduceLeDiff, Nat.reduceLT, Nat.reduceEqDiff]
  | k + 1, i, y2, y5, y6, hk => by
    have hi : i < s.data.toList.length := by omega
    have hb := str_get hi
    rw [run_loop, List.drop_eq_getElem_cons hi, List.all_cons]
    obtain ⟨z2, z4, z5, z6, ih⟩ := loop_i_isText hn k (i + 1) (.int .i64 i) (.bool true) (.bool false) (by omega)
    generalize s.data.toList[i] = b at hb ⊢
    generalize run T pr (.loop w_i_isText_1) = R at ih ⊢
    unfold okB
    cases h1 : decide ((b.toNat : Int) < 32) with
    | true =>
      refine ⟨.int .i64 i, .int .i64 i, .bool true, .bool true, ?_⟩
      simp +contextual only [w_i_isText_1, hi, hb, h1, decide_true, go_sem, entry, joinEsc, if_pos, reduceIte, Nat.reduceAdd, Nat.reduceLeDiff, Nat.reduceLT, Nat.reduceEqDiff]
    | false =>
      cases h2 : decide (126 < (b.toNat : Int)) with
      | true =>
        refine ⟨.int .i64 i, .int .i64 i, .bool true, .bool true, ?_⟩
        simp +contextual only [w_i_isText_1, hi, hb, h1, h2, decide_true, go_sem, entry, joinEsc, if_pos, reduceIte, Nat.reduceAdd, Nat.reduceLeDiff, Nat.reduceLT, Nat.reduceEqDiff]
      | false =>
        cases h3 : decide ((b.toNat : Int) = 35) with
        | true =>
          refine ⟨.int .i64 i, .int .i64 i, .bool true, .bool true, ?_⟩
          simp +contextual only [w_i_isText_1, hi, hb, h1, h2, h3, decide_true, go_sem, entry, joinEsc, if_pos, reduceIte, Nat.reduceAdd, Nat.reduceLeDiff, Nat.reduceLT, Nat.reduceEqDiff]
        | false =>
          refine ⟨z2, z4, z5, z6, ?_⟩
          simp +contextual only [w_i_isText_1, hi, hb, h1, h2, h3, wrap_succ (show i < 9223372036854775807 by omega), decide_true, go_sem, entry, joinEsc, if_pos, reduceIte, Nat.reduceAdd, Nat.reduceLeDiff, Nat.reduceLT, Nat.reduceEqDiff]
          exact ih

theorem e_i_isText {s : ByteArray} (hn : s.data.toList.length ≤ 9223372036854775806) : call T pr f_i_isText [.str s] ⟨H, e⟩ = some (.bool (textOk s), ⟨H, e⟩) := by
  obtain ⟨z2, z4, z5, z6, hl⟩ := loop_i_isText (pr := pr) (H := H) (e := none) hn s.data.toList.length 0 .undef .undef .undef rfl
  have h0 : ((0 : Nat) : Int) = 0 := rfl
  rw [h0, List.drop_zero, str_len] at hl
  rw [call_eq t_i_isText]
  unfold textOk
  cases h1 : s.data.toList.all okB <;> rw [h1] at hl <;> simp +contextual only [a_i_isText, c_i_isText, hl, go_sem, entry, joinEsc, if_pos, reduceIte, Nat.reduceAdd, Nat.reduceLeDiff, Nat.reduceLT, Nat.reduceEqDiff]

theorem u8_lt (b : UInt8) : b.toNat < 256 := b.toNat_lt

theorem loop_s_l12Bytes {s : ByteArray} {x : AV} (hn : s.data.toList.length ≤ 9223372036854775806) :
    ∀ (k i : Nat) (y4 y5 : AV), k + i = s.data.toList.length → ∃ (z3 z4 z5 : AV), run T pr (.loop w_s_l12Bytes_1) ⟨[.str s, x, .bool false, .int .i64 i, y4, y5], ⟨H, e⟩⟩ =
      some (if (s.data.toList.drop i).all okB = true then Ex.exit 0 else Ex.ret, ⟨[.str s, x, .bool false, z3, z4, z5], ⟨H, e⟩⟩)
  | 0, i, y4, y5, hk => by
    have hi : i = s.data.toList.length := by omega
    subst hi
    refine ⟨.int .i64 s.data.toList.length, .bool false, y5, ?_⟩
    rw [run_loop, List.drop_length, str_len]
    generalize run T pr (.loop w_s_l12Bytes_1) = R
    simp +contextual only [w_s_l12Bytes_1, Nat.lt_irrefl, decide_false, List.all_nil, go_sem, entry, joinEsc, if_pos, reduceIte, Nat.reduceAdd, Nat.reduceLeDiff, Nat.reduceLT, Nat.reduceEqDiff]
  | k + 1, i, y4, y5, hk => by
    have hi : i < s.data.toList.length := by omega
    have hi' : i < s.size := hi
    have hb := str_get hi
    rw [run_loop, List.drop_eq_getElem_cons hi, List.all_cons]
    obtain ⟨z3, z4, z5, ih⟩ := loop_s_l12Bytes (x := x) hn k (i + 1) (.bool true) (.bool false) (by omega)
    generalize s.data.toList[i] = b at hb ⊢
    generalize run T pr (.loop w_s_l12Bytes_1) = R at ih ⊢
    have hlt := u8_lt b
    have hw : IntKind.i64.wrap (b.toNat : Int) = (b.toNat : Int) := wrap64 (by omega) (by omega)
    have hin : (decide ((32 : Int) ≤ (b.toNat : Int)) && decide ((b.toNat : Int) ≤ 126)) = !(decide ((b.toNat : Int) < 32) || decide (126 < (b.toNat : Int))) := by
      rw [Bool.eq_iff_iff]
      simp
    unfold okB
    cases h1 : (decide ((b.toNat : Int) < 32) || decide (126 < (b.toNat : Int))) with
    | true =>
      rw [h1] at hin
      refine ⟨.int .i64 i, .bool true, .bool true, ?_⟩
      simp +contextual only [w_s_l12Bytes_1, hi', hb, hw, e_s_l1In, hin, decide_true, go_sem, entry, joinEsc, if_pos, reduceIte, Nat.reduceAdd, Nat.reduceLeDiff, Nat.reduceLT, Nat.reduceEqDiff]
    | false =>
      rw [h1] at hin
      have hin1 : decide ((32 : Int) ≤ (b.toNat : Int)) = true := (Bool.and_eq_true_iff.mp hin).1
      have hin2 : decide ((b.toNat : Int) ≤ 126) = true := (Bool.and_eq_true_iff.mp hin).2
      cases h3 : decide ((b.toNat : Int) = 35) with
      | true =>
        refine ⟨.int .i64 i, .bool true, .bool true, ?_⟩
        simp +contextual only [w_s_l12Bytes_1, hi', hb, hw, e_s_l1In, hin1, hin2, h3, decide_true, go_sem, entry, joinEsc, if_pos, reduceIte, Nat.reduceAdd, Nat.reduceLeDiff, Nat.reduceLT, Nat.reduceEqDiff]
      | false =>
        refine ⟨z3, z4, z5, ?_⟩
        simp +contextual only [w_s_l12Bytes_1, hi', hb, hw, e_s_l1In, hin1, hin2, h3, wrap_succ (show i < 9223372036854775807 by omega), decide_true, go_sem, entry, joinEsc, if_pos, reduceIte, Nat.reduceAdd, Nat.reduceLeDiff, Nat.reduceLT, Nat.reduceEqDiff]
        exact ih

theorem e_s_l12Bytes {s : ByteArray} (hn : s.data.toList.length ≤ 9223372036854775806) (x : Int) : call T pr f_s_l12Bytes [.str s, .int .i64 x] ⟨H, e⟩ = some (.bool (textOk s && decide ((s.size : Int) ≤ x)), ⟨H, e⟩) := by
  obtain ⟨z3, z4, z5, hl⟩ := loop_s_l12Bytes (pr := pr) (H := H) (e := none) (x := .int .i64 x) hn s.data.toList.length 0 .undef .undef rfl
  have h0 : ((0 : Nat) : Int) = 0 := rfl
  rw [h0, List.drop_zero] at hl
  rw [call_eq t_s_l12Bytes]
  unfold textOk
  cases h1 : s.data.toList.all okB <;> rw [h1] at hl <;> simp +contextual only [a_s_l12Bytes, c_s_l12Bytes, hl, go_sem, entry, joinEsc, if_pos, reduceIte, Nat.reduceAdd, Nat.reduceLeDiff, Nat.reduceLT, Nat.reduceEqDiff]

theorem loop_s_l1Stands {s : ByteArray} {c : Int} (hn : s.data.toList.length ≤ 9223372036854775806) :
    ∀ (k i : Nat) (y4 y5 : AV), k + i = s.data.toList.length → ∃ (z3 z4 z5 : AV), run T pr (.loop w_s_l1Stands_1) ⟨[.str s, .int .u8 c, .bool false, .int .i64 i, y4, y5], ⟨H, e⟩⟩ =
      some (if ((s.data.toList.drop i).any fun b => decide ((b.toNat : Int) = c)) = true then Ex.ret else Ex.exit 0, ⟨[.str s, .int .u8 c, .bool ((s.data.toList.drop i).any fun b => decide ((b.toNat : Int) = c)), z3, z4, z5], ⟨H, e⟩⟩)
  | 0, i, y4, y5, hk => by
    have hi : i = s.data.toList.length := by omega
    subst hi
    refine ⟨.int .i64 s.data.toList.length, .bool false, y5, ?_⟩
    rw [run_loop, List.drop_length, str_len]
    generalize run T pr (.loop w_s_l1Stands_1) = R
    simp +contextual only [w_s_l1Stands_1, Nat.lt_irrefl, decide_false, List.any_nil, go_sem, entry, joinEsc, if_pos, reduceIte, Nat.reduceAdd, Nat.reduceLeDiff, Nat.reduceLT, Nat.reduceEqDiff]
  | k + 1, i, y4, y5, hk => by
    have hi : i < s.data.toList.length := by omega
    have hi' : i < s.size := hi
    have hb := str_get hi
    rw [run_loop, List.drop_eq_getElem_cons hi, List.any_cons]
    obtain ⟨z3, z4, z5, ih⟩ := loop_s_l1Stands (c := c) hn k (i + 1) (.bool true) (.bool false) (by omega)
    generalize s.data.toList[i] = b at hb ⊢
    generalize run T pr (.loop w_s_l1Stands_1) = R at ih ⊢
    cases h1 : decide ((b.toNat : Int) = c) with
    | true =>
      refine ⟨.int .i64 i, .bool true, .bool true, ?_⟩
      simp +contextual only [w_s_l1Stands_1, hi', hb, h1, decide_true, go_sem, entry, joinEsc, if_pos, reduceIte, Nat.reduceAdd, Nat.reduceLeDiff, Nat.reduceLT, Nat.reduceEqDiff]
    | false =>
      refine ⟨z3, z4, z5, ?_⟩
      simp +contextual only [w_s_l1Stands_1, hi', hb, h1, wrap_succ (show i < 9223372036854775807 by omega), decide_true, go_sem, entry, joinEsc, if_pos, reduceIte, Nat.reduceAdd, Nat.reduceLeDiff, Nat.reduceLT, Nat.reduceEqDiff]
      exact ih

theorem e_s_l1Stands {s : ByteArray} (hn : s.data.toList.length ≤ 9223372036854775806) (c : Int) : call T pr f_s_l1Stands [.str s, .int .u8 c] ⟨H, e⟩ = some (.bool (hasB s c), ⟨H, e⟩) := by
  obtain ⟨z3, z4, z5, hl⟩ := loop_s_l1Stands (pr := pr) (H := H) (e := none) (c := c) hn s.data.toList.length 0 .undef .undef rfl
  have h0 : ((0 : Nat) : Int) = 0 := rfl
  rw [h0, List.drop_zero] at hl
  rw [call_eq t_s_l1Stands]
  unfold hasB
  cases h1 : (s.data.toList.any fun b => decide ((b.toNat : Int) = c)) <;> rw [h1] at hl <;> simp +contextual only [a_s_l1Stands, c_s_l1Stands, hl, go_sem, entry, joinEsc, if_pos, reduceIte, Nat.reduceAdd, Nat.reduceLeDiff, Nat.reduceLT, Nat.reduceEqDiff]

theorem index_has (l : List UInt8) (c : UInt8) : decide (0 ≤ Lib.indexByte l c) = l.any fun b => decide ((b.toNat : Int) = (c.toNat : Int)) := by
  induction l with
  | nil => rfl
  | cons b l ih =>
    have hge := Lib.indexByte_ge l c
    rw [List.any_cons, Lib.indexByte]
    by_cases h : b = c
    · subst h
      simp
    · have h1 : (b == c) = false := by simpa using h
      have h2 : ¬ (b.toNat : Int) = (c.toNat : Int) := fun e => h (UInt8.toNat_inj.mp (by omega))
      rw [h1, decide_eq_false h2, Bool.false_or, ← ih]
      by_cases h3 : Lib.indexByte l c = -1
      · simp [h3]
      · have h4 : (Lib.indexByte l c == -1) = false := by simpa using h3
        rw [h4]
        simp only [Bool.false_eq_true, if_false]
        exact decide_eq_decide.mpr (by omega)

/-- strings.Contains, at one byte -/
def HasContains (pr : Prims) : Prop := ∀ (s : ByteArray) (c : UInt8) (m : Mem), call T pr f_strings_Contains [.str s, .str ⟨#[c]⟩] m = some (.bool (decide (0 ≤ Lib.indexByte s.data.toList c)), m)

abbrev rcV (s t : ByteArray) : AV := .agg [.str s, .str t]

def recOk (s t : ByteArray) : Bool := ((decide ((1 : Int) ≤ (s.size : Int)) && decide ((s.size : Int) ≤ 160)) && decide ((t.size : Int) ≤ 250)) && (textOk s && (textOk t && !hasB s 64))

theorem e_i_IsValidRecord (hp : HasContains pr) {s t : ByteArray} (hs : s.data.toList.length ≤ 9223372036854775806) (ht : t.data.toList.length ≤ 9223372036854775806) : call T pr f_i_IsValidRecord [rcV s t] ⟨H, e⟩ = some (.bool (recOk s t), ⟨H, e⟩) := by
  have hc : ∀ m, call T pr f_strings_Contains [.str s, .str ⟨#[64]⟩] m = some (.bool (hasB s 64), m) := fun m => by
    rw [hp s 64 m, index_has]
    rfl
  rw [call_eq t_i_IsValidRecord]
  unfold recOk
  cases h1 : (decide ((1 : Int) ≤ (s.size : Int)) && decide ((s.size : Int) ≤ 160)) with
  | false => simp +contextual only [a_i_IsValidRecord, c_i_IsValidRecord, e_i_within, h1, go_sem, entry, joinEsc, if_pos, reduceIte, Nat.reduceAdd, Nat.reduceLeDiff, Nat.reduceLT, Nat.reduceEqDiff]
  | true =>
    cases h2 : decide ((t.size : Int) ≤ 250) with
    | false => simp +contextual only [a_i_IsValidRecord, c_i_IsValidRecord, e_i_within, h1, h2, go_sem, entry, joinEsc, if_pos, reduceIte, Nat.reduceAdd, Nat.reduceLeDiff, Nat.reduceLT, Nat.reduceEqDiff]
    | true =>
      cases h3 : textOk s with
      | false => simp +contextual only [a_i_IsValidRecord, c_i_IsValidRecord, e_i_within, e_i_isText hs, h1, h2, h3, go_sem, entry, joinEsc, if_pos, reduceIte, Nat.reduceAdd, Nat.reduceLeDiff, Nat.reduceLT, Nat.reduceEqDiff]
      | true =>
        cases h4 : textOk t with
        | false => simp +contextual only [a_i_IsValidRecord, c_i_IsValidRecord, e_i_within, e_i_isText hs, e_i_isText ht, h1, h2, h3, h4, go_sem, entry, joinEsc, if_pos, reduceIte, Nat.reduceAdd, Nat.reduceLeDiff, Nat.reduceLT, Nat.reduceEqDiff]
        | true => simp +contextual only [a_i_IsValidRecord, c_i_IsValidRecord, e_i_within, e_i_isText hs, e_i_isText ht, hc, h1, h2, h3, h4, go_sem, entry, joinEsc, if_pos, reduceIte, Nat.reduceAdd, Nat.reduceLeDiff, Nat.reduceLT, Nat.reduceEqDiff]

theorem str_none (s : ByteArray) : (!decide (s = ⟨#[]⟩)) = decide ((1 : Int) ≤ (s.size : Int)) := by
  have h : s = ⟨#[]⟩ ↔ s.size = 0 := by
    constructor
    · rintro rfl; rfl
    · intro h
      have h1 : s.data.size = 0 := h
      have h2 : s.data = #[] := Array.eq_empty_of_size_eq_zero h1
      cases s
      simp at h2
      rw [h2]
  rw [← decide_not]
  exact decide_eq_decide.mpr (by rw [h]; omega)

theorem e_s_IsValidRecord {s t : ByteArray} (hs : s.data.toList.length ≤ 9223372036854775806) (ht : t.data.toList.length ≤ 9223372036854775806) : call T pr f_s_IsValidRecord [rcV s t] ⟨H, e⟩ = some (.bool (recOk s t), ⟨H, e⟩) := by
  have hr : ∀ L, call T pr f_s_l12Record [rcV s t] ⟨L, none⟩ = some (.bool (recOk s t), ⟨L, none⟩) := by
    intro L
    rw [call_eq t_s_l12Record]
    unfold recOk
    have hn := str_none s
    cases h1 : decide ((1 : Int) ≤ (s.size : Int)) with
    | false =>
      rw [h1] at hn
      have hn' : decide (s = ⟨#[]⟩) = true := by simpa using hn
      simp +contextual only [a_s_l12Record, c_s_l12Record, hn', h1, go_sem, entry, joinEsc, if_pos, reduceIte, Nat.reduceAdd, Nat.reduceLeDiff, Nat.reduceLT, Nat.reduceEqDiff]
    | true =>
      rw [h1] at hn
      have hn' : decide (s = ⟨#[]⟩) = false := by simpa using hn
      cases h3 : textOk s with
      | false => simp +contextual only [a_s_l12Record, c_s_l12Record, hn', h1, e_s_l12Bytes hs, h3, Bool.and_false, go_sem, entry, joinEsc, if_pos, reduceIte, Nat.reduceAdd, Nat.reduceLeDiff, Nat.reduceLT, Nat.reduceEqDiff]
      | true =>
        cases h5 : decide ((s.size : Int) ≤ 160) with
        | false => simp +contextual only [a_s_l12Record, c_s_l12Record, hn', h1, e_s_l12Bytes hs, h3, h5, Bool.and_false, go_sem, entry, joinEsc, if_pos, reduceIte, Nat.reduceAdd, Nat.reduceLeDiff, Nat.reduceLT, Nat.reduceEqDiff]
        | true =>
          cases h6 : hasB s 64 with
          | true => simp +contextual only [a_s_l12Record, c_s_l12Record, hn', h1, e_s_l12Bytes hs, e_s_l1Stands hs, h3, h5, h6, Bool.and_false, go_sem, entry, joinEsc, if_pos, reduceIte, Nat.reduceAdd, Nat.reduceLeDiff, Nat.reduceLT, Nat.reduceEqDiff]
          | false =>
            cases h4 : textOk t <;> cases h2 : decide ((t.size : Int) ≤ 250) <;> simp +contextual only [a_s_l12Record, c_s_l12Record, hn', h1, e_s_l12Bytes hs, e_s_l12Bytes ht, e_s_l1Stands hs, h2, h3, h4, h5, h6, Bool.and_false, go_sem, entry, joinEsc, if_pos, reduceIte, Nat.reduceAdd, Nat.reduceLeDiff, Nat.reduceLT, Nat.reduceEqDiff]
  rw [call_eq t_s_IsValidRecord]
  simp +contextual only [a_s_IsValidRecord, c_s_IsValidRecord, hr, go_sem, entry, joinEsc, if_pos, reduceIte, Nat.reduceAdd, Nat.reduceLeDiff, Nat.reduceLT, Nat.reduceEqDiff]

theorem e_l_toLogRecord (s t : ByteArray) : call T pr f_l_toLogRecord [rcV s t] ⟨H, e⟩ = some (rcV s t, ⟨H, e⟩) := by
  rw [call_eq t_l_toLogRecord]
  simp +contextual only [a_l_toLogRecord, c_l_toLogRecord, go_sem, entry, joinEsc, if_pos, reduceIte, Nat.reduceAdd, Nat.reduceLeDiff, Nat.reduceLT, Nat.reduceEqDiff]

theorem e_l_szLogRecord {s t : ByteArray} (hs : s.size ≤ maxLen) (ht : t.size ≤ maxLen) : call T pr f_l_szLogRecord [rcV s t, .int .i64 1048576] ⟨H, e⟩ = some (.int .i64 (if s.size + t.size ≤ 1048576 then 1048576 - ((s.size + t.size : Nat) : Int) else -1), ⟨H, e⟩) := by
  rw [call_eq t_l_szLogRecord]
  have hm : maxLen = 9223372036854775807 := by decide
  have w1 : IntKind.i64.wrap (1048576 - (s.size : Int)) = 1048576 - (s.size : Int) := wrap64 (by omega) (by omega)
  by_cases h1 : s.size ≤ 1048576
  · have h2 : ¬ (1048576 - (s.size : Int) < 0) := by omega
    have w2 : IntKind.i64.wrap (1048576 - (s.size : Int) - (t.size : Int)) = 1048576 - ((s.size + t.size : Nat) : Int) := by
      rw [show 1048576 - (s.size : Int) - (t.size : Int) = 1048576 - ((s.size + t.size : Nat) : Int) by omega]
      exact wrap64 (by omega) (by omega)
    by_cases h3 : s.size + t.size ≤ 1048576
    · have h4 : ¬ (1048576 - ((s.size + t.size : Nat) : Int) < 0) := by omega
      simp +contextual only [a_l_szLogRecord, c_l_szLogRecord, w1, w2, h2, h3, h4, decide_false, go_sem, entry, joinEsc, if_pos, reduceIte, Nat.reduceAdd, Nat.reduceLeDiff, Nat.reduceLT, Nat.reduceEqDiff]
    · have h4 : 1048576 - ((s.size + t.size : Nat) : Int) < 0 := by omega
      simp +contextual only [a_l_szLogRecord, c_l_szLogRecord, w1, w2, h2, h3, h4, decide_true, decide_false, go_sem, entry, joinEsc, if_pos, reduceIte, Nat.reduceAdd, Nat.reduceLeDiff, Nat.reduceLT, Nat.reduceEqDiff]
  · have h2 : 1048576 - (s.size : Int) < 0 := by omega
    have h3 : ¬ (s.size + t.size ≤ 1048576) := by omega
    simp +contextual only [a_l_szLogRecord, c_l_szLogRecord, w1, h2, h3, decide_true, go_sem, entry, joinEsc, if_pos, reduceIte, Nat.reduceAdd, Nat.reduceLeDiff, Nat.reduceLT, Nat.reduceEqDiff]

end Go.Proofs.YtdohjcodjjogbaaDoor.Slim

/- The slim machine: walking by what holds at the end; loops by invariants. -/
namespace Go.Proofs.YtdohjcodjjogbaaDoor.Slim
open Go
set_option linter.unusedVariables false
set_option linter.unusedSimpArgs false

section
variable {T : Table} {pr : Prims} {H : List Blk} {e : Option Nat}

/-- code comes to an end, of which this holds -/
def Wp (r : Option (Ex × St)) (Q : Ex → St → Prop) : Prop := ∃ ex st, r = some (ex, st) ∧ Q ex st
/-- a call (or an operation) comes to an end, of which this holds -/
def Wc (r : Option (AV × Mem)) (Q : AV → Mem → Prop) : Prop := ∃ v m, r = some (v, m) ∧ Q v m

theorem Wp.mono {r : Option (Ex × St)} {P Q : Ex → St → Prop} (h : Wp r P) (k : ∀ ex st, P ex st → Q ex st) : Wp r Q := by
  obtain ⟨ex, st, h1, h2⟩ := h
  exact ⟨ex, st, h1, k _ _ h2⟩
theorem Wc.mono {r : Option (AV × Mem)} {P Q : AV → Mem → Prop} (h : Wc r P) (k : ∀ v m, P v m → Q v m) : Wc r Q := by
  obtain ⟨v, m, h1, h2⟩ := h
  exact ⟨v, m, h1, k _ _ h2⟩
theorem Wc.eq {r : Option (AV × Mem)} {v : AV} {m : Mem} (h : Wc r fun v' m' => v' = v ∧ m' = m) : r = some (v, m) := by
  obtain ⟨_, _, h1, rfl, rfl⟩ := h
  exact h1
theorem Wc.of_eq {r : Option (AV × Mem)} {v : AV} {m : Mem} {Q : AV → Mem → Prop} (h : r = some (v, m)) (k : Q v m) : Wc r Q := ⟨v, m, h, k⟩

@[congr] theorem Wp_congr {r r' : Option (Ex × St)} {Q : Ex → St → Prop} (h : r = r') : Wp r Q = Wp r' Q := by rw [h]
@[congr] theorem Wc_congr {r r' : Option (AV × Mem)} {Q : AV → Mem → Prop} (h : r = r') : Wc r Q = Wc r' Q := by rw [h]

theorem Wp_some (ex : Ex) (st : St) (Q : Ex → St → Prop) : Wp (some (ex, st)) Q = Q ex st := by
  apply propext
  constructor
  · rintro ⟨_, _, h1, h2⟩; cases h1; exact h2
  · exact fun h => ⟨_, _, rfl, h⟩
theorem Wp_none (Q : Ex → St → Prop) : Wp none Q = False := by
  apply propext
  constructor
  · rintro ⟨_, _, h1, _⟩; cases h1
  · exact False.elim
theorem Wp_ite (c : Prop) [Decidable c] (a b : Option (Ex × St)) (Q : Ex → St → Prop) : Wp (if c then a else b) Q = ((c → Wp a Q) ∧ (¬ c → Wp b Q)) := by
  by_cases h : c <;> simp [h]
theorem Wc_some (v : AV) (m : Mem) (Q : AV → Mem → Prop) : Wc (some (v, m)) Q = Q v m := by
  apply propext
  constructor
  · rintro ⟨_, _, h1, h2⟩; cases h1; exact h2
  · exact fun h => ⟨_, _, rfl, h⟩
theorem Wc_none (Q : AV → Mem → Prop) : Wc none Q = False := by
  apply propext
  constructor
  · rintro ⟨_, _, h1, _⟩; cases h1
  · exact False.elim
theorem Wc_ite (c : Prop) [Decidable c] (a b : Option (AV × Mem)) (Q : AV → Mem → Prop) : Wc (if c then a else b) Q = ((c → Wc a Q) ∧ (¬ c → Wc b Q)) := by
  by_cases h : c <;> simp [h]

def seqQ (f : St → Option (Ex × St)) (Q : Ex → St → Prop) : Ex → St → Prop
  | .normal, st => Wp (f st) Q
  | ex, st => Q ex st
theorem seqQ_normal (f : St → Option (Ex × St)) (Q : Ex → St → Prop) (st : St) : seqQ f Q .normal st = Wp (f st) Q := Eq.trans rfl rfl
theorem seqQ_exit (f : St → Option (Ex × St)) (Q : Ex → St → Prop) (k : Nat) (st : St) : seqQ f Q (.exit k) st = Q (.exit k) st := Eq.trans rfl rfl
theorem seqQ_ret (f : St → Option (Ex × St)) (Q : Ex → St → Prop) (st : St) : seqQ f Q .ret st = Q .ret st := Eq.trans rfl rfl
theorem Wp_thenRun (r : Option (Ex × St)) (f : St → Option (Ex × St)) (Q : Ex → St → Prop) : Wp (thenRun r f) Q = Wp r (seqQ f Q) := by
  cases r with
  | none => simp only [thenRun_none, Wp_none]
  | some p =>
    obtain ⟨ex, st⟩ := p
    cases ex <;> simp only [thenRun_normal, thenRun_ret, thenRun_exit, Wp_some, seqQ]

def blkQ (id : Nat) (Q : Ex → St → Prop) : Ex → St → Prop
  | .exit k, st => if k = id then Q .normal st else Q (.exit k) st
  | ex, st => Q ex st
theorem blkQ_normal (id : Nat) (Q : Ex → St → Prop) (st : St) : blkQ id Q .normal st = Q .normal st := Eq.trans rfl rfl
theorem blkQ_ret (id : Nat) (Q : Ex → St → Prop) (st : St) : blkQ id Q .ret st = Q .ret st := Eq.trans rfl rfl
theorem blkQ_same (id : Nat) (Q : Ex → St → Prop) (st : St) : blkQ id Q (.exit id) st = Q .normal st := by simp [blkQ]
theorem blkQ_exit (id k : Nat) (Q : Ex → St → Prop) (st : St) : blkQ id Q (.exit k) st = if k = id then Q .normal st else Q (.exit k) st := Eq.trans rfl rfl
theorem Wp_inBlock (id : Nat) (r : Option (Ex × St)) (Q : Ex → St → Prop) : Wp (inBlock id r) Q = Wp r (blkQ id Q) := by
  cases r with
  | none => simp only [inBlock_none, Wp_none]
  | some p =>
    obtain ⟨ex, st⟩ := p
    cases ex with
    | normal => simp only [inBlock_normal, Wp_some, blkQ]
    | ret => simp only [inBlock_ret, Wp_some, blkQ]
    | exit k => by_cases h : k = id <;> simp only [inBlock_exit, h, if_true, if_false, Wp_some, blkQ]

/-- behind a region's operation -/
def opQ (tm : List AV) (outs : List (Nat × Nat)) (f : AV → Mem → Option (List AV × Mem)) (Q : Ex → St → Prop) : AV → Mem → Prop := fun v m => Wp (outRun tm outs (f v m)) Q
theorem opQ_at (tm : List AV) (outs : List (Nat × Nat)) (f : AV → Mem → Option (List AV × Mem)) (Q : Ex → St → Prop) (v : AV) (m : Mem) : opQ tm outs f Q v m = Wp (outRun tm outs (f v m)) Q := Eq.trans rfl rfl
theorem Wp_opThen (tm : List AV) (outs : List (Nat × Nat)) (r : Option (AV × Mem)) (f : AV → Mem → Option (List AV × Mem)) (Q : Ex → St → Prop) :
    Wp (outRun tm outs (opThen r f)) Q = Wc r (opQ tm outs f Q) := by
  cases r with
  | none => simp only [opThen_none, outRun_none, Wp_none, Wc_none]
  | some p =>
    obtain ⟨v, m⟩ := p
    simp only [opThen_some, Wc_some, opQ]

/-- behind a guarded operation -/
theorem Wp_guardP (tm : List AV) (outs : List (Nat × Nat)) (p : Prop) [Decidable p] (r : Option (AV × Mem)) (m : Mem) (f : AV → Mem → Option (List AV × Mem)) (Q : Ex → St → Prop) :
    Wp (outRun tm outs (guardP p r m f)) Q = ((p → Wc r (opQ tm outs f Q)) ∧ (¬ p → Wp (outRun tm outs (f (.tup []) m)) Q)) := by
  by_cases h : p
  · simp only [h, guardP_true, Wp_opThen, true_imp_iff, not_true_eq_false, false_imp_iff, and_true]
  · simp only [h, guardP_false, not_false_eq_true, true_imp_iff, false_imp_iff, true_and]

/-- behind a call's code -/
def retQ (F : AFun) (m : Mem) (Q : AV → Mem → Prop) : Ex → St → Prop
  | .exit _, _ => False
  | _, st => Wc (finRun F m st) Q
theorem retQ_normal (F : AFun) (m : Mem) (Q : AV → Mem → Prop) (st : St) : retQ F m Q .normal st = Wc (finRun F m st) Q := Eq.trans rfl rfl
theorem retQ_ret (F : AFun) (m : Mem) (Q : AV → Mem → Prop) (st : St) : retQ F m Q .ret st = Wc (finRun F m st) Q := Eq.trans rfl rfl
theorem Wc_endCall (F : AFun) (m : Mem) (r : Option (Ex × St)) (Q : AV → Mem → Prop) : Wc (endCall F m r) Q = Wp r (retQ F m Q) := by
  cases r with
  | none => simp only [endCall_none, Wc_none, Wp_none]
  | some p =>
    obtain ⟨ex, st⟩ := p
    cases ex <;> simp only [endCall_normal, endCall_ret, endCall_exit, Wc_none, Wp_some, retQ]

theorem call_wc {f : FuncId} {F : AFun} (h : T f = some F) (args : List AV) (m : Mem) (Q : AV → Mem → Prop) : Wc (call T pr f args m) Q = Wp (run T pr F.code ⟨entry F args, { m with esc := none }⟩) (retQ F m Q) := by
  rw [call_eq h, Wc_endCall]

/-! loops -/
/-- what a loop's round must bring -/
abbrev Holds (I : St → Prop) (st : St) : Prop := I st
@[congr] theorem Holds_congr {I : St → Prop} {st st' : St} (h : st = st') : Holds I st = Holds I st' := by rw [h]
def loopQ (I : St → Prop) (Q : Ex → St → Prop) : Ex → St → Prop
  | .normal, st => Holds I st
  | ex, st => Q ex st
theorem loopQ_normal (I : St → Prop) (Q : Ex → St → Prop) (st : St) : loopQ I Q .normal st = Holds I st := Eq.trans rfl rfl
theorem loopQ_exit (I : St → Prop) (Q : Ex → St → Prop) (k : Nat) (st : St) : loopQ I Q (.exit k) st = Q (.exit k) st := Eq.trans rfl rfl
theorem loopQ_ret (I : St → Prop) (Q : Ex → St → Prop) (st : St) : loopQ I Q .ret st = Q .ret st := Eq.trans rfl rfl

theorem Wp_loop {b : ACode} {Q : Ex → St → Prop} (I : Nat → St → Prop) (hs : ∀ k st, I k st → Wp (run T pr b st) (loopQ (fun st' => ∃ j, j < k ∧ I j st') Q)) :
    ∀ (n : Nat) (st : St), I n st → Wp (run T pr (.loop b) st) Q := by
  intro n
  induction n using Nat.strongRecOn with
  | _ n ih =>
    intro st h
    rw [run_loop, Wp_thenRun]
    refine (hs n st h).mono fun ex st' h' => ?_
    cases ex with
    | normal =>
      obtain ⟨j, hj, hI⟩ := h'
      exact ih j hj st' hI
    | exit k => exact h'
    | ret => exact h'

/-! the end of a call that keeps what its result names -/
theorem roots_slice_new (sz n o k : Nat) (c : Option Nat) : AV.roots H.length (.slice (some (H.length + k, o)) sz n c) = [H.length + k] := by simp [AV.roots]
theorem roots_slice_new0 (sz n o : Nat) (c : Option Nat) : AV.roots H.length (.slice (some (H.length, o)) sz n c) = [H.length] := by simp [AV.roots]
theorem roots_slice_none (lim sz n : Nat) (c : Option Nat) : AV.roots lim (.slice none sz n c) = [] := by simp [AV.roots]
theorem roots_slice_old {lim b : Nat} (sz n o : Nat) (c : Option Nat) (h : b < lim) : AV.roots lim (.slice (some (b, o)) sz n c) = [] := by simp [AV.roots, h]
theorem roots_ptr_new (o k : Nat) : AV.roots H.length (.ptr (some (H.length + k, o))) = [H.length + k] := by simp [AV.roots]
theorem roots_ptr_new0 (o : Nat) : AV.roots H.length (.ptr (some (H.length, o))) = [H.length] := by simp [AV.roots]
theorem roots_int (lim : Nat) (k : IntKind) (x : Int) : AV.roots lim (.int k x) = [] := by simp [AV.roots]
theorem roots_bool (lim : Nat) (x : Bool) : AV.roots lim (.bool x) = [] := by simp [AV.roots]
theorem roots_str (lim : Nat) (x : ByteArray) : AV.roots lim (.str x) = [] := by simp [AV.roots]
theorem roots_agg (lim : Nat) (cs : List AV) : AV.roots lim (.agg cs) = AV.roots.go lim cs := by simp [AV.roots]
theorem roots_tup (lim : Nat) (cs : List AV) : AV.roots lim (.tup cs) = AV.roots.go lim cs := by simp [AV.roots]
theorem roots_cons (lim : Nat) (c : AV) (cs : List AV) : AV.roots.go lim (c :: cs) = AV.roots lim c ++ AV.roots.go lim cs := by simp [AV.roots.go]
theorem roots_nil (lim : Nat) : AV.roots.go lim [] = [] := by simp [AV.roots.go]
theorem rename_slice (f : Nat → Nat) (b o sz n : Nat) (c : Option Nat) : AV.rename f (.slice (some (b, o)) sz n c) = .slice (some (f b, o)) sz n c := by simp [AV.rename]
theorem rename_slice_none (f : Nat → Nat) (sz n : Nat) (c : Option Nat) : AV.rename f (.slice none sz n c) = .slice none sz n c := by simp [AV.rename]
theorem rename_ptr (f : Nat → Nat) (b o : Nat) : AV.rename f (.ptr (some (b, o))) = .ptr (some (f b, o)) := by simp [AV.rename]
theorem rename_int (f : Nat → Nat) (k : IntKind) (x : Int) : AV.rename f (.int k x) = .int k x := by simp [AV.rename]
theorem rename_bool (f : Nat → Nat) (x : Bool) : AV.rename f (.bool x) = .bool x := by simp [AV.rename]
theorem rename_str (f : Nat → Nat) (x : ByteArray) : AV.rename f (.str x) = .str x := by simp [AV.rename]
theorem rename_agg (f : Nat → Nat) (cs : List AV) : AV.rename f (.agg cs) = .agg (AV.rename.go f cs) := by simp [AV.rename]
theorem rename_tup (f : Nat → Nat) (cs : List AV) : AV.rename f (.tup cs) = .tup (AV.rename.go f cs) := by simp [AV.rename]
theorem rename_cons (f : Nat → Nat) (c : AV) (cs : List AV) : AV.rename.go f (c :: cs) = AV.rename f c :: AV.rename.go f cs := by simp [AV.rename.go]
theorem rename_nil (f : Nat → Nat) : AV.rename.go f [] = [] := by simp [AV.rename.go]

def keepBlks (L : List Blk) (rs : List Nat) : List Blk := rs.map fun b => (L[b]?).getD .dead
theorem keepBlks_nil (L : List Blk) : keepBlks L [] = [] := Eq.trans rfl rfl
theorem keepBlks_cons (L : List Blk) (b : Nat) (rs : List Nat) : keepBlks L (b :: rs) = (L[b]?).getD .dead :: keepBlks L rs := Eq.trans rfl rfl
def flatAll (lim : Nat) (L : List Blk) (rs : List Nat) : Bool := rs.all fun b => flatBlk lim L[b]?
theorem flatAll_nil (lim : Nat) (L : List Blk) : flatAll lim L [] = true := Eq.trans rfl rfl
theorem flatAll_cons (lim : Nat) (L : List Blk) (b : Nat) (rs : List Nat) : flatAll lim L (b :: rs) = (flatBlk lim L[b]? && flatAll lim L rs) := Eq.trans rfl rfl
theorem flatBlk_cells (lim : Nat) (cs : List AV) (w : Bool) : flatBlk lim (some (.cells cs w)) = cs.all fun c => c.under lim := Eq.trans rfl rfl
theorem finish_two_eq (G : List Blk) (e0 e1 : Option Nat) (v : AV) : finish 2 H.length e0 v ⟨H ++ G, e1⟩ =
    if clean H.length e1 = true ∧ flatAll H.length (H ++ G) (dedup (v.roots H.length)) = true then some (v.rename (renum H.length (dedup (v.roots H.length))), ⟨H ++ keepBlks (H ++ G) (dedup (v.roots H.length)), e0⟩) else none := by
  unfold finish keepBlks flatAll
  simp
theorem finish_two_eq0 (e0 e1 : Option Nat) (v : AV) : finish 2 H.length e0 v ⟨H, e1⟩ =
    if clean H.length e1 = true ∧ flatAll H.length H (dedup (v.roots H.length)) = true then some (v.rename (renum H.length (dedup (v.roots H.length))), ⟨H ++ keepBlks H (dedup (v.roots H.length)), e0⟩) else none := by
  unfold finish keepBlks flatAll
  simp
theorem finish_one_eq (G : List Blk) (e0 e1 : Option Nat) (v : AV) : finish 1 H.length e0 v ⟨H ++ G, e1⟩ = if v.under H.length = true ∧ clean H.length e1 = true then some (v, ⟨H, e0⟩) else none := by
  unfold finish
  simp
theorem finish_one_eq0 (e0 e1 : Option Nat) (v : AV) : finish 1 H.length e0 v ⟨H, e1⟩ = if v.under H.length = true ∧ clean H.length e1 = true then some (v, ⟨H, e0⟩) else none := by
  unfold finish
  simp
theorem dedup_nil : dedup [] = [] := Eq.trans rfl rfl
theorem dedup_one (b : Nat) : dedup [b] = [b] := Eq.trans rfl rfl
theorem dedup_two (a b : Nat) : dedup [a, b] = if a = b then [a] else [a, b] := by
  by_cases h : a = b
  · simp [dedup, h]
  · have : ¬ b = a := fun h' => h h'.symm
    simp [dedup, h, this]
theorem renum_old {lim b : Nat} (rs : List Nat) (h : b < lim) : renum lim rs b = b := by simp [renum, h]
theorem renum_one (k : Nat) : renum H.length [H.length + k] (H.length + k) = H.length := by
  have h1 : ¬ H.length + k < H.length := by omega
  simp only [renum, h1, if_false, List.idxOf_cons_self, Nat.add_zero]
theorem renum_one0 : renum H.length [H.length] H.length = H.length := by simp [renum]
theorem renum_two0 {a b : Nat} (h : H.length ≤ a) : renum H.length [a, b] a = H.length := by
  have h1 : ¬ a < H.length := by omega
  simp [renum, h1]
theorem renum_two1 {a b : Nat} (h : H.length ≤ b) (hne : a ≠ b) : renum H.length [a, b] b = H.length + 1 := by
  have h1 : ¬ b < H.length := by omega
  have h2 : (a == b) = false := by simpa using hne
  simp [renum, h1, h2, List.idxOf_cons]

theorem finV_wc (F : AFun) (m : Mem) (st : St) (Q : AV → Mem → Prop) : Wc (finRun F m st) Q = Wc (finV F m (resultList st.tm st.m.H F.results) st.m) Q := Eq.trans rfl rfl

theorem get_more {α : Type} {L : List α} {j : Nat} {b : α} (h : L[j]? = some b) (X : List α) : (L ++ X)[j]? = some b := by
  rw [List.getElem?_append_left (List.getElem?_eq_some_iff.mp h).1]; exact h
theorem cellsAt_of {L : List Blk} {j : Nat} {cs : List AV} {w : Bool} (h : L[j]? = some (.cells cs w)) : cellsAt L j = some cs := by
  unfold cellsAt; rw [h]

theorem clean_none' (n : Nat) : clean n none = true := Eq.trans rfl rfl
theorem clean_some (n k : Nat) : clean n (some k) = decide (n ≤ k) := Eq.trans rfl rfl
theorem clean_ite (c : Prop) [Decidable c] (n : Nat) (a b : Option Nat) : clean n (if c then a else b) = if c then clean n a else clean n b := by split <;> rfl
theorem minEsc_none (b : Nat) : minEsc none b = some b := Eq.trans rfl rfl
theorem minEsc_some (a b : Nat) : minEsc (some a) b = some (min a b) := Eq.trans rfl rfl
end

end Go.Proofs.YtdohjcodjjogbaaDoor.Slim

/- Rows of elements of some cells each; slices of tasks. -/
namespace Go.Proofs.YtdohjcodjjogbaaDoor.Slim

open Go

set_option linter.unusedSimpArgs false

set_option linter.unusedVariables false

variable {pr : Prims} {H : List Blk} {e : Option Nat}

/-- rows of elements, each of which lies in k cells -/
def encE {α : Type} (f : α → List AV) : List α → List AV
  | [] => []
  | x :: xs => f x ++ encE f xs

section

variable {α : Type} {f : α → List AV} {k : Nat}

theorem encE_append : ∀ a b : List α, encE f (a ++ b) = encE f a ++ encE f b
  | [], b => rfl
  | x :: a, b => by rw [List.cons_append, encE, encE, encE_append a b, List.append_assoc]

theorem encE_length (hf : ∀ x, (f x).length = k) : ∀ xs : List α, (encE f xs).length = xs.length * k
  | [] => by simp [encE]
  | x :: xs => by rw [encE, List.length_append, hf, encE_length hf xs, List.length_cons, Nat.add_mul, Nat.one_mul, Nat.add_comm]

theorem encE_drop (hf : ∀ x, (f x).length = k) : ∀ (xs : List α) (i : Nat), (encE f xs).drop (i * k) = encE f (xs.drop i)
  | xs, 0 => by rw [Nat.zero_mul, List.drop_zero, List.drop_zero]
  | [], i + 1 => by simp [encE]
  | x :: xs, i + 1 => by
    rw [encE, Nat.add_mul, Nat.one_mul, Nat.add_comm, ← hf x, List.drop_length_add_append, hf x, List.drop_succ_cons, encE_drop hf xs i]

theorem encE_take (hf : ∀ x, (f x).length = k) : ∀ (xs : List α) (i : Nat), (encE f xs).take (i * k) = encE f (xs.take i)
  | xs, 0 => by simp [encE]
  | [], i + 1 => by simp [encE]
  | x :: xs, i + 1 => by
    rw [encE, Nat.add_mul, Nat.one_mul, Nat.add_comm, ← hf x, List.take_length_add_append, hf x, List.take_succ_cons, encE, encE_take hf xs i]

theorem encE_at (hf : ∀ x, (f x).length = k) {xs : List α} {i : Nat} {x : α} (h : xs[i]? = some x) : ∃ ys, (encE f xs).drop (i * k) = f x ++ ys ∧ i * k + k ≤ (encE f xs).length := by
  have hi := (List.getElem?_eq_some_iff.mp h).1
  refine ⟨encE f (xs.drop (i + 1)), ?_, ?_⟩
  · rw [encE_drop hf, List.drop_eq_getElem_cons hi, encE]
    rw [List.getElem?_eq_getElem hi] at h
    rw [Option.some.inj h]
  · rw [encE_length hf]
    have : (i + 1) * k ≤ xs.length * k := Nat.mul_le_mul_right _ hi
    rw [Nat.add_mul, Nat.one_mul] at this
    exact this

theorem part_encE (hf : ∀ x, (f x).length = k) {xs : List α} {i : Nat} {x : α} (h : xs[i]? = some x) : part true (encE f xs) (i * k) k = some (.agg (f x)) := by
  obtain ⟨ys, h1, h2⟩ := encE_at hf h
  rw [part_true, if_pos h2, h1, ← hf x, List.take_left']
  rfl

theorem part_encEj (hf : ∀ x, (f x).length = k) {xs : List α} {i j : Nat} {x : α} {c : AV} (sz : Nat) (h : xs[i]? = some x) (hc : (f x)[j]? = some c) : part false (encE f xs) (i * k + j) sz = some c := by
  obtain ⟨ys, h1, h2⟩ := encE_at hf h
  rw [part_false]
  have : (encE f xs)[i * k + j]? = ((encE f xs).drop (i * k))[j]? := by rw [List.getElem?_drop]
  rw [this, h1, List.getElem?_append_left (List.getElem?_eq_some_iff.mp hc).1, hc]

theorem part_encE0 (hf : ∀ x, (f x).length = k) {xs : List α} {i : Nat} {x : α} {c : AV} (sz : Nat) (h : xs[i]? = some x) (hc : (f x)[0]? = some c) : part false (encE f xs) (i * k) sz = some c := part_encEj (j := 0) hf sz h hc

theorem setRange_encE (hf : ∀ x, (f x).length = k) : ∀ {xs : List α} {i : Nat} (x : α), i < xs.length → setRange (encE f xs) (i * k) (f x) = encE f (xs.set i x)
  | [], i, x, h => by simp at h
  | y :: xs, 0, x, h => by
    unfold setRange
    rw [Nat.zero_mul, Nat.zero_add, List.set_cons_zero, encE, encE, hf x, ← hf y, List.drop_left']
    · simp
    · rfl
  | y :: xs, i + 1, x, h => by
    have ih := setRange_encE hf x (by simpa using h : i < xs.length)
    rw [List.set_cons_succ, encE, encE, ← ih]
    unfold setRange
    rw [Nat.add_mul, Nat.one_mul, Nat.add_comm (i * k) k]
    rw [← hf y, List.take_length_add_append, Nat.add_assoc, List.drop_length_add_append]
    simp only [List.append_assoc]

theorem setRange_one {cs : List AV} {o : Nat} (v : AV) (h : o < cs.length) : setRange cs o [v] = cs.set o v := by
  unfold setRange
  rw [List.set_eq_take_append_cons_drop, if_pos h]
  simp

theorem set_encE (hf : ∀ x, (f x).length = k) {j : Nat} {v : AV} {m m' : α} (hj : j < k) (hm : (f m).set j v = f m') : ∀ {Y : List α} {i : Nat}, Y[i]? = some m → (encE f Y).set (i * k + j) v = encE f (Y.set i m')
  | [], i, h => by simp at h
  | y :: Y, 0, h => by
    simp at h
    subst h
    rw [Nat.zero_mul, Nat.zero_add, List.set_cons_zero, encE, encE, ← hm, List.set_append_left _ _ (by rw [hf]; exact hj)]
  | y :: Y, i + 1, h => by
    rw [List.set_cons_succ, encE, encE, ← set_encE hf hj hm (by simpa using h : Y[i]? = some m), Nat.add_mul, Nat.one_mul, List.set_append_right _ _ (by rw [hf]; omega), hf]
    congr 2
    omega

theorem setRange_encEj (hf : ∀ x, (f x).length = k) {j : Nat} {v : AV} {m m' : α} {Y : List α} {i : Nat} (hY : Y[i]? = some m) (hj : j < k) (hm : (f m).set j v = f m') : setRange (encE f Y) (i * k + j) [v] = encE f (Y.set i m') := by
  obtain ⟨_, _, h2⟩ := encE_at hf hY
  rw [setRange_one v (by omega), set_encE hf hj hm hY]

theorem zeros_encE {z : α} : ∀ n, zeros n (f z) = encE f (List.replicate n z)
  | 0 => rfl
  | n + 1 => by
    have := zeros_encE (z := z) n
    unfold zeros at *
    rw [List.replicate_succ, List.flatten_cons, this, List.replicate_succ, encE]

theorem under_encE (hf : ∀ (x : α) (n : Nat), ((f x).all fun c => c.under n) = true) (n : Nat) : ∀ xs : List α, ((encE f xs).all fun c => c.under n) = true
  | [] => rfl
  | x :: xs => by rw [encE, List.all_append, hf, under_encE hf n xs]; rfl

end

abbrev Tk := Int × Int × Int × Int

def tkC (m : Tk) : List AV := [.int .i64 m.1, .int .i64 m.2.1, .int .i64 m.2.2.1, .int .i64 m.2.2.2]

theorem tkC_length (m : Tk) : (tkC m).length = 4 := rfl

theorem tkC_under (m : Tk) (n : Nat) : ((tkC m).all fun c => c.under n) = true := by simp [tkC, AV.under]

abbrev encT (ts : List Tk) : List AV := encE tkC ts

abbrev slT (b n : Nat) (c : Option Nat) : AV := .slice (some (b, 0)) 4 n c

def ArgT (H : List Blk) (av : AV) (ts : List Tk) : Prop :=
  ∃ p sz c, av = .slice p sz ts.length c ∧ ts.length ≤ maxLen ∧ (ts ≠ [] → sz = 4 ∧ ∃ b, p = some (b, 0) ∧ cellsAt H b = some (encT ts))

theorem ArgT.more {av : AV} {ls : List Tk} (h : ArgT H av ls) (G : List Blk) : ArgT (H ++ G) av ls := by
  obtain ⟨p, sz, c, h1, h2, h3⟩ := h
  refine ⟨p, sz, c, h1, h2, fun hne => ?_⟩
  obtain ⟨e1, b, e2, e3⟩ := h3 hne
  exact ⟨e1, b, e2, cells_mono e3 G⟩

theorem tasks_of : ∀ (es : List (List Int)), (∀ e ∈ es, e.length = 4) → ∃ ts : List Tk, es.flatten.map (AV.int .i64) = encT ts ∧ ts.length = es.length
  | [], _ => ⟨[], rfl, rfl⟩
  | x :: es, h => by
    obtain ⟨ts, h1, h2⟩ := tasks_of es fun e he => h e (by simp [he])
    match x, h x (by simp) with
    | [a, b, c, d], _ => exact ⟨(a, b, c, d) :: ts, by simp [encE, tkC, h1], by simp [h2]⟩

theorem argT_of {av : AV} {es : List (List Int)} (h : IsArg H av .i64 4 es) : ∃ ts, ArgT H av ts := by
  obtain ⟨h1, h2⟩ := h
  obtain ⟨ts, t1, t2⟩ := tasks_of es fun e he => (h1 e he).1
  rcases h2 with ⟨rfl, rfl⟩ | ⟨b, cap, rfl, h3, h4, h5⟩
  · simp at t2
    subst t2
    exact ⟨[], none, 0, none, rfl, by simp, fun h => absurd rfl h⟩
  · refine ⟨ts, some (b, 0), 4, some cap, by rw [t2], by omega, fun _ => ⟨rfl, b, rfl, ?_⟩⟩
    unfold cellsAt
    rw [h5, ← t1]

end Go.Proofs.YtdohjcodjjogbaaDoor.Slim
