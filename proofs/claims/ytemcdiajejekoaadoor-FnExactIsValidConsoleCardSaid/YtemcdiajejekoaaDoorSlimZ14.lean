/- What a call that only lays new blocks leaves of memory; the table of powers of ten. -/
import Derived.Test.YtemcdiajejekoaaDoorSlimZ13
import Derived.Sort.Grow
import Derived.Lib.LaidTab
import Derived.Lib.ItoaMem
import Derived.LaidSub
import Derived.MakeChecks
/- What a call that only lays new blocks leaves of memory; the table of powers of ten. -/
namespace Go.Proofs.YtemcdiajejekoaaDoor.Slim
open Go Go.Sort
set_option linter.unusedVariables false

theorem Rel.later {ι : Emb} {m : Mem} {w w' : World} (R : Rel ι m w) (hsz : w.heap.size ≤ w'.heap.size) (hold : ∀ r, r < w.heap.size → w'.heap[r]? = w.heap[r]?) (h1 : w'.os = w.os) (h2 : w'.tape = w.tape) (h3 : w'.output = w.output) :
    Rel ι m w' ∧ Ext ι m w ι m w' := by
  have hsh : Shapes w w' := by
    intro r s h
    have hr : r < w.heap.size := by
      rcases Nat.lt_or_ge r w.heap.size with h' | h'
      · exact h'
      · unfold World.shape? at h
        simp [Array.getElem?_eq_none h'] at h
    unfold World.shape? at *
    rw [hold r hr]
    exact h
  refine R.of0 ⟨⟨R.len, fun b c d hb => Nat.lt_of_lt_of_le (R.low b c d hb) hsz, fun b cs wr hb => ?_, fun b es hb => ?_, R.sep⟩, ⟨Emb.le_refl _, Nat.le_refl _, hsz, hsh, fun r hr => .inl hr, fun r hr _ => hold r hr, h1, h2, h3⟩⟩
  · obtain ⟨c, d, g1, g2⟩ := R.at' b cs wr hb
    exact ⟨c, d, g1, g2.mono (Emb.le_refl _) hsh (hold c (R.low b c d g1))⟩
  · obtain ⟨c, g1, g2⟩ := R.mp b es hb
    exact ⟨c, g1, g2.mono (hold c (R.low b c 0 g1))⟩

theorem Rel.grown {ι : Emb} {m : Mem} {w : World} (R : Rel ι m w) (k : Nat) (os : Array Obj) : Rel ι m (grow (w.drewN k) os) ∧ Ext ι m w ι m (grow (w.drewN k) os) := by
  refine R.later ?_ (fun r hr => ?_) rfl rfl rfl
  · show w.heap.size ≤ (w.heap ++ os).size
    simp
  · show (w.heap ++ os)[r]? = w.heap[r]?
    rw [Array.getElem?_append_left hr]

/-- the program's own table, off the memory -/
theorem Glob.tab {ι : Emb} {m : Mem} {w : World} {P : Program} {name : String} {k : IntKind} {zs : List Int} {g : Nat} {Q : Array Value → Prop} (h : Glob ι m w) (hg : P.globalNamed name = some g) (hm : (g, Q) ∈ globTab) (hQ : ∀ cs, Q cs → cs = (zs.map fun z => Value.int k z).toArray) :
    Lib.TabIs P w name k zs := by
  obtain ⟨_, _, cs, e, fz, h1, h2⟩ := h _ hm
  unfold Lib.TabIs World.var?
  rw [hg]
  simp only [Option.bind_some]
  simp only at h1
  rw [h1, ← hQ cs h2]

end Go.Proofs.YtemcdiajejekoaaDoor.Slim

/- The contracts of the library's functions that the evaluator takes. -/
namespace Go.Proofs.YtemcdiajejekoaaDoor.Slim
open Go Go.Sort
set_option linter.unusedVariables false

theorem fn_there {f : FuncId} (h : ((Tryd.prog.funcs[f]?).map fun fn => fn.body.isSome && decide (fn.name ≠ "runtime.NumGoroutine")) = some true) : ∃ fn, Tryd.prog.funcs[f]? = some fn ∧ fn.body.isSome = true ∧ fn.name ≠ "runtime.NumGoroutine" := by
  obtain ⟨fn, h1, h2⟩ := Option.map_eq_some_iff.mp h
  simp only [Bool.and_eq_true, decide_eq_true_eq] at h2
  exact ⟨fn, h1, h2.1, h2.2⟩

def prCon (args : List AV) (m : Mem) : Option (AV × Mem) := match args with
  | [.str s, .str t] => (match t.data.toList with
    | [c] => some (.bool (decide (0 ≤ Lib.indexByte s.data.toList c)), m)
    | _ => none)
  | _ => none

theorem toldCon {args : List AV} {m m' : Mem} {v : AV} (h : prCon args m = some (v, m')) : m' = m ∧ ∃ (s : ByteArray) (c : UInt8), args = [.str s, .str ⟨#[c]⟩] ∧ v = .bool (decide (0 ≤ Lib.indexByte s.data.toList c)) := by
  unfold prCon at h
  split at h
  · rename_i s t
    split at h
    · rename_i c hc
      cases h
      refine ⟨rfl, s, c, ?_, rfl⟩
      cases t with
      | mk d =>
        cases d
        simp at hc
        subst hc
        rfl
    · cases h
  · cases h

theorem okCon {ι : Emb} {m m' : Mem} {w : World} {args : List AV} {vs : List Value} {v : AV} (h : prCon args m = some (v, m')) (R : Rel ι m w) (hv : VL ι w args vs) : Calls Tryd.prog f_strings_Contains vs.toArray w fun e w' => ∃ (ι' : Emb) (v' : Value), e = .returned v' ∧ V ι' w' v v' ∧ Rel ι' m' w' ∧ Ext ι m w ι' m' w' := by
  obtain ⟨rfl, s, c, rfl, rfl⟩ := toldCon h
  obtain ⟨v1, vs1, rfl, rfl, v2, vs2, rfl, rfl, rfl⟩ := hv
  refine (Tryd.strings_Contains_one s c w).mono ?_
  rintro e w' ⟨rfl, rfl⟩
  exact ⟨ι, _, rfl, rfl, R, Ext.refl _ _ _⟩

theorem growCon {args : List AV} {m m' : Mem} {v : AV} (h : prCon args m = some (v, m')) : Grow m m' := by
  obtain ⟨rfl, _⟩ := toldCon h
  exact Grow.refl _

def prIdx (args : List AV) (m : Mem) : Option (AV × Mem) := match args with
  | [.str s, .str t] => (match t.data.toList with
    | [c] => some (.int .i64 (Lib.indexByte s.data.toList c), m)
    | _ => none)
  | _ => none

theorem toldIdx {args : List AV} {m m' : Mem} {v : AV} (h : prIdx args m = some (v, m')) : m' = m ∧ ∃ (s : ByteArray) (c : UInt8), args = [.str s, .str ⟨#[c]⟩] ∧ v = .int .i64 (Lib.indexByte s.data.toList c) := by
  unfold prIdx at h
  split at h
  · rename_i s t
    split at h
    · rename_i c hc
      cases h
      refine ⟨rfl, s, c, ?_, rfl⟩
      cases t with
      | mk d =>
        cases d
        simp at hc
        subst hc
        rfl
    · cases h
  · cases h

theorem okIdx {ι : Emb} {m m' : Mem} {w : World} {args : List AV} {vs : List Value} {v : AV} (h : prIdx args m = some (v, m')) (R : Rel ι m w) (hv : VL ι w args vs) : Calls Tryd.prog f_internal_stringslite_Index vs.toArray w fun e w' => ∃ (ι' : Emb) (v' : Value), e = .returned v' ∧ V ι' w' v v' ∧ Rel ι' m' w' ∧ Ext ι m w ι' m' w' := by
  obtain ⟨rfl, s, c, rfl, rfl⟩ := toldIdx h
  obtain ⟨v1, vs1, rfl, rfl, v2, vs2, rfl, rfl, rfl⟩ := hv
  refine (Tryd.stringslite_Index_one s c w).mono ?_
  rintro e w' ⟨rfl, rfl⟩
  exact ⟨ι, _, rfl, rfl, R, Ext.refl _ _ _⟩

theorem growIdx {args : List AV} {m m' : Mem} {v : AV} (h : prIdx args m = some (v, m')) : Grow m m' := by
  obtain ⟨rfl, _⟩ := toldIdx h
  exact Grow.refl _

def prIto (args : List AV) (m : Mem) : Option (AV × Mem) := match args with
  | [.int .i64 n] => if -9223372036854775808 ≤ n ∧ n ≤ 9223372036854775807 then some (.str ⟨(Lib.itoa n).toArray⟩, m) else none
  | _ => none

theorem toldIto {args : List AV} {m m' : Mem} {v : AV} (h : prIto args m = some (v, m')) : m' = m ∧ ∃ n : Int, args = [.int .i64 n] ∧ (-9223372036854775808 ≤ n ∧ n ≤ 9223372036854775807) ∧ v = .str ⟨(Lib.itoa n).toArray⟩ := by
  unfold prIto at h
  split at h
  · rename_i n
    split at h
    · rename_i hn
      cases h
      exact ⟨rfl, n, rfl, hn, rfl⟩
    · cases h
  · cases h

theorem okIto {ι : Emb} {m m' : Mem} {w : World} {args : List AV} {vs : List Value} {v : AV} (h : prIto args m = some (v, m')) (R : Rel ι m w) (hv : VL ι w args vs) : Calls Tryd.prog f_strconv_Itoa vs.toArray w fun e w' => ∃ (ι' : Emb) (v' : Value), e = .returned v' ∧ V ι' w' v v' ∧ Rel ι' m' w' ∧ Ext ι m w ι' m' w' := by
  obtain ⟨rfl, n, rfl, hn, rfl⟩ := toldIto h
  obtain ⟨v1, vs1, rfl, rfl, rfl⟩ := hv
  refine (Tryd.strconv_Itoa n hn.1 hn.2 w (R.glob.tab (g := 1) (by kernel_rfl) (List.mem_cons_self) (fun cs h => by rw [h]; rfl))).mono ?_
  rintro e w' ⟨rfl, k, os, rfl⟩
  obtain ⟨R', E'⟩ := R.grown k os
  exact ⟨ι, _, rfl, rfl, R', E'⟩

theorem growIto {args : List AV} {m m' : Mem} {v : AV} (h : prIto args m = some (v, m')) : Grow m m' := by
  obtain ⟨rfl, _⟩ := toldIto h
  exact Grow.refl _

def prC : Prims := fun f args m => if f = f_strings_Contains then prCon args m else if f = f_internal_stringslite_Index then prIdx args m else if f = f_strconv_Itoa then prIto args m else none

theorem prC_ok : PrimsOk Tryd.prog prC := by
  refine ⟨fun f args m v m' ι w vs h R hv => ?_, fun f args m v m' h => ?_⟩
  · unfold prC at h
    split at h
    · rename_i hf
      subst hf
      exact ⟨fn_there (by kernel_rfl), okCon h R hv⟩
    split at h
    · rename_i hf
      subst hf
      exact ⟨fn_there (by kernel_rfl), okIdx h R hv⟩
    split at h
    · rename_i hf
      subst hf
      exact ⟨fn_there (by kernel_rfl), okIto h R hv⟩
    cases h
  · unfold prC at h
    split at h
    · exact growCon h
    split at h
    · exact growIdx h
    split at h
    · exact growIto h
    cases h

theorem prC_con : HasContains prC := fun s c m => by
  rw [call_prim rfl]
  rfl

theorem prC_idx : HasIndex prC := fun s c m => by
  rw [call_prim rfl]
  rfl

theorem prC_ito : HasItoa prC := fun n m h1 h2 => by
  rw [call_prim rfl]
  unfold prC
  rw [if_neg (by decide), if_neg (by decide), if_pos rfl]
  exact if_pos ⟨h1, h2⟩

end Go.Proofs.YtemcdiajejekoaaDoor.Slim

/- Checksums; the encoding of a record. -/
namespace Go.Proofs.YtemcdiajejekoaaDoor.Slim

open Go

set_option linter.unusedSimpArgs false

set_option linter.unusedVariables false

variable {pr : Prims} {H : List Blk} {e : Option Nat}

def sumStep (h : Nat) (b : UInt8) : Nat := (41 * h + b.toNat + 1) % 999979

def sumL (l : By) : Nat := l.foldl sumStep 7

theorem sumFold_lt : ∀ (l : By) (h : Nat), h < 999979 → l.foldl sumStep h < 999979
  | [], h, hh => hh
  | b :: l, h, hh => sumFold_lt l _ (Nat.mod_lt _ (by omega))

theorem sumL_lt (l : By) : sumL l < 999979 := sumFold_lt l 7 (by omega)

theorem sum_step {h : Nat} (b : UInt8) (hh : h < 999979) : (IntKind.i64.wrap (IntKind.i64.wrap (IntKind.i64.wrap (41 * (h : Int)) + IntKind.i64.wrap (b.toNat : Int)) + 1)).tmod 999979 = ((sumStep h b : Nat) : Int) := by
  have hb := b.toNat_lt
  have w1 : IntKind.i64.wrap (41 * (h : Int)) = 41 * (h : Int) := wrap64 (by omega) (by omega)
  have w2 : IntKind.i64.wrap (b.toNat : Int) = (b.toNat : Int) := wrap64 (by omega) (by omega)
  have w3 : IntKind.i64.wrap (41 * (h : Int) + (b.toNat : Int)) = 41 * (h : Int) + (b.toNat : Int) := wrap64 (by omega) (by omega)
  have w4 : IntKind.i64.wrap (41 * (h : Int) + (b.toNat : Int) + 1) = 41 * (h : Int) + (b.toNat : Int) + 1 := wrap64 (by omega) (by omega)
  rw [w1, w2, w3, w4, Int.tmod_eq_emod_of_nonneg (by omega)]
  unfold sumStep
  omega

theorem foldl_take {α β : Type} (f : β → α → β) (z : β) {l : List α} {i : Nat} {x : α} (h : l[i]? = some x) : f ((l.take i).foldl f z) x = (l.take (i + 1)).foldl f z := by
  rw [List.take_add_one, h, List.foldl_append]
  rfl

theorem e_i_Checksum (l : By) (hn : l.length ≤ 1073741824) : call T pr f_i_Checksum [sV l] ⟨H, e⟩ = some (if l.length ≤ 4000 then .tup [.int .i64 (sumL l), .bool true] else .tup [.int .i64 0, .bool false], ⟨H, e⟩) := by
  by_cases h4 : l.length ≤ 4000
  · have h4' : ¬ ((4000 : Int) < (l.length : Int)) := by omega
    rw [if_pos h4]
    apply Wc.eq
    rw [call_wc t_i_Checksum]
    simp +contextual only [a_i_Checksum, c_i_Checksum, bs_size, List.size_toArray, h4', gt_iff_lt, decide_false, Wp_some, Wp_none, Wp_ite, Wc_some, Wc_none, Wc_ite, Wp_thenRun, seqQ_normal, seqQ_exit, seqQ_ret, Wp_inBlock, blkQ_normal, blkQ_ret, blkQ_same, blkQ_exit, Wp_opThen, opQ_at, Wp_guardP, retQ_normal, retQ_ret, loopQ_normal, loopQ_exit, loopQ_ret, go_sem, entry, joinEsc, if_pos, reduceIte, Nat.reduceAdd, Nat.reduceLeDiff, Nat.reduceLT, Nat.reduceEqDiff]
    refine Wp_loop (fun k st => ∃ (i : Nat) (y1 y2 y4 y5 y8 : AV), k + i = l.length ∧ st = ⟨[sV l, y1, y2, .int .i64 ((l.take i).foldl sumStep 7 : Nat), y4, y5, .int .i64 l.length, .int .i64 i, y8], ⟨H, none⟩⟩) ?_ l.length _ ⟨0, _, _, _, _, _, rfl, rfl⟩
    rintro k _ ⟨i, y1, y2, y4, y5, y8, hk, rfl⟩
    by_cases hi : i < l.length
    · have hl : l[i]? = some l[i] := List.getElem?_eq_getElem hi
      have hst := sum_step l[i] (sumFold_lt (l.take i) 7 (by omega))
      rw [foldl_take sumStep 7 hl] at hst
      simp +contextual only [w_i_Checksum_1, hi, bs_get hl, hst, show ¬ ((999979 : Int) = 0) by omega, wrap_succ (show i < 9223372036854775807 by omega), decide_true, Wp_some, Wp_none, Wp_ite, Wc_some, Wc_none, Wc_ite, Wp_thenRun, seqQ_normal, seqQ_exit, seqQ_ret, Wp_inBlock, blkQ_normal, blkQ_ret, blkQ_same, blkQ_exit, Wp_opThen, opQ_at, Wp_guardP, retQ_normal, retQ_ret, loopQ_normal, loopQ_exit, loopQ_ret, go_sem, entry, joinEsc, if_pos, reduceIte, Nat.reduceAdd, Nat.reduceLeDiff, Nat.reduceLT, Nat.reduceEqDiff]
      exact ⟨k - 1, by omega, i + 1, _, _, _, _, _, by omega, rfl⟩
    · obtain rfl : i = l.length := by omega
      simp +contextual only [w_i_Checksum_1, hi, List.take_length, decide_false, Wp_some, Wp_none, Wp_ite, Wc_some, Wc_none, Wc_ite, Wp_thenRun, seqQ_normal, seqQ_exit, seqQ_ret, Wp_inBlock, blkQ_normal, blkQ_ret, blkQ_same, blkQ_exit, Wp_opThen, opQ_at, Wp_guardP, retQ_normal, retQ_ret, loopQ_normal, loopQ_exit, loopQ_ret, go_sem, entry, joinEsc, if_pos, reduceIte, Nat.reduceAdd, Nat.reduceLeDiff, Nat.reduceLT, Nat.reduceEqDiff]
      trivial
  · have h4' : (4000 : Int) < (l.length : Int) := by omega
    rw [if_neg h4, call_eq t_i_Checksum]
    simp +contextual only [a_i_Checksum, c_i_Checksum, bs_size, List.size_toArray, h4', gt_iff_lt, decide_true, go_sem, entry, joinEsc, if_pos, reduceIte, Nat.reduceAdd, Nat.reduceLeDiff, Nat.reduceLT, Nat.reduceEqDiff]

theorem e_s_l1Sum (l : By) (hn : l.length ≤ 1073741824) : call T pr f_s_l1Sum [sV l] ⟨H, e⟩ = some (.int .i64 (sumL l), ⟨H, e⟩) := by
  apply Wc.eq
  rw [call_wc t_s_l1Sum]
  simp +contextual only [a_s_l1Sum, c_s_l1Sum, Wp_some, Wp_none, Wp_ite, Wc_some, Wc_none, Wc_ite, Wp_thenRun, seqQ_normal, seqQ_exit, seqQ_ret, Wp_inBlock, blkQ_normal, blkQ_ret, blkQ_same, blkQ_exit, Wp_opThen, opQ_at, Wp_guardP, retQ_normal, retQ_ret, loopQ_normal, loopQ_exit, loopQ_ret, go_sem, entry, joinEsc, if_pos, reduceIte, Nat.reduceAdd, Nat.reduceLeDiff, Nat.reduceLT, Nat.reduceEqDiff]
  refine Wp_loop (fun k st => ∃ (i : Nat) (y1 y4 : AV), k + i = l.length ∧ st = ⟨[sV l, y1, .int .i64 ((l.take i).foldl sumStep 7 : Nat), .int .i64 i, y4], ⟨H, none⟩⟩) ?_ l.length _ ⟨0, _, _, rfl, rfl⟩
  rintro k _ ⟨i, y1, y4, hk, rfl⟩
  by_cases hi : i < l.length
  · have hl : l[i]? = some l[i] := List.getElem?_eq_getElem hi
    have hst := sum_step l[i] (sumFold_lt (l.take i) 7 (by omega))
    rw [foldl_take sumStep 7 hl] at hst
    simp +contextual only [w_s_l1Sum_1, hi, bs_size, List.size_toArray, bs_get hl, hst, show ¬ ((999979 : Int) = 0) by omega, wrap_succ (show i < 9223372036854775807 by omega), decide_true, Wp_some, Wp_none, Wp_ite, Wc_some, Wc_none, Wc_ite, Wp_thenRun, seqQ_normal, seqQ_exit, seqQ_ret, Wp_inBlock, blkQ_normal, blkQ_ret, blkQ_same, blkQ_exit, Wp_opThen, opQ_at, Wp_guardP, retQ_normal, retQ_ret, loopQ_normal, loopQ_exit, loopQ_ret, go_sem, entry, joinEsc, if_pos, reduceIte, Nat.reduceAdd, Nat.reduceLeDiff, Nat.reduceLT, Nat.reduceEqDiff]
    exact ⟨k - 1, by omega, i + 1, _, _, by omega, rfl⟩
  · obtain rfl : i = l.length := by omega
    simp +contextual only [w_s_l1Sum_1, hi, bs_size, List.size_toArray, List.take_length, decide_false, Wp_some, Wp_none, Wp_ite, Wc_some, Wc_none, Wc_ite, Wp_thenRun, seqQ_normal, seqQ_exit, seqQ_ret, Wp_inBlock, blkQ_normal, blkQ_ret, blkQ_same, blkQ_exit, Wp_opThen, opQ_at, Wp_guardP, retQ_normal, retQ_ret, loopQ_normal, loopQ_exit, loopQ_ret, go_sem, entry, joinEsc, if_pos, reduceIte, Nat.reduceAdd, Nat.reduceLeDiff, Nat.reduceLT, Nat.reduceEqDiff]
    trivial

/-- a text with its checksum; the line of a record -/
def sealL (l : By) : By := l ++ [35] ++ Lib.itoa (sumL l)

theorem itoa_len {n : Int} (h1 : -9223372036854775807 ≤ n) (h2 : n ≤ 9223372036854775807) : (Lib.itoa n).length ≤ 21 := by
  unfold Lib.itoa
  split
  · have := decDigits_le n.natAbs (by omega)
    rw [List.length_cons]; omega
  · have := decDigits_le n.toNat (by omega)
    omega

theorem decDigits_six (u : Nat) (h : u < 1000000) : (Lib.decDigits u).length ≤ 6 := by
  have : ∀ (k u : Nat), u < 10 ^ k → (Lib.decDigits u).length ≤ max k 1 := by
    intro k
    induction k with
    | zero => intro u hu; have : u = 0 := by omega
              subst this; rw [Lib.decDigits]; simp
    | succ k ih =>
      intro u hu
      rw [Lib.decDigits]
      split
      · simp
      · have := ih (u / 10) (by rw [Nat.pow_succ] at hu; omega)
        rw [List.length_append, List.length_singleton]
        have h1 : 1 ≤ k := by
          rcases Nat.eq_zero_or_pos k with h0 | h0
          · subst h0; omega
          · exact h0
        omega
  have := this 6 u (by omega)
  omega

theorem itoa_sum_len (l : By) : (Lib.itoa (sumL l)).length ≤ 6 := by
  have := sumL_lt l
  unfold Lib.itoa
  rw [if_neg (by omega), Int.toNat_natCast]
  exact decDigits_six _ (by omega)

theorem sealL_len (l : By) : (sealL l).length ≤ l.length + 7 := by
  have := itoa_sum_len l
  unfold sealL
  simp only [List.length_append, List.length_singleton]
  omega

theorem e_s_l1Seal (l : By) (hn : l.length ≤ 1073741824) : call T pr f_s_l1Seal [sV l] ⟨H, e⟩ = some (sV (sealL l), ⟨H, e⟩) := by
  have hs := fun L => e_s_l1Sum (pr := pr) (H := L) (e := none) l hn
  have hlt := sumL_lt l
  have hnum := fun L => e_s_l1Num (pr := pr) (H := L) (e := none) (sumL l) (by omega) (by omega)
  have hl := itoa_sum_len l
  have h1 : l.length + 1 ≤ 140737488355328 := by omega
  have h2 : l.length + 1 + (Lib.itoa (sumL l)).length ≤ 140737488355328 := by omega
  rw [call_eq t_s_l1Seal]
  unfold sealL
  generalize sumL l = S at hs hnum hl h2 ⊢
  simp +contextual only [a_s_l1Seal, c_s_l1Seal, hs, hnum, binop_sadd, h1, h2, List.length_singleton, go_sem, entry, joinEsc, if_pos, reduceIte, Nat.reduceAdd, Nat.reduceLeDiff, Nat.reduceLT, Nat.reduceEqDiff]

/-- does a text have this byte? -/
theorem hasB_bs (l : By) (c : UInt8) : hasB (bs l) (c.toNat : Int) = l.contains c := by
  unfold hasB
  rw [bs_toList]
  induction l with
  | nil => rfl
  | cons b l ih =>
    rw [List.any_cons, List.contains_cons, ih]
    congr 1
    rw [Bool.eq_iff_iff]
    simp only [decide_eq_true_eq, beq_iff_eq]
    constructor
    · intro h; exact (UInt8.toNat_inj.mp (by omega)).symm
    · rintro rfl; rfl

def ackOk (l : By) : Bool := decide (l.length ≤ 4000) && (!l.contains 35 && decide ((sealL l).length ≤ 4000))

theorem e_i_AppendChecksum (hi : HasItoa pr) (hc : HasContains pr) (l : By) (hn : l.length ≤ 1073741824) : call T pr f_i_AppendChecksum [sV l] ⟨H, e⟩ = some (if ackOk l = true then .tup [sV (sealL l), .bool true] else .tup [sV [], .bool false], ⟨H, e⟩) := by
  have hcs := fun L => e_i_Checksum (pr := pr) (H := L) (e := none) l hn
  have hcon : ∀ L, call T pr f_strings_Contains [sV l, sV [35]] ⟨L, none⟩ = some (.bool (l.contains 35), ⟨L, none⟩) := fun L => by
    rw [hc (bs l) 35 ⟨L, none⟩, index_has, ← hasB_bs l 35]; rfl
  have hlt := sumL_lt l
  have h1 : l.length + 1 ≤ 140737488355328 := by omega
  rw [call_eq t_i_AppendChecksum]
  unfold ackOk
  by_cases h4 : l.length ≤ 4000
  · rw [if_pos h4] at hcs
    have hit := fun L => hi (sumL l) ⟨L, none⟩ (by omega) (by omega)
    have hl := itoa_sum_len l
    have h2 : l.length + 1 + (Lib.itoa (sumL l)).length ≤ 140737488355328 := by omega
    have hsl : sealL l = l ++ (35 :: Lib.itoa (sumL l)) := by unfold sealL; simp
    have hcmp : decide ((sealL l).length ≤ 4000) = !decide ((4000 : Int) < ((l ++ (35 :: Lib.itoa (sumL l))).length : Int)) := by
      rw [hsl, ← decide_not]
      exact decide_eq_decide.mpr (by omega)
    cases hB : l.contains 35 with
    | true =>
      rw [hB] at hcon
      simp +contextual only [a_i_AppendChecksum, c_i_AppendChecksum, hcs, hit, hcon, h4, binop_sadd, h1, h2, List.length_singleton, decide_true, Bool.not_true, Bool.false_and, Bool.and_false, go_sem, entry, joinEsc, if_pos, reduceIte, Nat.reduceAdd, Nat.reduceLeDiff, Nat.reduceLT, Nat.reduceEqDiff]
    | false =>
      rw [hB] at hcon
      rw [hcmp, hsl]
      generalize Lib.itoa (sumL l) = d at hit h2 ⊢
      simp only [List.length_append, List.length_cons] at *
      cases hS : decide ((4000 : Int) < ((l.length + (d.length + 1) : Nat) : Int)) with
      | true => simp +contextual only [a_i_AppendChecksum, c_i_AppendChecksum, hcs, hit, hcon, h4, binop_sadd, h1, h2, hS, gt_iff_lt, bs_size, List.size_toArray, List.length_singleton, decide_true, Bool.not_true, Bool.not_false, Bool.true_and, Bool.false_and, Bool.and_false, go_sem, entry, joinEsc, if_pos, reduceIte, Nat.reduceAdd, Nat.reduceLeDiff, Nat.reduceLT, Nat.reduceEqDiff]
      | false => simp +contextual only [a_i_AppendChecksum, c_i_AppendChecksum, hcs, hit, hcon, h4, binop_sadd, h1, h2, hS, gt_iff_lt, bs_size, List.size_toArray, List.length_singleton, decide_true, Bool.not_true, Bool.not_false, Bool.true_and, Bool.false_and, Bool.and_false, go_sem, entry, joinEsc, if_pos, reduceIte, Nat.reduceAdd, Nat.reduceLeDiff, Nat.reduceLT, Nat.reduceEqDiff]
  · rw [if_neg h4] at hcs
    have hit := fun L => hi 0 ⟨L, none⟩ (by omega) (by omega)
    have hl := itoa_len (n := 0) (by omega) (by omega)
    have h2 : l.length + 1 + (Lib.itoa 0).length ≤ 140737488355328 := by omega
    simp +contextual only [a_i_AppendChecksum, c_i_AppendChecksum, hcs, hit, h4, binop_sadd, h1, h2, List.length_singleton, decide_true, decide_false, Bool.false_and, Bool.false_eq_true, if_false, go_sem, entry, joinEsc, if_pos, reduceIte, Nat.reduceAdd, Nat.reduceLeDiff, Nat.reduceLT, Nat.reduceEqDiff]

end Go.Proofs.YtemcdiajejekoaaDoor.Slim

/- The encoding of a record, and its law. -/
namespace Go.Proofs.YtemcdiajejekoaaDoor.Slim

open Go

set_option linter.unusedSimpArgs false

set_option linter.unusedVariables false

variable {pr : Prims} {H : List Blk} {e : Option Nat}

theorem dec_digit : ∀ (u : Nat) (b : UInt8), b ∈ Lib.decDigits u → 48 ≤ b.toNat ∧ b.toNat ≤ 57 := by
  have one : ∀ i : Nat, i < 10 → 48 ≤ (UInt8.ofNat (48 + i)).toNat ∧ (UInt8.ofNat (48 + i)).toNat ≤ 57 := by decide +kernel
  intro u
  induction u using Nat.strongRecOn with
  | _ u ih =>
    intro b hb
    rw [Lib.decDigits] at hb
    split at hb
    · rename_i h
      rw [List.mem_singleton] at hb
      subst hb
      exact one u h
    · rename_i h
      rcases List.mem_append.mp hb with hb | hb
      · exact ih (u / 10) (by omega) b hb
      · rw [List.mem_singleton] at hb
        subst hb
        exact one _ (Nat.mod_lt _ (by omega))

theorem itoa_digit {n : Int} (hn : 0 ≤ n) {b : UInt8} (hb : b ∈ Lib.itoa n) : 48 ≤ b.toNat ∧ b.toNat ≤ 57 := by
  unfold Lib.itoa at hb
  rw [if_neg (by omega)] at hb
  exact dec_digit _ _ hb

theorem not_contains {l : By} {c : UInt8} (h : ∀ b ∈ l, b ≠ c) : l.contains c = false := by
  cases hc : l.contains c with
  | false => rfl
  | true => exact absurd rfl (h c (by simpa using hc))

theorem itoa_no {n : Int} (hn : 0 ≤ n) {c : UInt8} (hc : c.toNat < 48 ∨ 57 < c.toNat) : (Lib.itoa n).contains c = false :=
  not_contains fun b hb h => by
    have := itoa_digit hn hb
    rw [h] at this
    omega

theorem text_no35 {l : By} (h : textOk (bs l) = true) : l.contains 35 = false :=
  not_contains fun b hb h35 => by
    unfold textOk at h
    rw [bs_toList, List.all_eq_true] at h
    have := h b hb
    subst h35
    simp [okB] at this

/-- a valid record -/
def rcOk (c r : By) : Bool := recOk (bs c) (bs r)

theorem rc_facts {c r : By} (h : rcOk c r = true) : 1 ≤ c.length ∧ c.length ≤ 160 ∧ r.length ≤ 250 ∧ textOk (bs c) = true ∧ textOk (bs r) = true ∧ c.contains 64 = false := by
  unfold rcOk recOk at h
  simp only [Bool.and_eq_true, decide_eq_true_eq, bs_size, List.size_toArray, Bool.not_eq_true'] at h
  obtain ⟨⟨⟨h1, h2⟩, h3⟩, h4, h5, h6⟩ := h
  refine ⟨by omega, by omega, by omega, h4, h5, ?_⟩
  have := hasB_bs c 64
  rw [← this]
  exact h6

/-- what stands in a line ahead of the checksum; the line with its end -/
def bodyL (k : Int) (c r : By) : By := Lib.itoa k ++ [32] ++ c ++ [64] ++ r

def lineL (k : Int) (c r : By) : By := sealL (bodyL k c r) ++ [10]

theorem body_len {k : Int} {c r : By} (h0 : 0 ≤ k) (h1 : k ≤ 59) : (bodyL k c r).length ≤ c.length + r.length + 4 := by
  have : (Lib.itoa k).length ≤ 2 := by
    unfold Lib.itoa
    rw [if_neg (by omega)]
    by_cases h : k.toNat < 10
    · rw [Lib.decDigits_one h]; simp
    · rw [Lib.decDigits_two h (by omega)]; simp
  unfold bodyL
  simp only [List.length_append, List.length_singleton]
  omega

theorem body_no35 {k : Int} {c r : By} (h0 : 0 ≤ k) (h : rcOk c r = true) : (bodyL k c r).contains 35 = false := by
  obtain ⟨_, _, _, h4, h5, _⟩ := rc_facts h
  unfold bodyL
  simp only [List.contains_eq_mem, List.mem_append, List.mem_singleton] at *
  have a1 := itoa_no (c := 35) h0 (by decide)
  have a2 := text_no35 h4
  have a3 := text_no35 h5
  simp only [List.contains_eq_mem, decide_eq_false_iff_not] at a1 a2 a3 ⊢
  rintro ((((h | h) | h) | h) | h)
  · exact a1 h
  · cases h
  · exact a2 h
  · cases h
  · exact a3 h

theorem body_ack {k : Int} {c r : By} (h0 : 0 ≤ k) (h1 : k ≤ 59) (h : rcOk c r = true) : ackOk (bodyL k c r) = true := by
  obtain ⟨_, g2, g3, _, _, _⟩ := rc_facts h
  have hb := body_len (c := c) (r := r) h0 h1
  have hs := sealL_len (bodyL k c r)
  unfold ackOk
  rw [body_no35 h0 h, decide_eq_true (by omega), decide_eq_true (by omega)]
  rfl

theorem e_s_l12Line {k : Int} {c r : By} (h0 : 0 ≤ k) (h1 : k ≤ 60) (hc : c.length ≤ 1048576) (hr : r.length ≤ 1048576) : call T pr f_s_l12Line [.int .i64 k, rcV (bs c) (bs r)] ⟨H, e⟩ = some (sV (lineL k c r), ⟨H, e⟩) := by
  have hnum := fun L => e_s_l1Num (pr := pr) (H := L) (e := none) k (by omega) (by omega)
  have hil := itoa_len (n := k) (by omega) (by omega)
  have hbl : (bodyL k c r).length = (Lib.itoa k).length + 1 + c.length + 1 + r.length := by unfold bodyL; simp; omega
  have hseal := fun L => e_s_l1Seal (pr := pr) (H := L) (e := none) (bodyL k c r) (by omega)
  have hsl := sealL_len (bodyL k c r)
  have g1 : (Lib.itoa k).length + 1 ≤ 140737488355328 := by omega
  have g2 : (Lib.itoa k).length + 1 + c.length ≤ 140737488355328 := by omega
  have g3 : (Lib.itoa k).length + 1 + c.length + 1 ≤ 140737488355328 := by omega
  have g4 : (Lib.itoa k).length + 1 + c.length + 1 + r.length ≤ 140737488355328 := by omega
  have g5 : (sealL (bodyL k c r)).length + 1 ≤ 140737488355328 := by omega
  have hbd : bodyL k c r = Lib.itoa k ++ (32 :: (c ++ (64 :: r))) := by unfold bodyL; simp
  rw [hbd] at hseal g5
  rw [call_eq t_s_l12Line]
  unfold lineL
  rw [hbd]
  generalize Lib.itoa k = d at *
  simp only [Nat.add_assoc, Nat.reduceAdd] at g1 g2 g3 g4 g5
  simp +contextual only [a_s_l12Line, c_s_l12Line, hnum, hseal, binop_sadd, g1, g2, g3, g4, g5, List.length_append, List.length_cons, List.length_nil, Nat.add_assoc, bs_size, List.size_toArray, go_sem, entry, joinEsc, if_pos, reduceIte, Nat.reduceAdd, Nat.reduceLeDiff, Nat.reduceLT, Nat.reduceEqDiff]
  rw [if_pos (by omega), if_pos (by omega)]

def encOk (k : Int) (c r : By) : Bool := (decide (0 ≤ k) && decide (k ≤ 59)) && rcOk c r

theorem e_i_EncodeRecord (hi : HasItoa pr) (hp : HasContains pr) {c r : By} (hc : c.length ≤ 1048576) (hr : r.length ≤ 1048576) (k : Int) : call T pr f_i_EncodeRecord [.int .i64 k, rcV (bs c) (bs r)] ⟨H, e⟩ =
    some (if encOk k c r = true then .tup [sV (lineL k c r), .bool true] else .tup [sV [], .bool false], ⟨H, e⟩) := by
  have hv := fun L => e_i_IsValidRecord (pr := pr) (H := L) (e := none) (s := bs c) (t := bs r) hp (by rw [bs_toList]; omega) (by rw [bs_toList]; omega)
  rw [call_eq t_i_EncodeRecord]
  unfold encOk rcOk
  cases hk : (decide (0 ≤ k) && decide (k ≤ 59)) with
  | false => simp +contextual only [a_i_EncodeRecord, c_i_EncodeRecord, e_i_within, hk, Bool.false_and, Bool.false_eq_true, if_false, go_sem, entry, joinEsc, if_pos, reduceIte, Nat.reduceAdd, Nat.reduceLeDiff, Nat.reduceLT, Nat.reduceEqDiff]
  | true =>
    simp only [Bool.and_eq_true, decide_eq_true_eq] at hk
    have hk' : (decide (0 ≤ k) && decide (k ≤ 59)) = true := by simp [hk]
    cases hr' : recOk (bs c) (bs r) with
    | false =>
      rw [hr'] at hv
      simp +contextual only [a_i_EncodeRecord, c_i_EncodeRecord, e_i_within, hk', hv, Bool.and_false, Bool.false_eq_true, if_false, go_sem, entry, joinEsc, if_pos, reduceIte, Nat.reduceAdd, Nat.reduceLeDiff, Nat.reduceLT, Nat.reduceEqDiff]
    | true =>
      rw [hr'] at hv
      have hit := fun L => hi k ⟨L, none⟩ (by omega) (by omega)
      have hbl : (bodyL k c r).length = (Lib.itoa k).length + 1 + c.length + 1 + r.length := by unfold bodyL; simp; omega
      have hil := itoa_len (n := k) (by omega) (by omega)
      have hack := fun L => e_i_AppendChecksum (pr := pr) (H := L) (e := none) hi hp (bodyL k c r) (by omega)
      rw [if_pos (body_ack hk.1 hk.2 hr')] at hack
      have hsl := sealL_len (bodyL k c r)
      have g1 : (Lib.itoa k).length + 1 ≤ 140737488355328 := by omega
      have g2 : (Lib.itoa k).length + 1 + c.length ≤ 140737488355328 := by omega
      have g3 : (Lib.itoa k).length + 1 + c.length + 1 ≤ 140737488355328 := by omega
      have g4 : (Lib.itoa k).length + 1 + c.length + 1 + r.length ≤ 140737488355328 := by omega
      have g5 : (sealL (bodyL k c r)).length + 1 ≤ 140737488355328 := by omega
      have hbd : bodyL k c r = Lib.itoa k ++ (32 :: (c ++ (64 :: r))) := by unfold bodyL; simp
      rw [hbd] at hack g5
      unfold lineL
      rw [hbd]
      generalize Lib.itoa k = d at *
      simp only [Nat.add_assoc, Nat.reduceAdd] at g1 g2 g3 g4 g5
      simp +contextual only [a_i_EncodeRecord, c_i_EncodeRecord, e_i_within, hk', hv, hit, hack, binop_sadd, g1, g2, g3, g4, g5, List.length_append, List.length_cons, List.length_nil, Nat.add_assoc, Bool.true_and, bs_size, List.size_toArray, go_sem, entry, joinEsc, if_pos, reduceIte, Nat.reduceAdd, Nat.reduceLeDiff, Nat.reduceLT, Nat.reduceEqDiff]
      rw [if_pos (by omega), if_pos (by omega)]

theorem e_s_l12Record {s t : ByteArray} (hs : s.data.toList.length ≤ 9223372036854775806) (ht : t.data.toList.length ≤ 9223372036854775806) : call T pr f_s_l12Record [rcV s t] ⟨H, e⟩ = some (.bool (recOk s t), ⟨H, e⟩) := by
  rw [call_eq t_s_l12Record]
  unfold recOk
  have hn := str_none s
  cases h1 : decide ((1 : Int) ≤ (s.size : Int)) with
  | false =>
    rw [h1] at hn
    have hn' : decide (s = ⟨#[]⟩) = true := by simpa using hn
    simp +contextual only [a_s_l12Record, c_s_l12Record, hn', h1, go_sem, entry, joinEsc, if_pos, reduceIte, Nat.reduceAdd, Nat.reduceLeDiff, Nat.reduceLT, Nat.reduceEqDiff]
  | true =>
    rw [h1] at hn
    have hn' : decide (s = ⟨#[]⟩) = false := by simpa using hn
    cases h3 : textOk s with
    | false => simp +contextual only [a_s_l12Record, c_s_l12Record, hn', h1, e_s_l12Bytes hs, h3, Bool.and_false, go_sem, entry, joinEsc, if_pos, reduceIte, Nat.reduceAdd, Nat.reduceLeDiff, Nat.reduceLT, Nat.reduceEqDiff]
    | true =>
      cases h5 : decide ((s.size : Int) ≤ 160) with
      | false => simp +contextual only [a_s_l12Record, c_s_l12Record, hn', h1, e_s_l12Bytes hs, h3, h5, Bool.and_false, go_sem, entry, joinEsc, if_pos, reduceIte, Nat.reduceAdd, Nat.reduceLeDiff, Nat.reduceLT, Nat.reduceEqDiff]
      | true =>
        cases h6 : hasB s 64 with
        | true => simp +contextual only [a_s_l12Record, c_s_l12Record, hn', h1, e_s_l12Bytes hs, e_s_l1Stands hs, h3, h5, h6, Bool.and_false, go_sem, entry, joinEsc, if_pos, reduceIte, Nat.reduceAdd, Nat.reduceLeDiff, Nat.reduceLT, Nat.reduceEqDiff]
        | false =>
          cases h4 : textOk t <;> cases h2 : decide ((t.size : Int) ≤ 250) <;> simp +contextual only [a_s_l12Record, c_s_l12Record, hn', h1, e_s_l12Bytes hs, e_s_l12Bytes ht, e_s_l1Stands hs, h2, h3, h4, h5, h6, Bool.and_false, go_sem, entry, joinEsc, if_pos, reduceIte, Nat.reduceAdd, Nat.reduceLeDiff, Nat.reduceLT, Nat.reduceEqDiff]

end Go.Proofs.YtemcdiajejekoaaDoor.Slim

/- The parts of a text between bytes. -/
namespace Go.Proofs.YtemcdiajejekoaaDoor.Slim

open Go

set_option linter.unusedSimpArgs false

set_option linter.unusedVariables false

variable {pr : Prims} {H : List Blk} {e : Option Nat}

/-- one more element, out of a block of its own -/
theorem append_last {G : List Blk} {j n sz bytes : Nat} {cs new : List AV} {cap c : Option Nat} {w : Bool} (hG : G[j]? = some (.cells cs true)) (hcap : cap = some 0 → n = 0) (hcs : cs.length = n * sz) (hnew : new.length = sz) (hmb : (n + 1) * bytes ≤ maxBytes) :
    appendV (H ++ (G ++ [.cells new w])) e false sz bytes (.slice (some (H.length + j, 0)) sz n cap) (.slice (some (H.length + G.length, 0)) sz 1 c) =
      some (.slice (some (H.length + (G.length + 1), 0)) sz (n + 1) none, ⟨H ++ (killIf cap j (G ++ [.cells new w]) ++ [.cells (cs ++ new) true]), e⟩) := by
  have hj := (List.getElem?_eq_some_iff.mp hG).1
  have hg : (G ++ [Blk.cells new w])[j]? = some (.cells cs true) := by rw [List.getElem?_append_left hj]; exact hG
  have hs : srcCells false (H ++ (G ++ [.cells new w])) (.slice (some (H.length + G.length, 0)) sz 1 c) = some (1, new) := by
    have : cellsAt (H ++ (G ++ [Blk.cells new w])) (H.length + G.length) = some new := by
      rw [cellsAt_newk, cellsAt_new0]; rfl
    exact srcCells_new _ 1 sz c new _ this (by rw [hnew, Nat.one_mul])
  have := appendV_more (e := e) (str := false) (bytes := bytes) hg hs (by omega) hcs (by rw [hnew, Nat.one_mul]) hmb hcap
  rw [List.length_append, List.length_singleton] at this
  exact this

theorem killIf_get {cap : Option Nat} {j k : Nat} {G : List Blk} (h : k ≠ j) : (killIf cap j G)[k]? = G[k]? := by
  unfold killIf
  split
  · rfl
  · rw [List.getElem?_set_ne (fun e => h e.symm)]

theorem killIf_last {cap : Option Nat} {j : Nat} {G : List Blk} {b : Blk} {n : Nat} (hn : n = G.length) : (killIf cap j G ++ [b])[n]? = some b := by
  rw [List.getElem?_append_right (by rw [killIf_length]; omega), killIf_length]
  simp [hn]

def splitL (c : UInt8) : By → List By
  | [] => [[]]
  | b :: l => if b = c then [] :: splitL c l else match splitL c l with
    | [] => [[b]]
    | x :: xs => (b :: x) :: xs

theorem splitL_ne (c : UInt8) : ∀ l : By, splitL c l ≠ []
  | [] => by simp [splitL]
  | b :: l => by
    rw [splitL]
    split
    · simp
    · split <;> simp

theorem splitL_no {c : UInt8} : ∀ {l : By}, (∀ b ∈ l, b ≠ c) → splitL c l = [l]
  | [], _ => rfl
  | b :: l, h => by
    rw [splitL, if_neg (h b (by simp)), splitL_no (fun x hx => h x (by simp [hx]))]

theorem splitL_at {c : UInt8} (q : By) : ∀ {p : By}, (∀ b ∈ p, b ≠ c) → splitL c (p ++ c :: q) = p :: splitL c q
  | [], _ => by rw [List.nil_append, splitL, if_pos rfl]
  | b :: p, h => by
    rw [List.cons_append, splitL, if_neg (h b (by simp)), splitL_at q (fun x hx => h x (by simp [hx]))]

theorem cutA_no (c : UInt8) : ∀ (l : By) (b : UInt8), b ∈ cutA l c → b ≠ c
  | [], b, h => by simp [cutA] at h
  | x :: l, b, h => by
    unfold cutA at h
    rw [List.takeWhile_cons] at h
    split at h
    · rename_i hx
      rcases List.mem_cons.mp h with rfl | h
      · simpa using hx
      · exact cutA_no c l b h
    · cases h

theorem cut_whole (c : UInt8) : ∀ (l : By), l.contains c = true → l = cutA l c ++ c :: cutB l c
  | [], h => by simp at h
  | x :: l, h => by
    unfold cutA cutB
    rw [List.takeWhile_cons, List.dropWhile_cons]
    by_cases hx : x = c
    · subst hx
      simp
    · have h2 : (x != c) = true := by simpa using hx
      have h3 : l.contains c = true := by
        rw [List.contains_cons] at h
        have : (c == x) = false := by simpa using fun e => hx e.symm
        rw [this, Bool.false_or] at h
        exact h
      have ih := cut_whole c l h3
      unfold cutA cutB at ih
      rw [h2]
      simp only [if_true, List.cons_append]
      rw [← ih]

theorem splitL_cut (c : UInt8) (l : By) : ∃ xs, splitL c l = cutA l c :: xs ∧ (xs = [] ↔ l.contains c = false) := by
  cases hc : l.contains c with
  | false =>
    have hno : ∀ b ∈ l, b ≠ c := by
      rintro b hb rfl
      rw [List.contains_eq_mem, decide_eq_false_iff_not] at hc
      exact hc hb
    have hA : cutA l c = l := by
      rcases cut_index l c with ⟨_, _, e, _⟩ | ⟨i, _, _, e, _, _⟩
      · exact e
      · rw [hc] at e; cases e
    exact ⟨[], by rw [splitL_no hno, hA], by simp⟩
  | true =>
    refine ⟨splitL c (cutB l c), ?_, ?_⟩
    · have := splitL_at (cutB l c) (cutA_no c l)
      rw [← cut_whole c l hc] at this
      exact this
    · constructor
      · intro h; exact absurd h (splitL_ne c _)
      · intro h; cases h

theorem splitL_len (c : UInt8) : ∀ l : By, (splitL c l).length ≤ l.length + 1
  | [] => by simp [splitL]
  | b :: l => by
    have ih := splitL_len c l
    rw [splitL]
    split
    · simp; omega
    · split
      · simp
      · rename_i h
        rw [h] at ih
        simp at ih ⊢
        omega

def strC (xs : List By) : List AV := xs.map sV

theorem strC_length (xs : List By) : (strC xs).length = xs.length := List.length_map _

theorem strC_append (a b : List By) : strC (a ++ b) = strC a ++ strC b := List.map_append

theorem under_strC (n : Nat) (xs : List By) : ((strC xs).all fun c => c.under n) = true := by
  unfold strC
  simp [AV.under]

abbrev slX (b n : Nat) (c : Option Nat) : AV := .slice (some (b, 0)) 1 n c

theorem beq_u8 (a b : UInt8) : decide ((a.toNat : Int) = (b.toNat : Int)) = decide (a = b) := decide_eq_decide.mpr ⟨fun h => UInt8.toNat_inj.mp (by omega), fun h => by rw [h]⟩

theorem e_s_l1Split (l : By) (c : UInt8) (hn : l.length ≤ 1073741824) : call T pr f_s_l1Split [sV l, .int .u8 c.toNat] ⟨H, e⟩ = some (slX H.length (splitL c l).length none, ⟨H ++ [.cells (strC (splitL c l)) true], e⟩) := by
  apply Wc.eq
  rw [call_wc t_s_l1Split]
  simp +contextual only [a_s_l1Split, c_s_l1Split, fillParts, Wp_some, Wp_none, Wp_ite, Wc_some, Wc_none, Wc_ite, Wp_thenRun, seqQ_normal, seqQ_exit, seqQ_ret, Wp_inBlock, blkQ_normal, blkQ_ret, blkQ_same, blkQ_exit, Wp_opThen, opQ_at, Wp_guardP, retQ_normal, retQ_ret, loopQ_normal, loopQ_exit, loopQ_ret, go_sem, entry, joinEsc, if_pos, reduceIte, Nat.reduceAdd, Nat.reduceLeDiff, Nat.reduceLT, Nat.reduceEqDiff]
  refine Wp_loop (fun k st => ∃ (i f j : Nat) (xs : List By) (cap : Option Nat) (G : List Blk) (y2 y6 y7 : AV), k + i = l.length ∧ f ≤ i ∧ xs.length ≤ i ∧ xs ++ splitL c (l.drop f) = splitL c l ∧ (∀ b ∈ (l.take i).drop f, b ≠ c) ∧ G[j]? = some (.cells (strC xs) true) ∧ (cap = some 0 → xs.length = 0) ∧
    st = ⟨[sV l, .int .u8 c.toNat, y2, slX (H.length + j) xs.length cap, .int .i64 f, .int .i64 i, y6, y7], ⟨H ++ G, none⟩⟩) ?_ l.length _
    ⟨0, 0, 0, [], some 0, [.cells [] true], _, _, _, by omega, by omega, by simp, rfl, by simp, rfl, fun _ => rfl, rfl⟩
  rintro k _ ⟨i, f, j, xs, cap, G, y2, y6, y7, hk, hf, hxl, hs, hno, hG, hcap, rfl⟩
  have hmb : ∀ n, n ≤ 1073741824 → (n + 1) * 16 ≤ maxBytes := by intro n hn; unfold maxBytes; omega
  by_cases hi : i < l.length
  · have hl : l[i]? = some l[i] := List.getElem?_eq_getElem hi
    have hile : i ≤ l.length := by omega
    have happ := fun e' => append_last (H := H) (e := e') (G := G) (j := j) (n := xs.length) (sz := 1) (bytes := 16) (cs := strC xs) (new := [sV ((l.take i).drop f)]) (cap := cap) (c := some 1) (w := true) hG hcap (by rw [strC_length, Nat.mul_one]) rfl (hmb _ (by omega))
    have hb8 := beq_u8 l[i] c
    cases hc : decide (l[i] = c) with
    | true =>
      rw [hc] at hb8
      have hc' : l[i] = c := of_decide_eq_true hc
      simp +contextual only [w_s_l1Split_1, fillParts, hi, bs_size, List.size_toArray, bs_get hl, hb8, aop_subLH, subV_LH, hf, hile, happ, wrap_succ (show i < 9223372036854775807 by omega), decide_true, Wp_some, Wp_none, Wp_ite, Wc_some, Wc_none, Wc_ite, Wp_thenRun, seqQ_normal, seqQ_exit, seqQ_ret, Wp_inBlock, blkQ_normal, blkQ_ret, blkQ_same, blkQ_exit, Wp_opThen, opQ_at, Wp_guardP, retQ_normal, retQ_ret, loopQ_normal, loopQ_exit, loopQ_ret, go_sem, entry, joinEsc, if_pos, reduceIte, Nat.reduceAdd, Nat.reduceLeDiff, Nat.reduceLT, Nat.reduceEqDiff]
      have hsc : strC xs ++ [sV ((l.take i).drop f)] = strC (xs ++ [(l.take i).drop f]) := by rw [strC_append]; rfl
      have hlen : xs.length + 1 = (xs ++ [(l.take i).drop f]).length := by simp
      rw [hsc, hlen]
      refine ⟨k - 1, by omega, i + 1, i + 1, G.length + 1, xs ++ [(l.take i).drop f], none, killIf cap j (G ++ [.cells [sV ((l.take i).drop f)] true]) ++ [.cells (strC (xs ++ [(l.take i).drop f])) true], _, _, _, by omega, by omega, by simp; omega, ?_, ?_, killIf_last (by rw [List.length_append]; rfl), (fun h => by cases h), rfl⟩
      · rw [← hs, List.append_assoc]
        congr 1
        have hd : l.drop f = (l.take i).drop f ++ c :: l.drop (i + 1) := by
          rw [← hc', ← List.drop_eq_getElem_cons hi]
          rw [show l.drop i = (l.drop f).drop (i - f) by rw [List.drop_drop]; congr 1; omega]
          rw [List.drop_take, List.take_append_drop]
        rw [hd, splitL_at _ hno]
        rfl
      · intro b hb
        rw [List.drop_eq_nil_of_le (by rw [List.length_take]; omega)] at hb
        cases hb
    | false =>
      rw [hc] at hb8
      have hc' : l[i] ≠ c := of_decide_eq_false hc
      simp +contextual only [w_s_l1Split_1, fillParts, hi, bs_size, List.size_toArray, bs_get hl, hb8, wrap_succ (show i < 9223372036854775807 by omega), decide_true, Wp_some, Wp_none, Wp_ite, Wc_some, Wc_none, Wc_ite, Wp_thenRun, seqQ_normal, seqQ_exit, seqQ_ret, Wp_inBlock, blkQ_normal, blkQ_ret, blkQ_same, blkQ_exit, Wp_opThen, opQ_at, Wp_guardP, retQ_normal, retQ_ret, loopQ_normal, loopQ_exit, loopQ_ret, go_sem, entry, joinEsc, if_pos, reduceIte, Nat.reduceAdd, Nat.reduceLeDiff, Nat.reduceLT, Nat.reduceEqDiff]
      refine ⟨k - 1, by omega, i + 1, f, j, xs, cap, G, _, _, _, by omega, by omega, by omega, hs, ?_, hG, hcap, rfl⟩
      intro b hb
      rw [List.take_add_one, hl, List.drop_append_of_le_length (by simp; omega)] at hb
      rcases List.mem_append.mp hb with hb | hb
      · exact hno b hb
      · simp at hb
        rw [hb]; exact hc'
  · obtain rfl : i = l.length := by omega
    rw [List.take_length] at hno
    have hfin : splitL c l = xs ++ [l.drop f] := by rw [← hs, splitL_no hno]
    have happ := fun e' => append_last (H := H) (e := e') (G := G) (j := j) (n := xs.length) (sz := 1) (bytes := 16) (cs := strC xs) (new := [sV (l.drop f)]) (cap := cap) (c := some 1) (w := true) hG hcap (by rw [strC_length, Nat.mul_one]) rfl (hmb _ (by omega))
    have hlast : ∀ b, (killIf cap j (G ++ [.cells [sV (l.drop f)] true]) ++ [b])[G.length + 1]? = some b := fun b => killIf_last (by rw [List.length_append]; rfl)
    rw [hfin]
    have hsc : strC xs ++ [sV (l.drop f)] = strC (xs ++ [l.drop f]) := by rw [strC_append]; rfl
    simp +contextual only [w_s_l1Split_1, fillParts, hi, bs_size, List.size_toArray, aop_subL, subV_L, hf, happ, hlast, hsc, under_strC, decide_false, Wp_some, Wp_none, Wp_ite, Wc_some, Wc_none, Wc_ite, Wp_thenRun, seqQ_normal, seqQ_exit, seqQ_ret, Wp_inBlock, blkQ_normal, blkQ_ret, blkQ_same, blkQ_exit, Wp_opThen, opQ_at, Wp_guardP, retQ_normal, retQ_ret, loopQ_normal, loopQ_exit, loopQ_ret, finish_one_eq, finish_one_eq0, finish_two_eq, finish_two_eq0, roots_slice_new, roots_slice_new0, roots_slice_none, roots_ptr_new, roots_ptr_new0, roots_int, roots_bool, roots_str, roots_agg, roots_tup, roots_cons, roots_nil, rename_slice, rename_slice_none, rename_ptr, rename_int, rename_bool, rename_str, rename_agg, rename_tup, rename_cons, rename_nil, keepBlks_nil, keepBlks_cons, flatAll_nil, flatAll_cons, flatBlk_cells, dedup_nil, dedup_one, dedup_two, renum_one, renum_one0, renum_two0, renum_two1, clean_none', clean_some, minEsc_none, minEsc_some, Nat.add_left_cancel_iff, Nat.le_add_right, Nat.le_refl, decide_true, go_sem, entry, joinEsc, if_pos, reduceIte, Nat.reduceAdd, Nat.reduceLeDiff, Nat.reduceLT, Nat.reduceEqDiff]

end Go.Proofs.YtemcdiajejekoaaDoor.Slim

/- Decoding the line of a record. -/
namespace Go.Proofs.YtemcdiajejekoaaDoor.Slim

open Go

set_option linter.unusedSimpArgs false

set_option linter.unusedVariables false

variable {pr : Prims} {H : List Blk} {e : Option Nat}

theorem cut_at {p q : By} {c : UInt8} (h : p.contains c = false) : cutA (p ++ c :: q) c = p ∧ cutB (p ++ c :: q) c = q := by
  have hno : ∀ b ∈ p, (b != c) = true := by
    intro b hb
    rw [List.contains_eq_mem, decide_eq_false_iff_not] at h
    have : b ≠ c := fun e => h (e ▸ hb)
    simpa using this
  unfold cutA cutB
  constructor
  · rw [List.takeWhile_append_of_pos hno]
    simp
  · rw [List.dropWhile_append_of_pos hno]
    simp

theorem cutA_len (l : By) (c : UInt8) : (cutA l c).length ≤ l.length := by
  rcases cut_index l c with ⟨_, _, e, _⟩ | ⟨i, _, h, _, e, _⟩ <;> rw [e]
  · exact Nat.le_refl _
  · rw [List.length_take]; omega

theorem cutB_len (l : By) (c : UInt8) : (cutB l c).length ≤ l.length := by
  rcases cut_index l c with ⟨_, _, _, e⟩ | ⟨i, _, h, _, _, e⟩ <;> rw [e]
  · simp
  · rw [List.length_drop]; omega

theorem cutB_drop {l : By} {c : UInt8} (h : l.contains c = true) : cutB l c = l.drop ((cutA l c).length + 1) ∧ (cutA l c).length + 1 ≤ l.length := by
  rcases cut_index l c with ⟨_, e, _, _⟩ | ⟨i, _, hi, _, ea, eb⟩
  · rw [e] at h; cases h
  · rw [eb, ea, List.length_take, Nat.min_eq_left (by omega)]
    exact ⟨rfl, by omega⟩

theorem cutA_all {l : By} {c : UInt8} (h : l.contains c = false) : cutA l c = l := by
  rcases cut_index l c with ⟨_, _, e, _⟩ | ⟨i, _, _, e, _, _⟩
  · exact e
  · rw [h] at e; cases e

/-- the record of a line -/
def restF (k : Int) (l : By) : By := (cutA l 35).drop ((Lib.itoa k).length + 1)

def decF (k : Int) (l : By) : Option (By × By) :=
  if rcOk (cutA (restF k l) 64) (cutB (restF k l) 64) = true ∧ lineL k (cutA (restF k l) 64) (cutB (restF k l) 64) = l ++ [10] then some (cutA (restF k l) 64, cutB (restF k l) 64) else none

theorem itoa_no32 {k : Int} (h0 : 0 ≤ k) : (Lib.itoa k).contains 32 = false := itoa_no h0 (by decide)

/-- a line that is a record's is no other one's -/
theorem line_facts {k : Int} {c r l : By} (h0 : 0 ≤ k) (h1 : k ≤ 59) (hv : rcOk c r = true) (hl : lineL k c r = l ++ [10]) :
    l = sealL (bodyL k c r) ∧ cutA l 35 = bodyL k c r ∧ restF k l = c ++ 64 :: r ∧ cutB (bodyL k c r) 32 = c ++ 64 :: r ∧ cutA (c ++ 64 :: r) 64 = c ∧ cutB (c ++ 64 :: r) 64 = r := by
  have e1 : l = sealL (bodyL k c r) := by
    unfold lineL at hl
    exact (List.append_inj' hl rfl).1.symm
  have e2 : cutA l 35 = bodyL k c r := by
    rw [e1]
    unfold sealL
    rw [List.append_assoc]
    exact (cut_at (body_no35 h0 hv)).1
  have hb : bodyL k c r = Lib.itoa k ++ 32 :: (c ++ 64 :: r) := by unfold bodyL; simp
  have e3 : restF k l = c ++ 64 :: r := by
    unfold restF
    rw [e2, hb]
    have : Lib.itoa k ++ 32 :: (c ++ 64 :: r) = (Lib.itoa k ++ [32]) ++ (c ++ 64 :: r) := by simp
    rw [this, List.drop_left' (by simp)]
  have h64 := (rc_facts hv).2.2.2.2.2
  refine ⟨e1, e2, e3, ?_, (cut_at h64).1, (cut_at h64).2⟩
  rw [hb]
  exact (cut_at (itoa_no32 h0)).2

theorem decF_iff {k : Int} {l : By} (h0 : 0 ≤ k) (h1 : k ≤ 59) {c r : By} : decF k l = some (c, r) ↔ rcOk c r = true ∧ lineL k c r = l ++ [10] := by
  unfold decF
  constructor
  · intro h
    split at h
    · rename_i hc
      cases h
      exact hc
    · cases h
  · rintro ⟨hv, hl⟩
    obtain ⟨_, _, e3, _, e5, e6⟩ := line_facts h0 h1 hv hl
    rw [e3, e5, e6, if_pos ⟨hv, hl⟩]

/-- what the program reads off a line -/
def verF (l : By) : Option By := if ackOk (cutA l 35) = true ∧ sealL (cutA l 35) = l then some (cutA l 35) else none

def iC (l : By) : By := cutA (cutB ((verF l).getD []) 32) 64

def iR (l : By) : By := cutB (cutB ((verF l).getD []) 32) 64

theorem iC_len (l : By) : (iC l).length ≤ l.length ∧ (iR l).length ≤ l.length := by
  have h : ((verF l).getD []).length ≤ l.length := by
    unfold verF
    split
    · exact cutA_len l 35
    · simp
  have h2 := cutB_len ((verF l).getD []) 32
  have h3 := cutA_len (cutB ((verF l).getD []) 32) 64
  have h4 := cutB_len (cutB ((verF l).getD []) 32) 64
  unfold iC iR
  omega

theorem i_dec {k : Int} {l c r : By} (h0 : 0 ≤ k) (h1 : k ≤ 59) (h : decF k l = some (c, r)) : (verF l).isSome = true ∧ iC l = c ∧ iR l = r := by
  obtain ⟨hv, hl⟩ := (decF_iff h0 h1).mp h
  obtain ⟨e1, e2, e3, e4, e5, e6⟩ := line_facts h0 h1 hv hl
  have hver : verF l = some (bodyL k c r) := by
    unfold verF
    rw [e2, if_pos ⟨body_ack h0 h1 hv, e1.symm⟩]
  unfold iC iR
  rw [hver]
  simp only [Option.getD_some, e4, e5, e6, Option.isSome_some, and_self]

theorem i_dec_ok {k : Int} {l : By} (h0 : 0 ≤ k) (h1 : k ≤ 59) : ((verF l).isSome && (encOk k (iC l) (iR l) && decide (lineL k (iC l) (iR l) = l ++ [10]))) = (decF k l).isSome := by
  cases hd : decF k l with
  | some p =>
    obtain ⟨c, r⟩ := p
    obtain ⟨g1, g2, g3⟩ := i_dec h0 h1 hd
    obtain ⟨hv, hl⟩ := (decF_iff h0 h1).mp hd
    rw [g1, g2, g3]
    simp [encOk, h0, h1, hv, hl]
  | none =>
    cases hx : ((verF l).isSome && (encOk k (iC l) (iR l) && decide (lineL k (iC l) (iR l) = l ++ [10]))) with
    | false => rfl
    | true =>
      simp only [Bool.and_eq_true, decide_eq_true_eq, encOk] at hx
      have := (decF_iff h0 h1).mpr ⟨hx.2.1.2, hx.2.2⟩
      rw [hd] at this
      cases this

theorem e_i_VerifyChecksum (hi : HasItoa pr) (hc : HasContains pr) (hx : HasIndex pr) (l : By) (hn : l.length ≤ 1048576) : call T pr f_i_VerifyChecksum [sV l] ⟨H, e⟩ = some (.tup [sV ((verF l).getD []), .bool (verF l).isSome], ⟨H, e⟩) := by
  have hcut := fun L => e_strings_Cut (pr := pr) (H := L) (e := none) hx l 35 (by omega)
  have hA := cutA_len l 35
  have hack := fun L => e_i_AppendChecksum (pr := pr) (H := L) (e := none) hi hc (cutA l 35) (by omega)
  rw [call_eq t_i_VerifyChecksum]
  unfold verF
  cases ha : ackOk (cutA l 35) with
  | false =>
    simp only [ha, Bool.false_eq_true, if_false] at hack
    simp +contextual only [a_i_VerifyChecksum, c_i_VerifyChecksum, hcut, hack, false_and, if_false, Option.getD_none, Option.isSome_none, go_sem, entry, joinEsc, if_pos, reduceIte, Nat.reduceAdd, Nat.reduceLeDiff, Nat.reduceLT, Nat.reduceEqDiff]
  | true =>
    simp only [ha, if_true] at hack
    have hbd := bs_decide (sealL (cutA l 35)) l
    cases hd : decide (sealL (cutA l 35) = l) with
    | false =>
      rw [hd] at hbd
      have hd' := of_decide_eq_false hd
      simp +contextual only [a_i_VerifyChecksum, c_i_VerifyChecksum, hcut, hack, hbd, hd', and_false, if_false, Option.getD_none, Option.isSome_none, go_sem, entry, joinEsc, if_pos, reduceIte, Nat.reduceAdd, Nat.reduceLeDiff, Nat.reduceLT, Nat.reduceEqDiff]
    | true =>
      rw [hd] at hbd
      rw [if_pos ⟨rfl, of_decide_eq_true hd⟩]
      simp +contextual only [a_i_VerifyChecksum, c_i_VerifyChecksum, hcut, hack, hbd, Option.getD_some, Option.isSome_some, go_sem, entry, joinEsc, if_pos, reduceIte, Nat.reduceAdd, Nat.reduceLeDiff, Nat.reduceLT, Nat.reduceEqDiff]

theorem e_i_decode (hi : HasItoa pr) (hc : HasContains pr) (hx : HasIndex pr) {k : Int} (h0 : 0 ≤ k) (h1 : k ≤ 59) (l : By) (hn : l.length ≤ 1048576) : call T pr f_i_decode [.int .i64 k, sV l] ⟨H, e⟩ = some (.tup [rcV (bs (iC l)) (bs (iR l)), .bool (decF k l).isSome], ⟨H, e⟩) := by
  have hver := fun L => e_i_VerifyChecksum (pr := pr) (H := L) (e := none) hi hc hx l hn
  have hvl : ((verF l).getD []).length ≤ l.length := by
    unfold verF
    split
    · exact cutA_len l 35
    · simp
  have hcut1 := fun L => e_strings_Cut (pr := pr) (H := L) (e := none) hx ((verF l).getD []) 32 (by omega)
  have hB := cutB_len ((verF l).getD []) 32
  have hcut2 := fun L => e_strings_Cut (pr := pr) (H := L) (e := none) hx (cutB ((verF l).getD []) 32) 64 (by omega)
  have hcr := iC_len l
  have henc := fun L => e_i_EncodeRecord (pr := pr) (H := L) (e := none) hi hc (c := iC l) (r := iR l) (by omega) (by omega) k
  have hok := i_dec_ok (l := l) h0 h1
  have hll : l.length + 1 ≤ 140737488355328 := by omega
  have hbd := bs_decide (lineL k (iC l) (iR l)) (l ++ [10])
  rw [call_eq t_i_decode, ← hok]
  have eC : cutA (cutB ((verF l).getD []) 32) 64 = iC l := rfl
  have eR : cutB (cutB ((verF l).getD []) 32) 64 = iR l := rfl
  rw [eC, eR] at hcut2
  generalize iC l = c at *
  generalize iR l = r at *
  cases hv : (verF l).isSome with
  | false =>
    rw [hv] at hver
    cases ho : encOk k c r with
    | false =>
      simp only [ho, Bool.false_eq_true, if_false] at henc
      simp +contextual only [a_i_decode, c_i_decode, fillParts, hver, hcut1, hcut2, henc, go_sem, entry, joinEsc, if_pos, reduceIte, Nat.reduceAdd, Nat.reduceLeDiff, Nat.reduceLT, Nat.reduceEqDiff]
    | true =>
      simp only [ho, if_true] at henc
      simp +contextual only [a_i_decode, c_i_decode, fillParts, hver, hcut1, hcut2, henc, go_sem, entry, joinEsc, if_pos, reduceIte, Nat.reduceAdd, Nat.reduceLeDiff, Nat.reduceLT, Nat.reduceEqDiff]
  | true =>
    rw [hv] at hver
    cases ho : encOk k c r with
    | false =>
      simp only [ho, Bool.false_eq_true, if_false] at henc
      simp +contextual only [a_i_decode, c_i_decode, fillParts, hver, hcut1, hcut2, henc, go_sem, entry, joinEsc, if_pos, reduceIte, Nat.reduceAdd, Nat.reduceLeDiff, Nat.reduceLT, Nat.reduceEqDiff]
    | true =>
      simp only [ho, if_true] at henc
      simp +contextual only [a_i_decode, c_i_decode, fillParts, hver, hcut1, hcut2, henc, binop_sadd, hll, List.length_singleton, hbd, go_sem, entry, joinEsc, if_pos, reduceIte, Nat.reduceAdd, Nat.reduceLeDiff, Nat.reduceLT, Nat.reduceEqDiff]

end Go.Proofs.YtemcdiajejekoaaDoor.Slim

/- Decoding the line of a record, on the reference's side. -/
namespace Go.Proofs.YtemcdiajejekoaaDoor.Slim

open Go

set_option linter.unusedSimpArgs false

set_option linter.unusedVariables false

variable {pr : Prims} {H : List Blk} {e : Option Nat}

/-- does what stands ahead of the checksum begin with the number? -/
def aheadF (k : Int) (l : By) : Prop := ¬ (cutA l 35).length < (Lib.itoa k ++ [32]).length ∧ (cutA l 35).take (Lib.itoa k ++ [32]).length = Lib.itoa k ++ [32]

instance (k : Int) (l : By) : Decidable (aheadF k l) := by unfold aheadF; infer_instance

/-- the reference's record of a line -/
def sPair (k : Int) (l : By) : By × By :=
  if aheadF k l ∧ (cutA (restF k l) 64).length ≠ (restF k l).length then (cutA (restF k l) 64, (restF k l).drop ((cutA (restF k l) 64).length + 1)) else ([], [])

theorem contains_len (l : By) (c : UInt8) : (cutA l c).length = l.length ↔ l.contains c = false := by
  rcases cut_index l c with ⟨_, e2, e3, _⟩ | ⟨i, _, hi, e2, e3, _⟩
  · rw [e2, e3]; simp
  · rw [e2, e3, List.length_take]
    simp
    omega

theorem s_dec {k : Int} {l c r : By} (h0 : 0 ≤ k) (h1 : k ≤ 59) (h : decF k l = some (c, r)) : aheadF k l ∧ (cutA (restF k l) 64).length ≠ (restF k l).length ∧ sPair k l = (c, r) := by
  obtain ⟨hv, hl⟩ := (decF_iff h0 h1).mp h
  obtain ⟨e1, e2, e3, e4, e5, e6⟩ := line_facts h0 h1 hv hl
  have hb : bodyL k c r = (Lib.itoa k ++ [32]) ++ (c ++ 64 :: r) := by unfold bodyL; simp
  have ha : aheadF k l := by
    unfold aheadF
    rw [e2, hb]
    refine ⟨by rw [List.length_append]; omega, ?_⟩
    rw [List.take_left']
    rfl
  have hc : (cutA (restF k l) 64).length ≠ (restF k l).length := by
    rw [e3]
    intro hh
    have := (contains_len _ _).mp hh
    simp at this
  refine ⟨ha, hc, ?_⟩
  unfold sPair
  rw [if_pos ⟨ha, hc⟩, e3, e5]
  have : (c ++ 64 :: r).drop (c.length + 1) = r := by
    rw [show c ++ 64 :: r = (c ++ [64]) ++ r by simp, List.drop_left' (by simp)]
  rw [this]

theorem s_dec_ok {k : Int} {l : By} (h0 : 0 ≤ k) (h1 : k ≤ 59) (ha : aheadF k l) (hne : (cutA (restF k l) 64).length ≠ (restF k l).length) :
    (rcOk (cutA (restF k l) 64) ((restF k l).drop ((cutA (restF k l) 64).length + 1)) && decide (lineL k (cutA (restF k l) 64) ((restF k l).drop ((cutA (restF k l) 64).length + 1)) = l ++ [10])) = (decF k l).isSome := by
  have h64 : (restF k l).contains 64 = true := by
    cases h : (restF k l).contains 64 with
    | true => rfl
    | false => exact absurd ((contains_len _ _).mpr h) hne
  rw [← (cutB_drop h64).1]
  unfold decF
  by_cases hc : rcOk (cutA (restF k l) 64) (cutB (restF k l) 64) = true ∧ lineL k (cutA (restF k l) 64) (cutB (restF k l) 64) = l ++ [10]
  · rw [if_pos hc, hc.1, decide_eq_true hc.2]; rfl
  · rw [if_neg hc]
    cases hx : (rcOk (cutA (restF k l) 64) (cutB (restF k l) 64) && decide (lineL k (cutA (restF k l) 64) (cutB (restF k l) 64) = l ++ [10])) with
    | false => rfl
    | true => exact absurd (by simpa using hx) hc

theorem s_dec_no {k : Int} {l : By} (h0 : 0 ≤ k) (h1 : k ≤ 59) (h : ¬ (aheadF k l ∧ (cutA (restF k l) 64).length ≠ (restF k l).length)) : decF k l = none := by
  cases hd : decF k l with
  | none => rfl
  | some p =>
    obtain ⟨c, r⟩ := p
    obtain ⟨g1, g2, _⟩ := s_dec h0 h1 hd
    exact absurd ⟨g1, g2⟩ h

theorem split_call (l : By) (c : UInt8) (hn : l.length ≤ 1073741824) : ∃ xs : List By, (xs = [] ↔ l.contains c = false) ∧ xs.length ≤ l.length ∧ ∀ (L : List Blk) (e' : Option Nat), call T pr f_s_l1Split [sV l, .int .u8 c.toNat] ⟨L, e'⟩ = some (slX L.length (xs.length + 1) none, ⟨L ++ [.cells (sV (cutA l c) :: strC xs) true], e'⟩) := by
  obtain ⟨xs, h1, h2⟩ := splitL_cut c l
  have h3 := splitL_len c l
  rw [h1, List.length_cons] at h3
  refine ⟨xs, h2, by omega, fun L e' => ?_⟩
  rw [e_s_l1Split l c hn, h1]
  rfl

theorem e_s_l12Decode {k : Int} (h0 : 0 ≤ k) (h1 : k ≤ 59) (l : By) (hn : l.length ≤ 1048576) : call T pr f_s_l12Decode [sV l, .int .i64 k] ⟨H, e⟩ = some (.tup [rcV (bs (sPair k l).1) (bs (sPair k l).2), .bool (decF k l).isSome], ⟨H, e⟩) := by
  have hnum := fun L => e_s_l1Num (pr := pr) (H := L) (e := none) k (by omega) (by omega)
  have hil := itoa_len (n := k) (by omega) (by omega)
  have g1 : (Lib.itoa k).length + 1 ≤ 140737488355328 := by omega
  obtain ⟨xs, _, hxl, hsp⟩ := split_call (pr := pr) l 35 (by omega)
  have hsp35 : ∀ (L : List Blk) (e' : Option Nat), call T pr f_s_l1Split [sV l, .int .u8 35] ⟨L, e'⟩ = some (slX L.length (xs.length + 1) none, ⟨L ++ [.cells (sV (cutA l 35) :: strC xs) true], e'⟩) := hsp
  have hA := cutA_len l 35
  have hpos : ∀ n : Nat, (0 : Int) < ((n + 1 : Nat) : Int) := fun n => by omega
  rw [call_eq t_s_l12Decode]
  have hlt : decide (((cutA l 35).length : Int) < ((Lib.itoa k ++ [32]).length : Int)) = decide ((cutA l 35).length < (Lib.itoa k ++ [32]).length) := decide_eq_decide.mpr (by omega)
  have hal : (Lib.itoa k ++ [32]).length = (Lib.itoa k).length + 1 := by simp
  by_cases ha1 : (cutA l 35).length < (Lib.itoa k ++ [32]).length
  · have hno : ¬ aheadF k l := fun h => h.1 ha1
    have hd := s_dec_no h0 h1 (fun h => hno h.1)
    have hs : sPair k l = ([], []) := by unfold sPair; rw [if_neg (fun h => hno h.1)]
    rw [hd, hs]
    have hlt' : decide ((cutA l 35).length < (Lib.itoa k).length + 1) = true := decide_eq_true (by omega)
    simp +contextual only [a_s_l12Decode, c_s_l12Decode, fillParts, hnum, binop_sadd, g1, hsp35, hlt', hpos, bs_size, List.size_toArray, Int.le_refl, Int.toNat_zero, Nat.zero_mul, decide_true, Option.isSome_none, go_sem, entry, joinEsc, if_pos, reduceIte, Nat.reduceAdd, Nat.reduceLeDiff, Nat.reduceLT, Nat.reduceEqDiff]
  · have hlt' : decide ((cutA l 35).length < (Lib.itoa k).length + 1) = false := decide_eq_false (by omega)
    have hle1 : (Lib.itoa k).length + 1 ≤ (cutA l 35).length := by omega
    by_cases ha2 : (cutA l 35).take (Lib.itoa k ++ [32]).length = Lib.itoa k ++ [32]
    · have hah : aheadF k l := ⟨ha1, ha2⟩
      rw [hal] at ha2
      have hbd : decide (bs ((cutA l 35).take ((Lib.itoa k).length + 1)) = bs (Lib.itoa k ++ [32])) = true := by rw [bs_decide]; exact decide_eq_true ha2
      have hrl : (restF k l).length ≤ l.length := by unfold restF; rw [List.length_drop]; omega
      obtain ⟨ys, hy1, hyl, hspy⟩ := split_call (pr := pr) (restF k l) 64 (by omega)
      have hsp64 : ∀ (L : List Blk) (e' : Option Nat), call T pr f_s_l1Split [sV (restF k l), .int .u8 64] ⟨L, e'⟩ = some (slX L.length (ys.length + 1) none, ⟨L ++ [.cells (sV (cutA (restF k l) 64) :: strC ys) true], e'⟩) := hspy
      have hrd : (cutA l 35).drop ((Lib.itoa k).length + 1) = restF k l := rfl
      have hB := cutA_len (restF k l) 64
      by_cases hne : (cutA (restF k l) 64).length = (restF k l).length
      · have hd := s_dec_no h0 h1 (fun h => h.2 hne)
        have hs : sPair k l = ([], []) := by unfold sPair; rw [if_neg (fun h => h.2 hne)]
        rw [hd, hs]
        have heq : decide (((cutA (restF k l) 64).length : Int) = ((restF k l).length : Int)) = true := decide_eq_true (by omega)
        simp +contextual only [a_s_l12Decode, c_s_l12Decode, fillParts, hnum, binop_sadd, g1, hsp35, hsp64, hlt', hle1, hpos, hbd, hrd, heq, aop_subH, aop_subL, subV_H, subV_L, bs_size, List.size_toArray, Int.le_refl, Int.toNat_zero, Nat.zero_mul, decide_true, Option.isSome_none, Nat.add_assoc, go_sem, entry, joinEsc, if_pos, reduceIte, Nat.reduceAdd, Nat.reduceLeDiff, Nat.reduceLT, Nat.reduceEqDiff]
      · have hs : sPair k l = (cutA (restF k l) 64, (restF k l).drop ((cutA (restF k l) 64).length + 1)) := by unfold sPair; rw [if_pos ⟨hah, hne⟩]
        have hok := s_dec_ok h0 h1 hah hne
        rw [hs, ← hok]
        have heq : decide (((cutA (restF k l) 64).length : Int) = ((restF k l).length : Int)) = false := decide_eq_false (by omega)
        have hle2 : (cutA (restF k l) 64).length + 1 ≤ (restF k l).length := by omega
        have hw := wrap_succ (show (cutA (restF k l) 64).length < 9223372036854775807 by omega)
        have hcl : (cutA (restF k l) 64).length ≤ 1048576 := by omega
        have hdl : ((restF k l).drop ((cutA (restF k l) 64).length + 1)).length ≤ 1048576 := by rw [List.length_drop]; omega
        have hbd2 := bs_decide (lineL k (cutA (restF k l) 64) ((restF k l).drop ((cutA (restF k l) 64).length + 1))) (l ++ [10])
        generalize hr : (restF k l).drop ((cutA (restF k l) 64).length + 1) = r at hbd2 hdl ⊢
        clear hs hok
        generalize cutA (restF k l) 64 = c at *
        have hrec := fun L => e_s_l12Record (pr := pr) (H := L) (e := none) (s := bs c) (t := bs r) (by rw [bs_toList]; omega) (by rw [bs_toList]; omega)
        have hln := fun L => e_s_l12Line (pr := pr) (H := L) (e := none) (k := k) (c := c) (r := r) h0 (by omega) hcl hdl
        have hll : l.length + 1 ≤ 140737488355328 := by omega
        unfold rcOk
        cases hv : recOk (bs c) (bs r) <;> rw [hv] at hrec <;> simp +contextual only [a_s_l12Decode, c_s_l12Decode, fillParts, hnum, binop_sadd, g1, hsp35, hsp64, hlt', hle1, hle2, hpos, hbd, hrd, hr, hw, heq, hrec, hln, hll, hbd2, aop_subH, aop_subL, subV_H, subV_L, List.length_singleton, bs_size, List.size_toArray, Int.le_refl, Int.toNat_zero, Nat.zero_mul, decide_true, Nat.add_assoc, go_sem, entry, joinEsc, if_pos, reduceIte, Nat.reduceAdd, Nat.reduceLeDiff, Nat.reduceLT, Nat.reduceEqDiff]
    · have hno : ¬ aheadF k l := fun h => ha2 h.2
      have hd := s_dec_no h0 h1 (fun h => hno h.1)
      have hs : sPair k l = ([], []) := by unfold sPair; rw [if_neg (fun h => hno h.1)]
      rw [hal] at ha2
      have hbd : decide (bs ((cutA l 35).take ((Lib.itoa k).length + 1)) = bs (Lib.itoa k ++ [32])) = false := by rw [bs_decide]; exact decide_eq_false ha2
      rw [hd, hs]
      simp +contextual only [a_s_l12Decode, c_s_l12Decode, fillParts, hnum, binop_sadd, g1, hsp35, hlt', hle1, hpos, hbd, aop_subH, subV_H, bs_size, List.size_toArray, Int.le_refl, Int.toNat_zero, Nat.zero_mul, decide_true, Option.isSome_none, go_sem, entry, joinEsc, if_pos, reduceIte, Nat.reduceAdd, Nat.reduceLeDiff, Nat.reduceLT, Nat.reduceEqDiff]

end Go.Proofs.YtemcdiajejekoaaDoor.Slim

/- Reading the records at the start of a text, on both sides. -/
namespace Go.Proofs.YtemcdiajejekoaaDoor.Slim

open Go

set_option linter.unusedSimpArgs false

set_option linter.unusedVariables false

variable {pr : Prims} {H : List Blk} {e : Option Nat}

abbrev Rc := By × By

def rcC (p : Rc) : List AV := [sV p.1, sV p.2]

theorem rcC_length (p : Rc) : (rcC p).length = 2 := rfl

theorem rcC_under (p : Rc) (n : Nat) : ((rcC p).all fun c => c.under n) = true := by simp [rcC, AV.under]

abbrev recC (xs : List Rc) : List AV := encE rcC xs

abbrev slR (b n : Nat) (c : Option Nat) : AV := .slice (some (b, 0)) 2 n c

/-- the record at the start of a text, and how many bytes it takes -/
def headF (k : Nat) (l : By) : Option (Rc × Nat) := if l.contains 10 = true then (decF k (cutA l 10)).map fun p => (p, (cutA l 10).length + 1) else none

def openF : Nat → Nat → By → List Rc
  | 0, k, l => []
  | f + 1, k, l => match headF k l with
    | some (p, n) => p :: openF f (k + 1) (l.drop n)
    | none => []

def endsF : Nat → Nat → Nat → By → List Nat
  | 0, k, a, l => []
  | f + 1, k, a, l => match headF k l with
    | some (p, n) => (a + n) :: endsF f (k + 1) (a + n) (l.drop n)
    | none => []

theorem headF_le {k : Nat} {l : By} {p : Rc} {n : Nat} (h : headF k l = some (p, n)) : n ≤ l.length ∧ l.contains 10 = true ∧ decF k (cutA l 10) = some p ∧ n = (cutA l 10).length + 1 := by
  unfold headF at h
  split at h
  · rename_i hc
    obtain ⟨q, hq, hq2⟩ := Option.map_eq_some_iff.mp h
    cases hq2
    exact ⟨(cutB_drop hc).2, hc, hq, rfl⟩
  · cases h

theorem headF_none {k : Nat} {l : By} (h : headF k l = none) : l.contains 10 = false ∨ (decF k (cutA l 10)).isSome = false := by
  unfold headF at h
  split at h
  · right
    cases hd : decF k (cutA l 10) with
    | none => rfl
    | some p => rw [hd] at h; cases h
  · rename_i hc
    left
    simpa using hc

theorem headF_nil (k : Nat) : headF k [] = none := by simp [headF]

theorem openF_len : ∀ (f k a : Nat) (l : By), (openF f k l).length = (endsF f k a l).length ∧ (openF f k l).length ≤ f
  | 0, k, a, l => ⟨rfl, Nat.le_refl _⟩
  | f + 1, k, a, l => by
    rw [openF, endsF]
    cases h : headF k l with
    | none => simp
    | some p =>
      obtain ⟨p, n⟩ := p
      have := openF_len f (k + 1) (a + n) (l.drop n)
      simp only [List.length_cons]
      omega

def capF (n : Nat) : Option Nat := if n = 0 then some 0 else none

theorem capF_zero {n : Nat} (h : capF n = some 0) : n = 0 := by
  unfold capF at h
  split at h
  · assumption
  · cases h

def encN (ns : List Nat) : List AV := encI (ns.map fun n : Nat => (n : Int))

theorem encN_length (ns : List Nat) : (encN ns).length = ns.length := by simp [encN, encI]

theorem encN_append (a b : List Nat) : encN (a ++ b) = encN a ++ encN b := by simp [encN, encI]

theorem under_encN (n : Nat) (ns : List Nat) : ((encN ns).all fun c => c.under n) = true := by
  unfold encN encI
  simp [AV.under]

theorem e_i_recoverRecords (hi : HasItoa pr) (hc : HasContains pr) (hx : HasIndex pr) (l : By) (hn : l.length ≤ 1048576) : call T pr f_i_recoverRecords [sV l] ⟨H, e⟩ =
    some (.tup [slR H.length (openF 60 0 l).length (capF (openF 60 0 l).length), slI (H.length + 1) (openF 60 0 l).length (capF (openF 60 0 l).length)], ⟨H ++ [.cells (recC (openF 60 0 l)) true, .cells (encN (endsF 60 0 0 l)) true], e⟩) := by
  apply Wc.eq
  rw [call_wc t_i_recoverRecords]
  simp +contextual only [a_i_recoverRecords, c_i_recoverRecords, fillParts, Wp_some, Wp_none, Wp_ite, Wc_some, Wc_none, Wc_ite, Wp_thenRun, seqQ_normal, seqQ_exit, seqQ_ret, Wp_inBlock, blkQ_normal, blkQ_ret, blkQ_same, blkQ_exit, Wp_opThen, opQ_at, Wp_guardP, retQ_normal, retQ_ret, loopQ_normal, loopQ_exit, loopQ_ret, go_sem, entry, joinEsc, if_pos, reduceIte, Nat.reduceAdd, Nat.reduceLeDiff, Nat.reduceLT, Nat.reduceEqDiff]
  refine Wp_loop (fun n st => ∃ (a j1 j2 : Nat) (xs : List Rc) (es : List Nat) (cap : Option Nat) (G : List Blk) (y1 y2 y6 y7 y8 y9 y10 y11 : AV), cap = capF xs.length ∧ n + xs.length = 60 ∧ a ≤ l.length ∧ es.length = xs.length ∧ xs ++ openF n xs.length (l.drop a) = openF 60 0 l ∧ es ++ endsF n xs.length a (l.drop a) = endsF 60 0 0 l ∧ j1 ≠ j2 ∧
    G[j1]? = some (.cells (recC xs) true) ∧ G[j2]? = some (.cells (encN es) true) ∧
    st = ⟨[sV l, y1, y2, slR (H.length + j1) xs.length cap, slI (H.length + j2) xs.length cap, .int .i64 a, y6, y7, y8, y9, y10, y11], ⟨H ++ G, none⟩⟩) ?_ 60 _
    ⟨0, 0, 1, [], [], some 0, [.cells [] true, .cells [] true], _, _, _, _, _, _, _, _, rfl, rfl, by omega, rfl, rfl, rfl, by decide, rfl, rfl, rfl⟩
  rintro n _ ⟨a, j1, j2, xs, es, cap, G, y1, y2, y6, y7, y8, y9, y10, y11, rfl, hk, ha, hel, hop, hen, hj, g1, g2, rfl⟩
  have hmb : (xs.length + 1) * 32 ≤ maxBytes := by unfold maxBytes; omega
  have hmb2 : (xs.length + 1) * 8 ≤ maxBytes := by unfold maxBytes; omega
  cases n with
  | zero =>
    have h60 : xs.length = 60 := by omega
    have hx1 : openF 60 0 l = xs := by rw [← hop]; simp [openF]
    have hx2 : endsF 60 0 0 l = es := by rw [← hen]; simp [endsF]
    have hlt : decide ((xs.length : Int) < 60) = false := decide_eq_false (by omega)
    rw [hx1, hx2]
    simp +contextual only [w_i_recoverRecords_1, hlt, a_i_recoverRecords, g1, g2, under_encE rcC_under, under_encN, ne_eq, hj, not_false_eq_true, Wp_some, Wp_none, Wp_ite, Wc_some, Wc_none, Wc_ite, Wp_thenRun, seqQ_normal, seqQ_exit, seqQ_ret, Wp_inBlock, blkQ_normal, blkQ_ret, blkQ_same, blkQ_exit, Wp_opThen, opQ_at, Wp_guardP, retQ_normal, retQ_ret, loopQ_normal, loopQ_exit, loopQ_ret, finish_one_eq, finish_one_eq0, finish_two_eq, finish_two_eq0, roots_slice_new, roots_slice_new0, roots_slice_none, roots_ptr_new, roots_ptr_new0, roots_int, roots_bool, roots_str, roots_agg, roots_tup, roots_cons, roots_nil, rename_slice, rename_slice_none, rename_ptr, rename_int, rename_bool, rename_str, rename_agg, rename_tup, rename_cons, rename_nil, keepBlks_nil, keepBlks_cons, flatAll_nil, flatAll_cons, flatBlk_cells, dedup_nil, dedup_one, dedup_two, renum_one, renum_one0, renum_two0, renum_two1, clean_none', clean_some, minEsc_none, minEsc_some, Nat.add_left_cancel_iff, Nat.le_add_right, Nat.le_refl, decide_true, go_sem, entry, joinEsc, if_pos, reduceIte, Nat.reduceAdd, Nat.reduceLeDiff, Nat.reduceLT, Nat.reduceEqDiff]
  | succ n =>
    have hlt : decide ((xs.length : Int) < 60) = true := decide_eq_true (by omega)
    have hdl : (l.drop a).length ≤ 1048576 := by rw [List.length_drop]; omega
    have hcut := fun L => e_strings_Cut (pr := pr) (H := L) (e := none) hx (l.drop a) 10 (by omega)
    have hA := cutA_len (l.drop a) 10
    have hdec := fun L => e_i_decode (pr := pr) (H := L) (e := none) hi hc hx (k := (xs.length : Int)) (by omega) (by omega) (cutA (l.drop a) 10) (by omega)
    rw [openF] at hop
    rw [endsF] at hen
    cases hh : headF xs.length (l.drop a) with
    | none =>
      simp only [hh, List.append_nil] at hop hen
      rw [← hop, ← hen]
      rcases headF_none hh with h10 | hds
      · rw [h10] at hcut
        simp +contextual only [w_i_recoverRecords_1, hlt, aop_subL, subV_L, ha, hcut, hdec, a_i_recoverRecords, g1, g2, get_more g1, get_more g2, under_encE rcC_under, under_encN, ne_eq, hj, not_false_eq_true, Wp_some, Wp_none, Wp_ite, Wc_some, Wc_none, Wc_ite, Wp_thenRun, seqQ_normal, seqQ_exit, seqQ_ret, Wp_inBlock, blkQ_normal, blkQ_ret, blkQ_same, blkQ_exit, Wp_opThen, opQ_at, Wp_guardP, retQ_normal, retQ_ret, loopQ_normal, loopQ_exit, loopQ_ret, finish_one_eq, finish_one_eq0, finish_two_eq, finish_two_eq0, roots_slice_new, roots_slice_new0, roots_slice_none, roots_ptr_new, roots_ptr_new0, roots_int, roots_bool, roots_str, roots_agg, roots_tup, roots_cons, roots_nil, rename_slice, rename_slice_none, rename_ptr, rename_int, rename_bool, rename_str, rename_agg, rename_tup, rename_cons, rename_nil, keepBlks_nil, keepBlks_cons, flatAll_nil, flatAll_cons, flatBlk_cells, dedup_nil, dedup_one, dedup_two, renum_one, renum_one0, renum_two0, renum_two1, clean_none', clean_some, minEsc_none, minEsc_some, Nat.add_left_cancel_iff, Nat.le_add_right, Nat.le_refl, decide_true, go_sem, entry, joinEsc, if_pos, reduceIte, Nat.reduceAdd, Nat.reduceLeDiff, Nat.reduceLT, Nat.reduceEqDiff]
      · rw [hds] at hdec
        cases h10 : (l.drop a).contains 10 <;> rw [h10] at hcut <;> simp +contextual only [w_i_recoverRecords_1, hlt, aop_subL, subV_L, ha, hcut, hdec, a_i_recoverRecords, g1, g2, get_more g1, get_more g2, under_encE rcC_under, under_encN, ne_eq, hj, not_false_eq_true, Wp_some, Wp_none, Wp_ite, Wc_some, Wc_none, Wc_ite, Wp_thenRun, seqQ_normal, seqQ_exit, seqQ_ret, Wp_inBlock, blkQ_normal, blkQ_ret, blkQ_same, blkQ_exit, Wp_opThen, opQ_at, Wp_guardP, retQ_normal, retQ_ret, loopQ_normal, loopQ_exit, loopQ_ret, finish_one_eq, finish_one_eq0, finish_two_eq, finish_two_eq0, roots_slice_new, roots_slice_new0, roots_slice_none, roots_ptr_new, roots_ptr_new0, roots_int, roots_bool, roots_str, roots_agg, roots_tup, roots_cons, roots_nil, rename_slice, rename_slice_none, rename_ptr, rename_int, rename_bool, rename_str, rename_agg, rename_tup, rename_cons, rename_nil, keepBlks_nil, keepBlks_cons, flatAll_nil, flatAll_cons, flatBlk_cells, dedup_nil, dedup_one, dedup_two, renum_one, renum_one0, renum_two0, renum_two1, clean_none', clean_some, minEsc_none, minEsc_some, Nat.add_left_cancel_iff, Nat.le_add_right, Nat.le_refl, decide_true, go_sem, entry, joinEsc, if_pos, reduceIte, Nat.reduceAdd, Nat.reduceLeDiff, Nat.reduceLT, Nat.reduceEqDiff]
    | some q =>
      obtain ⟨⟨c, r⟩, m⟩ := q
      obtain ⟨hm1, h10, hd1, hm2⟩ := headF_le hh
      rw [List.length_drop] at hm1
      obtain ⟨_, hc1, hr1⟩ := i_dec (by omega) (by omega) hd1
      rw [hd1, hc1, hr1, Option.isSome_some] at hdec
      rw [h10] at hcut
      simp only [hh] at hop hen
      have happ1 := fun e' => append_last (H := H) (e := e') (G := G ++ [.cells [sV c, sV r] true]) (j := j1) (n := xs.length) (sz := 2) (bytes := 32) (cs := recC xs) (new := [sV c, sV r]) (cap := capF xs.length) (c := some 1) (w := true) (get_more g1 _) capF_zero (encE_length rcC_length xs) rfl hmb
      have g2' : (killIf (capF xs.length) j1 (G ++ [.cells [sV c, sV r] true, .cells [sV c, sV r] true]) ++ [.cells (recC xs ++ [sV c, sV r]) true])[j2]? = some (.cells (encN es) true) := by
        rw [List.getElem?_append_left (by rw [killIf_length, List.length_append]; have := (List.getElem?_eq_some_iff.mp g2).1; omega), killIf_get (fun h => hj h.symm)]
        exact get_more g2 _
      have happ2 := fun e' => append_last (H := H) (e := e') (G := killIf (capF xs.length) j1 (G ++ [.cells [sV c, sV r] true, .cells [sV c, sV r] true]) ++ [.cells (recC xs ++ [sV c, sV r]) true]) (j := j2) (n := xs.length) (sz := 1) (bytes := 8) (cs := encN es) (new := [.int .i64 ((a + m : Nat) : Int)]) (cap := capF xs.length) (c := some 1) (w := true) g2' capF_zero (by rw [encN_length, Nat.mul_one]; exact hel) rfl hmb2
      simp only [List.append_assoc, List.cons_append, List.nil_append, List.length_append, List.length_cons, List.length_nil, killIf_length, Nat.zero_add] at happ1 happ2
      have hw1 : IntKind.i64.wrap (((cutA (l.drop a) 10).length : Int) + 1) = (m : Int) := by rw [hm2]; exact wrap_succ (by omega)
      have hw2 : IntKind.i64.wrap ((a : Int) + (m : Int)) = ((a + m : Nat) : Int) := by
        rw [show (a : Int) + (m : Int) = ((a + m : Nat) : Int) by omega]; exact wrap64 (by omega) (by omega)
      have hrx : recC xs ++ [sV c, sV r] = recC (xs ++ [(c, r)]) := by show _ = encE rcC _; rw [encE_append]; rfl
      have hex : encN es ++ [.int .i64 ((a + m : Nat) : Int)] = encN (es ++ [a + m]) := by rw [encN_append]; rfl
      simp +contextual only [w_i_recoverRecords_1, fillParts, hlt, aop_subL, subV_L, ha, hcut, hdec, bs_size, List.size_toArray, hw1, hw2, happ1, happ2, killIf_length, Wp_some, Wp_none, Wp_ite, Wc_some, Wc_none, Wc_ite, Wp_thenRun, seqQ_normal, seqQ_exit, seqQ_ret, Wp_inBlock, blkQ_normal, blkQ_ret, blkQ_same, blkQ_exit, Wp_opThen, opQ_at, Wp_guardP, retQ_normal, retQ_ret, loopQ_normal, loopQ_exit, loopQ_ret, go_sem, entry, joinEsc, if_pos, reduceIte, Nat.reduceAdd, Nat.reduceLeDiff, Nat.reduceLT, Nat.reduceEqDiff]
      have hlen : xs.length + 1 = (xs ++ [(c, r)]).length := by simp
      rw [hrx, hex, hlen]
      refine ⟨n, by omega, a + m, G.length + 2, G.length + 4, xs ++ [(c, r)], es ++ [a + m], none, killIf (capF xs.length) j2 (killIf (capF xs.length) j1 (G ++ [.cells [sV c, sV r] true, .cells [sV c, sV r] true]) ++ [.cells (recC (xs ++ [(c, r)])) true, .cells [.int .i64 ((a + m : Nat) : Int)] true]) ++ [.cells (encN (es ++ [a + m])) true],
        _, _, _, _, _, _, _, _, by simp [capF], by simp; omega, by omega, by simp [hel], ?_, ?_, by omega, ?_, ?_, rfl⟩
      · rw [← hop, List.append_assoc, List.length_append, List.drop_drop]
        rfl
      · rw [← hen, List.append_assoc, List.length_append, List.drop_drop]
        rfl
      · rw [List.getElem?_append_left (by rw [killIf_length, List.length_append, killIf_length, List.length_append]; simp), killIf_get (by have := (List.getElem?_eq_some_iff.mp g2).1; omega)]
        rw [List.getElem?_append_right (by rw [killIf_length, List.length_append]; simp), killIf_length, List.length_append]
        simp
      · exact killIf_last (by rw [List.length_append, killIf_length, List.length_append]; rfl)

end Go.Proofs.YtemcdiajejekoaaDoor.Slim

/- Reading the records at the start of a text, on the reference's side. -/
namespace Go.Proofs.YtemcdiajejekoaaDoor.Slim

open Go

set_option linter.unusedSimpArgs false

set_option linter.unusedVariables false

variable {pr : Prims} {H : List Blk} {e : Option Nat}

/-- how many bytes are read -/
def consF : Nat → Nat → By → Nat
  | 0, k, l => 0
  | f + 1, k, l => match headF k l with
    | some (p, n) => n + consF f (k + 1) (l.drop n)
    | none => 0

theorem consF_le : ∀ (f k : Nat) (l : By), consF f k l ≤ l.length
  | 0, k, l => Nat.zero_le _
  | f + 1, k, l => by
    rw [consF]
    cases h : headF k l with
    | none => exact Nat.zero_le _
    | some q =>
      obtain ⟨p, n⟩ := q
      have h1 := (headF_le h).1
      have h2 := consF_le f (k + 1) (l.drop n)
      rw [List.length_drop] at h2
      simp only
      omega

theorem e_s_l12Open (l : By) (hn : l.length ≤ 1048576) : call T pr f_s_l12Open [sV l] ⟨H, e⟩ =
    some (.tup [slR H.length (openF 60 0 l).length (capF (openF 60 0 l).length), .int .i64 (consF 60 0 l)], ⟨H ++ [.cells (recC (openF 60 0 l)) true], e⟩) := by
  apply Wc.eq
  rw [call_wc t_s_l12Open]
  simp +contextual only [a_s_l12Open, c_s_l12Open, fillParts, Wp_some, Wp_none, Wp_ite, Wc_some, Wc_none, Wc_ite, Wp_thenRun, seqQ_normal, seqQ_exit, seqQ_ret, Wp_inBlock, blkQ_normal, blkQ_ret, blkQ_same, blkQ_exit, Wp_opThen, opQ_at, Wp_guardP, retQ_normal, retQ_ret, loopQ_normal, loopQ_exit, loopQ_ret, go_sem, entry, joinEsc, if_pos, reduceIte, Nat.reduceAdd, Nat.reduceLeDiff, Nat.reduceLT, Nat.reduceEqDiff]
  refine Wp_loop (fun n st => ∃ (a j : Nat) (xs : List Rc) (cap : Option Nat) (G : List Blk) (y1 y2 y5 y6 y7 y8 y9 : AV), cap = capF xs.length ∧ n + xs.length = 60 ∧ a ≤ l.length ∧ xs ++ openF n xs.length (l.drop a) = openF 60 0 l ∧ a + consF n xs.length (l.drop a) = consF 60 0 l ∧
    G[j]? = some (.cells (recC xs) true) ∧
    st = ⟨[sV l, y1, y2, slR (H.length + j) xs.length cap, .int .i64 a, y5, y6, y7, y8, y9], ⟨H ++ G, none⟩⟩) ?_ 60 _
    ⟨0, 0, [], some 0, [.cells [] true], _, _, _, _, _, _, _, rfl, rfl, by omega, rfl, by simp, rfl, rfl⟩
  rintro n _ ⟨a, j, xs, cap, G, y1, y2, y5, y6, y7, y8, y9, rfl, hk, ha, hop, hco, g1, rfl⟩
  have hmb : (xs.length + 1) * 32 ≤ maxBytes := by unfold maxBytes; omega
  have hdl : (l.drop a).length ≤ 1048576 := by rw [List.length_drop]; omega
  by_cases hat : a < l.length
  · have hatd : decide (a < l.length) = true := decide_eq_true hat
    cases n with
    | zero =>
      have hx1 : openF 60 0 l = xs := by rw [← hop]; simp [openF]
      have hx2 : consF 60 0 l = a := by rw [← hco]; simp [consF]
      have hlt : decide ((xs.length : Int) < 60) = false := decide_eq_false (by omega)
      rw [hx1, hx2]
      simp +contextual only [w_s_l12Open_1, hlt, hat, hatd, bs_size, List.size_toArray, a_s_l12Open, g1, under_encE rcC_under, Wp_some, Wp_none, Wp_ite, Wc_some, Wc_none, Wc_ite, Wp_thenRun, seqQ_normal, seqQ_exit, seqQ_ret, Wp_inBlock, blkQ_normal, blkQ_ret, blkQ_same, blkQ_exit, Wp_opThen, opQ_at, Wp_guardP, retQ_normal, retQ_ret, loopQ_normal, loopQ_exit, loopQ_ret, finish_one_eq, finish_one_eq0, finish_two_eq, finish_two_eq0, roots_slice_new, roots_slice_new0, roots_slice_none, roots_ptr_new, roots_ptr_new0, roots_int, roots_bool, roots_str, roots_agg, roots_tup, roots_cons, roots_nil, rename_slice, rename_slice_none, rename_ptr, rename_int, rename_bool, rename_str, rename_agg, rename_tup, rename_cons, rename_nil, keepBlks_nil, keepBlks_cons, flatAll_nil, flatAll_cons, flatBlk_cells, dedup_nil, dedup_one, dedup_two, renum_one, renum_one0, renum_two0, renum_two1, clean_none', clean_some, minEsc_none, minEsc_some, Nat.add_left_cancel_iff, Nat.le_add_right, Nat.le_refl, decide_true, go_sem, entry, joinEsc, if_pos, reduceIte, Nat.reduceAdd, Nat.reduceLeDiff, Nat.reduceLT, Nat.reduceEqDiff]
    | succ n =>
      have hlt : decide ((xs.length : Int) < 60) = true := decide_eq_true (by omega)
      obtain ⟨ys, hy1, hyl, hsp⟩ := split_call (pr := pr) (l.drop a) 10 (by omega)
      have hsp10 : ∀ (L : List Blk) (e' : Option Nat), call T pr f_s_l1Split [sV (l.drop a), .int .u8 10] ⟨L, e'⟩ = some (slX L.length (ys.length + 1) none, ⟨L ++ [.cells (sV (cutA (l.drop a) 10) :: strC ys) true], e'⟩) := hsp
      have hA := cutA_len (l.drop a) 10
      have hdec := fun L => e_s_l12Decode (pr := pr) (H := L) (e := none) (k := (xs.length : Int)) (by omega) (by omega) (cutA (l.drop a) 10) (by omega)
      have hpos : ∀ n : Nat, (0 : Int) < ((n + 1 : Nat) : Int) := fun n => by omega
      rw [openF] at hop
      rw [consF] at hco
      cases hh : headF xs.length (l.drop a) with
      | none =>
        simp only [hh, List.append_nil, Nat.add_zero] at hop hco
        rw [← hop, ← hco]
        rcases headF_none hh with h10 | hds
        · have hys : ys = [] := hy1.mpr h10
          subst hys
          have h2 : decide (((0 + 1 : Nat) : Int) < 2) = true := by decide
          simp +contextual only [w_s_l12Open_1, hlt, hat, hatd, bs_size, List.size_toArray, aop_subL, subV_L, ha, hsp10, hdec, hpos, h2, Int.le_refl, Int.toNat_zero, Nat.zero_mul, a_s_l12Open, g1, get_more g1, under_encE rcC_under, List.append_assoc, Wp_some, Wp_none, Wp_ite, Wc_some, Wc_none, Wc_ite, Wp_thenRun, seqQ_normal, seqQ_exit, seqQ_ret, Wp_inBlock, blkQ_normal, blkQ_ret, blkQ_same, blkQ_exit, Wp_opThen, opQ_at, Wp_guardP, retQ_normal, retQ_ret, loopQ_normal, loopQ_exit, loopQ_ret, finish_one_eq, finish_one_eq0, finish_two_eq, finish_two_eq0, roots_slice_new, roots_slice_new0, roots_slice_none, roots_ptr_new, roots_ptr_new0, roots_int, roots_bool, roots_str, roots_agg, roots_tup, roots_cons, roots_nil, rename_slice, rename_slice_none, rename_ptr, rename_int, rename_bool, rename_str, rename_agg, rename_tup, rename_cons, rename_nil, keepBlks_nil, keepBlks_cons, flatAll_nil, flatAll_cons, flatBlk_cells, dedup_nil, dedup_one, dedup_two, renum_one, renum_one0, renum_two0, renum_two1, clean_none', clean_some, minEsc_none, minEsc_some, Nat.add_left_cancel_iff, Nat.le_add_right, Nat.le_refl, decide_true, go_sem, entry, joinEsc, if_pos, reduceIte, Nat.reduceAdd, Nat.reduceLeDiff, Nat.reduceLT, Nat.reduceEqDiff]
        · rw [hds] at hdec
          cases h2 : decide (((ys.length + 1 : Nat) : Int) < 2) <;> simp +contextual only [w_s_l12Open_1, hlt, hat, hatd, bs_size, List.size_toArray, aop_subL, subV_L, ha, hsp10, hdec, hpos, h2, Int.le_refl, Int.toNat_zero, Nat.zero_mul, a_s_l12Open, g1, get_more g1, under_encE rcC_under, List.append_assoc, Wp_some, Wp_none, Wp_ite, Wc_some, Wc_none, Wc_ite, Wp_thenRun, seqQ_normal, seqQ_exit, seqQ_ret, Wp_inBlock, blkQ_normal, blkQ_ret, blkQ_same, blkQ_exit, Wp_opThen, opQ_at, Wp_guardP, retQ_normal, retQ_ret, loopQ_normal, loopQ_exit, loopQ_ret, finish_one_eq, finish_one_eq0, finish_two_eq, finish_two_eq0, roots_slice_new, roots_slice_new0, roots_slice_none, roots_ptr_new, roots_ptr_new0, roots_int, roots_bool, roots_str, roots_agg, roots_tup, roots_cons, roots_nil, rename_slice, rename_slice_none, rename_ptr, rename_int, rename_bool, rename_str, rename_agg, rename_tup, rename_cons, rename_nil, keepBlks_nil, keepBlks_cons, flatAll_nil, flatAll_cons, flatBlk_cells, dedup_nil, dedup_one, dedup_two, renum_one, renum_one0, renum_two0, renum_two1, clean_none', clean_some, minEsc_none, minEsc_some, Nat.add_left_cancel_iff, Nat.le_add_right, Nat.le_refl, decide_true, go_sem, entry, joinEsc, if_pos, reduceIte, Nat.reduceAdd, Nat.reduceLeDiff, Nat.reduceLT, Nat.reduceEqDiff]
      | some q =>
        obtain ⟨⟨c, r⟩, m⟩ := q
        obtain ⟨hm1, h10, hd1, hm2⟩ := headF_le hh
        rw [List.length_drop] at hm1
        have hsr := (s_dec (by omega) (by omega) hd1).2.2
        rw [hd1, hsr, Option.isSome_some] at hdec
        have hys : ys ≠ [] := fun h => by rw [hy1.mp h] at h10; cases h10
        have hyp : 1 ≤ ys.length := by
          rcases Nat.eq_zero_or_pos ys.length with h | h
          · exact absurd (List.length_eq_zero_iff.mp h) hys
          · exact h
        have h2 : decide (((ys.length + 1 : Nat) : Int) < 2) = false := decide_eq_false (by omega)
        simp only [hh] at hop hco
        have happ1 := fun e' => append_last (H := H) (e := e') (G := G ++ [.cells (sV (cutA (l.drop a) 10) :: strC ys) true, .cells [sV c, sV r] true]) (j := j) (n := xs.length) (sz := 2) (bytes := 32) (cs := recC xs) (new := [sV c, sV r]) (cap := capF xs.length) (c := some 1) (w := true) (get_more g1 _) capF_zero (encE_length rcC_length xs) rfl hmb
        simp only [List.append_assoc, List.cons_append, List.nil_append, List.length_append, List.length_cons, List.length_nil, Nat.zero_add] at happ1
        have hw2 : IntKind.i64.wrap (IntKind.i64.wrap ((a : Int) + ((cutA (l.drop a) 10).length : Int)) + 1) = ((a + m : Nat) : Int) := by
          rw [show (a : Int) + ((cutA (l.drop a) 10).length : Int) = ((a + (cutA (l.drop a) 10).length : Nat) : Int) by omega, wrap64 (x := ((a + (cutA (l.drop a) 10).length : Nat) : Int)) (by omega) (by omega), hm2, ← Nat.add_assoc]
          exact wrap_succ (by omega)
        have hrx : recC xs ++ [sV c, sV r] = recC (xs ++ [(c, r)]) := by show _ = encE rcC _; rw [encE_append]; rfl
        have hlen : xs.length + 1 = (xs ++ [(c, r)]).length := by simp
        have hcl : ∀ X : List Blk, cellsAt (killIf (capF xs.length) j (G ++ [.cells (sV (cutA (l.drop a) 10) :: strC ys) true, .cells [sV c, sV r] true, .cells [sV c, sV r] true]) ++ X) G.length = some (sV (cutA (l.drop a) 10) :: strC ys) := by
          intro X
          refine cellsAt_of (w := true) (get_more ?_ X)
          rw [killIf_get (by have := (List.getElem?_eq_some_iff.mp g1).1; omega)]
          simp
        simp +contextual only [w_s_l12Open_1, fillParts, hlt, hat, hatd, bs_size, List.size_toArray, aop_subL, subV_L, ha, hsp10, hdec, hpos, h2, hw2, happ1, hcl, Int.le_refl, Int.toNat_zero, Nat.zero_mul, killIf_length, List.append_assoc, Wp_some, Wp_none, Wp_ite, Wc_some, Wc_none, Wc_ite, Wp_thenRun, seqQ_normal, seqQ_exit, seqQ_ret, Wp_inBlock, blkQ_normal, blkQ_ret, blkQ_same, blkQ_exit, Wp_opThen, opQ_at, Wp_guardP, retQ_normal, retQ_ret, loopQ_normal, loopQ_exit, loopQ_ret, go_sem, entry, joinEsc, if_pos, reduceIte, Nat.reduceAdd, Nat.reduceLeDiff, Nat.reduceLT, Nat.reduceEqDiff]
        rw [hrx, hlen]
        refine ⟨n, by omega, a + m, G.length + 3, xs ++ [(c, r)], none, killIf (capF xs.length) j (G ++ [.cells (sV (cutA (l.drop a) 10) :: strC ys) true, .cells [sV c, sV r] true, .cells [sV c, sV r] true]) ++ [.cells (recC (xs ++ [(c, r)])) true],
          _, _, _, _, _, _, _, by simp [capF], by simp; omega, by omega, ?_, ?_, ?_, rfl⟩
        · rw [← hop, List.append_assoc, List.length_append, List.drop_drop]
          rfl
        · rw [← hco, List.length_append, List.drop_drop, Nat.add_assoc]
          rfl
        · exact killIf_last (by rw [List.length_append]; rfl)
  · have hae : a = l.length := by omega
    have hatd : decide (a < l.length) = false := decide_eq_false hat
    have hnil : l.drop a = [] := by rw [hae, List.drop_length]
    have hx1 : openF 60 0 l = xs := by
      rw [← hop, hnil]
      cases n <;> simp [openF, headF_nil]
    have hx2 : consF 60 0 l = a := by
      rw [← hco, hnil]
      cases n <;> simp [consF, headF_nil]
    rw [hx1, hx2]
    simp +contextual only [w_s_l12Open_1, hat, hatd, bs_size, List.size_toArray, a_s_l12Open, g1, under_encE rcC_under, Wp_some, Wp_none, Wp_ite, Wc_some, Wc_none, Wc_ite, Wp_thenRun, seqQ_normal, seqQ_exit, seqQ_ret, Wp_inBlock, blkQ_normal, blkQ_ret, blkQ_same, blkQ_exit, Wp_opThen, opQ_at, Wp_guardP, retQ_normal, retQ_ret, loopQ_normal, loopQ_exit, loopQ_ret, finish_one_eq, finish_one_eq0, finish_two_eq, finish_two_eq0, roots_slice_new, roots_slice_new0, roots_slice_none, roots_ptr_new, roots_ptr_new0, roots_int, roots_bool, roots_str, roots_agg, roots_tup, roots_cons, roots_nil, rename_slice, rename_slice_none, rename_ptr, rename_int, rename_bool, rename_str, rename_agg, rename_tup, rename_cons, rename_nil, keepBlks_nil, keepBlks_cons, flatAll_nil, flatAll_cons, flatBlk_cells, dedup_nil, dedup_one, dedup_two, renum_one, renum_one0, renum_two0, renum_two1, clean_none', clean_some, minEsc_none, minEsc_some, Nat.add_left_cancel_iff, Nat.le_add_right, Nat.le_refl, decide_true, go_sem, entry, joinEsc, if_pos, reduceIte, Nat.reduceAdd, Nat.reduceLeDiff, Nat.reduceLT, Nat.reduceEqDiff]

end Go.Proofs.YtemcdiajejekoaaDoor.Slim

/- Logs: which are valid, on both sides. -/
namespace Go.Proofs.YtemcdiajejekoaaDoor.Slim

open Go

set_option linter.unusedSimpArgs false

set_option linter.unusedVariables false

variable {pr : Prims} {H : List Blk} {e : Option Nat}

theorem headF_app {k : Nat} {d : By} {q : Rc} {n : Nat} (p : By) (h : headF k d = some (q, n)) : headF k (d ++ p) = some (q, n) := by
  obtain ⟨h1, h10, h3, h4⟩ := headF_le h
  have hw := cut_whole 10 d h10
  have hno : (cutA d 10).contains 10 = false := not_contains (cutA_no 10 d)
  have hA : cutA (d ++ p) 10 = cutA d 10 := by
    conv => lhs; rw [hw, List.append_assoc, List.cons_append]
    exact (cut_at hno).1
  have hc : (d ++ p).contains 10 = true := by
    simp at h10 ⊢
    exact Or.inl h10
  unfold headF
  rw [if_pos hc, hA, h3, h4]
  rfl

theorem headF_sub {k : Nat} {d p : By} {q : Rc} {n : Nat} (h : headF k (d ++ p) = some (q, n)) (hn : n ≤ d.length) : headF k d = some (q, n) := by
  obtain ⟨h1, h10, h3, h4⟩ := headF_le h
  have hw := cut_whole 10 (d ++ p) h10
  have hno : (cutA (d ++ p) 10).contains 10 = false := not_contains (cutA_no 10 (d ++ p))
  generalize cutA (d ++ p) 10 = A at hw hno h3 h4
  generalize cutB (d ++ p) 10 = B at hw
  have hd : d = A ++ 10 :: B.take (d.length - (A.length + 1)) := by
    have : d = (A ++ 10 :: B).take d.length := by rw [← hw]; simp
    conv => lhs; rw [this]
    rw [List.take_append, List.take_of_length_le (by omega)]
    congr 1
    rw [show d.length - A.length = (d.length - (A.length + 1)) + 1 by omega, List.take_succ_cons]
  have hA : cutA d 10 = A := by
    conv => lhs; rw [hd]
    exact (cut_at hno).1
  have hc : d.contains 10 = true := by rw [hd]; simp
  unfold headF
  rw [if_pos hc, hA, h3, h4]
  rfl

theorem endsF_gt : ∀ (f k a : Nat) (l : By) (x : Nat), x ∈ endsF f k a l → a < x ∧ ∀ q n, headF k l = some (q, n) → a + n ≤ x
  | 0, k, a, l, x, h => by simp [endsF] at h
  | f + 1, k, a, l, x, h => by
    rw [endsF] at h
    cases hh : headF k l with
    | none => rw [hh] at h; simp at h
    | some q =>
      obtain ⟨q, n⟩ := q
      have hn := (headF_le hh).2.2.2
      rw [hh] at h
      rcases List.mem_cons.mp h with rfl | h
      · exact ⟨by omega, fun q' n' he => by cases he; exact Nat.le_refl _⟩
      · have := (endsF_gt f (k + 1) (a + n) (l.drop n) x h).1
        exact ⟨by omega, fun q' n' he => by cases he; omega⟩

/-- a text is read whole just where it ends at an end of what it begins -/
theorem ends_iff (p : By) : ∀ (f k a : Nat) (d : By), a + d.length ∈ a :: endsF f k a (d ++ p) ↔ consF f k d = d.length
  | 0, k, a, d => by
    simp only [endsF, consF, List.mem_singleton]
    omega
  | f + 1, k, a, d => by
    cases hd : headF k d with
    | some q =>
      obtain ⟨q, n⟩ := q
      obtain ⟨h1, _, _, h4⟩ := headF_le hd
      have hx := headF_app p hd
      have ih := ends_iff p f (k + 1) (a + n) (d.drop n)
      rw [List.length_drop, show a + n + (d.length - n) = a + d.length by omega] at ih
      rw [endsF, hx, consF, hd]
      simp only
      rw [List.drop_append_of_le_length h1, List.mem_cons, ih]
      constructor
      · rintro (h | h)
        · omega
        · omega
      · intro h
        exact .inr (by omega)
    | none =>
      rw [consF, hd]
      simp only
      constructor
      · intro h
        rcases List.mem_cons.mp h with h | h
        · omega
        · have hg := endsF_gt (f + 1) k a (d ++ p) _ h
          cases hx : headF k (d ++ p) with
          | none => rw [endsF, hx] at h; simp at h
          | some q =>
            obtain ⟨q, n⟩ := q
            have h2 := hg.2 q n hx
            have := headF_sub hx (by omega)
            rw [hd] at this
            cases this
      · intro h
        rw [← h]
        exact List.mem_cons_self

theorem ends_last : ∀ (f k a : Nat) (l : By), (a :: endsF f k a l)[(endsF f k a l).length]? = some (a + consF f k l)
  | 0, k, a, l => by simp [endsF, consF]
  | f + 1, k, a, l => by
    rw [endsF, consF]
    cases hh : headF k l with
    | none => simp
    | some q =>
      obtain ⟨q, n⟩ := q
      have := ends_last f (k + 1) (a + n) (l.drop n)
      simp only [List.length_cons, List.getElem?_cons_succ]
      rw [this, Nat.add_assoc]

/-- a log that is valid -/
def logOk (d p : By) (c : Int) : Bool := decide (d.length + p.length ≤ 30000) && (decide (consF 60 0 (d ++ p) = d.length + p.length) && (decide (consF 60 0 d = d.length) && decide (c = ((openF 60 0 (d ++ p)).length : Int))))

abbrev lgV (d p : By) (c : Int) : AV := .agg [sV d, sV p, .int .i64 c]

theorem e_s_l12Valid (d p : By) (c : Int) (hd : d.length ≤ 1048576) (hp : p.length ≤ 1048576) : call T pr f_s_l12Valid [lgV d p c] ⟨H, e⟩ = some (.bool (logOk d p c), ⟨H, e⟩) := by
  have hw : IntKind.i64.wrap ((d.length : Int) + (p.length : Int)) = ((d.length + p.length : Nat) : Int) := by
    rw [show (d.length : Int) + (p.length : Int) = ((d.length + p.length : Nat) : Int) by omega]; exact wrap64 (by omega) (by omega)
  rw [call_eq t_s_l12Valid]
  unfold logOk
  by_cases h3 : d.length + p.length ≤ 30000
  · have hgt : decide ((30000 : Int) < ((d.length + p.length : Nat) : Int)) = false := decide_eq_false (by omega)
    have ho1 := fun L => e_s_l12Open (pr := pr) (H := L) (e := none) (d ++ p) (by rw [List.length_append]; omega)
    have ho2 := fun L => e_s_l12Open (pr := pr) (H := L) (e := none) d hd
    have hll : d.length + p.length ≤ 140737488355328 := by omega
    have hA : decide (((consF 60 0 (d ++ p) : Nat) : Int) = ((d.length + p.length : Nat) : Int)) = decide (consF 60 0 (d ++ p) = d.length + p.length) := decide_eq_decide.mpr (by omega)
    have hB : decide (((consF 60 0 d : Nat) : Int) = (d.length : Int)) = decide (consF 60 0 d = d.length) := decide_eq_decide.mpr (by omega)
    have hC : decide ((((openF 60 0 (d ++ p)).length : Nat) : Int) = c) = decide (c = ((openF 60 0 (d ++ p)).length : Int)) := decide_eq_decide.mpr ⟨fun h => h.symm, fun h => h.symm⟩
    rw [decide_eq_true h3, ← hA, ← hB, ← hC]
    cases hA' : decide (((consF 60 0 (d ++ p) : Nat) : Int) = ((d.length + p.length : Nat) : Int)) with
    | false => simp +contextual only [a_s_l12Valid, c_s_l12Valid, hw, hgt, gt_iff_lt, bs_size, List.size_toArray, binop_sadd, hll, ho1, ho2, hA', go_sem, entry, joinEsc, if_pos, reduceIte, Nat.reduceAdd, Nat.reduceLeDiff, Nat.reduceLT, Nat.reduceEqDiff]
    | true =>
      cases hB' : decide (((consF 60 0 d : Nat) : Int) = (d.length : Int)) with
      | false => simp +contextual only [a_s_l12Valid, c_s_l12Valid, hw, hgt, gt_iff_lt, bs_size, List.size_toArray, binop_sadd, hll, ho1, ho2, hA', hB', go_sem, entry, joinEsc, if_pos, reduceIte, Nat.reduceAdd, Nat.reduceLeDiff, Nat.reduceLT, Nat.reduceEqDiff]
      | true => simp +contextual only [a_s_l12Valid, c_s_l12Valid, hw, hgt, gt_iff_lt, bs_size, List.size_toArray, binop_sadd, hll, ho1, ho2, hA', hB', go_sem, entry, joinEsc, if_pos, reduceIte, Nat.reduceAdd, Nat.reduceLeDiff, Nat.reduceLT, Nat.reduceEqDiff]
  · have hgt : decide ((30000 : Int) < ((d.length + p.length : Nat) : Int)) = true := decide_eq_true (by omega)
    rw [decide_eq_false h3]
    simp +contextual only [a_s_l12Valid, c_s_l12Valid, hw, hgt, gt_iff_lt, bs_size, List.size_toArray, go_sem, entry, joinEsc, if_pos, reduceIte, Nat.reduceAdd, Nat.reduceLeDiff, Nat.reduceLT, Nat.reduceEqDiff]

theorem e_Contains_int {q : Nat} {c : Option Nat} {zs : List Int} (h : cellsAt H q = some (encI zs)) (hn : zs.length ≤ 1048576) (x : Int) : call T pr f_slices_Contains_Sint_int [slI q zs.length c, .int .i64 x] ⟨H, e⟩ = some (.bool (decide (x ∈ zs)), ⟨H, e⟩) := by
  have hix : Wc (call T pr f_slices_Index_Sint_int [slI q zs.length c, .int .i64 x] ⟨H, none⟩) fun v m => ∃ z : Int, decide (0 ≤ z) = decide (x ∈ zs) ∧ v = .int .i64 z ∧ m = ⟨H, none⟩ := by
    rw [call_wc t_slices_Index_Sint_int]
    simp +contextual only [a_slices_Index_Sint_int, c_slices_Index_Sint_int, Wp_some, Wp_none, Wp_ite, Wc_some, Wc_none, Wc_ite, Wp_thenRun, seqQ_normal, seqQ_exit, seqQ_ret, Wp_inBlock, blkQ_normal, blkQ_ret, blkQ_same, blkQ_exit, Wp_opThen, opQ_at, Wp_guardP, retQ_normal, retQ_ret, loopQ_normal, loopQ_exit, loopQ_ret, go_sem, entry, joinEsc, if_pos, reduceIte, Nat.reduceAdd, Nat.reduceLeDiff, Nat.reduceLT, Nat.reduceEqDiff]
    refine Wp_loop (fun k st => ∃ (i : Nat) (y3 y6 y7 : AV), k + i = zs.length ∧ x ∉ zs.take i ∧ st = ⟨[slI q zs.length c, .int .i64 x, .int .i64 0, y3, .int .i64 zs.length, .int .i64 i, y6, y7], ⟨H, none⟩⟩) ?_ zs.length _ ⟨0, _, _, _, rfl, by simp, rfl⟩
    rintro k _ ⟨i, y3, y6, y7, hk, hni, rfl⟩
    by_cases hi : i < zs.length
    · have hl : zs[i]? = some zs[i] := List.getElem?_eq_getElem hi
      have hp : part false (encI zs) i 1 = some (.int .i64 zs[i]) := by rw [part_false]; unfold encI; rw [List.getElem?_map, hl]; rfl
      cases hx : decide (x = zs[i]) with
      | true =>
        simp +contextual only [w_slices_Index_Sint_int_1, h, hi, hp, hx, decide_true, Wp_some, Wp_none, Wp_ite, Wc_some, Wc_none, Wc_ite, Wp_thenRun, seqQ_normal, seqQ_exit, seqQ_ret, Wp_inBlock, blkQ_normal, blkQ_ret, blkQ_same, blkQ_exit, Wp_opThen, opQ_at, Wp_guardP, retQ_normal, retQ_ret, loopQ_normal, loopQ_exit, loopQ_ret, go_sem, entry, joinEsc, if_pos, reduceIte, Nat.reduceAdd, Nat.reduceLeDiff, Nat.reduceLT, Nat.reduceEqDiff]
        refine ⟨i, ?_, rfl⟩
        rw [decide_eq_true (by omega : (0 : Int) ≤ i), decide_eq_true]
        rw [of_decide_eq_true hx]
        exact List.getElem_mem hi
      | false =>
        simp +contextual only [w_slices_Index_Sint_int_1, h, hi, hp, hx, wrap_succ (show i < 9223372036854775807 by omega), decide_true, Wp_some, Wp_none, Wp_ite, Wc_some, Wc_none, Wc_ite, Wp_thenRun, seqQ_normal, seqQ_exit, seqQ_ret, Wp_inBlock, blkQ_normal, blkQ_ret, blkQ_same, blkQ_exit, Wp_opThen, opQ_at, Wp_guardP, retQ_normal, retQ_ret, loopQ_normal, loopQ_exit, loopQ_ret, go_sem, entry, joinEsc, if_pos, reduceIte, Nat.reduceAdd, Nat.reduceLeDiff, Nat.reduceLT, Nat.reduceEqDiff]
        refine ⟨k - 1, by omega, i + 1, _, _, _, by omega, ?_, rfl⟩
        rw [List.take_add_one, hl, List.mem_append]
        rintro (h | h)
        · exact hni h
        · simp at h
          exact of_decide_eq_false hx h
    · obtain rfl : i = zs.length := by omega
      rw [List.take_length] at hni
      simp +contextual only [w_slices_Index_Sint_int_1, hi, decide_false, Wp_some, Wp_none, Wp_ite, Wc_some, Wc_none, Wc_ite, Wp_thenRun, seqQ_normal, seqQ_exit, seqQ_ret, Wp_inBlock, blkQ_normal, blkQ_ret, blkQ_same, blkQ_exit, Wp_opThen, opQ_at, Wp_guardP, retQ_normal, retQ_ret, loopQ_normal, loopQ_exit, loopQ_ret, go_sem, entry, joinEsc, if_pos, reduceIte, Nat.reduceAdd, Nat.reduceLeDiff, Nat.reduceLT, Nat.reduceEqDiff]
      exact ⟨-1, by simp [hni], rfl⟩
  apply Wc.eq
  rw [call_wc t_slices_Contains_Sint_int]
  simp +contextual only [a_slices_Contains_Sint_int, c_slices_Contains_Sint_int, Wp_some, Wp_none, Wp_ite, Wc_some, Wc_none, Wc_ite, Wp_thenRun, seqQ_normal, seqQ_exit, seqQ_ret, Wp_inBlock, blkQ_normal, blkQ_ret, blkQ_same, blkQ_exit, Wp_opThen, opQ_at, Wp_guardP, retQ_normal, retQ_ret, loopQ_normal, loopQ_exit, loopQ_ret, go_sem, entry, joinEsc, if_pos, reduceIte, Nat.reduceAdd, Nat.reduceLeDiff, Nat.reduceLT, Nat.reduceEqDiff]
  refine hix.mono ?_
  rintro v m ⟨z, hz, rfl, rfl⟩
  simp +contextual only [a_slices_Contains_Sint_int, hz, ge_iff_le, Wp_some, Wp_none, Wp_ite, Wc_some, Wc_none, Wc_ite, Wp_thenRun, seqQ_normal, seqQ_exit, seqQ_ret, Wp_inBlock, blkQ_normal, blkQ_ret, blkQ_same, blkQ_exit, Wp_opThen, opQ_at, Wp_guardP, retQ_normal, retQ_ret, loopQ_normal, loopQ_exit, loopQ_ret, go_sem, entry, joinEsc, if_pos, reduceIte, Nat.reduceAdd, Nat.reduceLeDiff, Nat.reduceLT, Nat.reduceEqDiff]

end Go.Proofs.YtemcdiajejekoaaDoor.Slim

/- Logs: the functions on them, on both sides. -/
namespace Go.Proofs.YtemcdiajejekoaaDoor.Slim

open Go

set_option linter.unusedSimpArgs false

set_option linter.unusedVariables false

variable {pr : Prims} {H : List Blk} {e : Option Nat}

theorem app_all {L : List Blk} {b q n k sz bytes : Nat} {cs new : List AV} {c cap : Option Nat} (hb : L[b]? = some (.cells cs true)) (hq : cellsAt L q = some new) (hcs : cs.length = n * sz) (hnew : new.length = k * sz) (hcap : cap ≠ some 0) (hm : (n + k) * bytes ≤ maxBytes) :
    appendV L e false sz bytes (.slice (some (b, 0)) sz n cap) (.slice (some (q, 0)) sz k c) = some (.slice (some (L.length, 0)) sz (n + k) none, ⟨L.set b .dead ++ [.cells (cs ++ new) true], e⟩) := by
  have hs := srcCells_new L k sz c new q hq hnew
  unfold appendV
  simp only [hb, hs]
  rw [if_pos ⟨trivial, hm, hnew, by omega⟩, if_neg (fun h => hcap h.1), List.drop_zero, List.take_of_length_le (Nat.le_of_eq hcs), if_pos trivial]

theorem e_i_logRecords (hi : HasItoa pr) (hc : HasContains pr) (hx : HasIndex pr) (d p : By) (c : Int) (hd : d.length ≤ 1048576) (hp : p.length ≤ 1048576) : call T pr f_i_logRecords [lgV d p c] ⟨H, e⟩ =
    if d.length + p.length ≤ 30000 then some (.tup [slR H.length (openF 60 0 (d ++ p)).length (capF (openF 60 0 (d ++ p)).length), .bool (logOk d p c)], ⟨H ++ [.cells (recC (openF 60 0 (d ++ p))) true], e⟩)
    else some (.tup [.slice none 0 0 none, .bool (logOk d p c)], ⟨H, e⟩) := by
  have hll : d.length + p.length ≤ 140737488355328 := by omega
  unfold logOk
  by_cases h3 : d.length + p.length ≤ 30000
  · have hgt : decide ((30000 : Int) < ((d.length + p.length : Nat) : Int)) = false := decide_eq_false (by omega)
    have hrr := fun L => e_i_recoverRecords (pr := pr) (H := L) (e := none) hi hc hx (d ++ p) (by rw [List.length_append]; omega)
    have hol := openF_len 60 0 0 (d ++ p)
    have hlast := ends_last 60 0 0 (d ++ p)
    have hmem := ends_iff p 60 0 0 d
    rw [Nat.zero_add] at hlast hmem
    rw [if_pos h3, decide_eq_true h3, Bool.true_and]
    generalize openF 60 0 (d ++ p) = xs at *
    generalize endsF 60 0 0 (d ++ p) = es at *
    generalize consF 60 0 (d ++ p) = S at *
    have happ := fun L b q e' c0 (hb : L[b]? = some (.cells [.int .i64 0] true)) (hq : cellsAt L q = some (encN es)) => app_all (e := e') (L := L) (b := b) (q := q) (n := 1) (k := xs.length) (sz := 1) (bytes := 8) (c := c0) (cap := some 1) hb hq rfl (by rw [encN_length, Nat.mul_one]; exact hol.1.symm) (by simp) (by unfold maxBytes; omega)
    have hen : AV.int .i64 0 :: encN es = encI (((0 :: es).map fun n : Nat => (n : Int))) := rfl
    have hsub : IntKind.i64.wrap (((1 + xs.length : Nat) : Int) - 1) = (xs.length : Int) := by
      rw [show ((1 + xs.length : Nat) : Int) - 1 = (xs.length : Int) by omega]; exact wrap64 (by omega) (by omega)
    have hlt1 : xs.length < 1 + xs.length := by omega
    have hpl : part false (AV.int .i64 0 :: encN es) xs.length 1 = some (.int .i64 (S : Nat)) := by
      rw [hen, part_false]
      unfold encI
      rw [hol.1, List.getElem?_map, List.getElem?_map, hlast]
      rfl
    have hcon := fun L q c0 (h : cellsAt L q = some (AV.int .i64 0 :: encN es)) => e_Contains_int (pr := pr) (H := L) (e := none) (q := q) (c := c0) (zs := ((0 :: es).map fun n : Nat => (n : Int))) (h.trans (congrArg some hen)) (by simp; omega) (d.length : Int)
    have hmem2 : decide ((d.length : Int) ∈ ((0 :: es).map fun n : Nat => (n : Int))) = decide (consF 60 0 d = d.length) := by
      refine decide_eq_decide.mpr ?_
      rw [← hmem, List.mem_map]
      constructor
      · rintro ⟨x, hx, he⟩
        rw [show d.length = x by omega]; exact hx
      · intro h; exact ⟨d.length, h, rfl⟩
    rw [hmem2] at hcon
    have hzl : ((0 :: es).map fun n : Nat => (n : Int)).length = 1 + xs.length := by simp; omega
    rw [hzl] at hcon
    have hA : decide ((S : Int) = ((d.length + p.length : Nat) : Int)) = decide (S = d.length + p.length) := decide_eq_decide.mpr (by omega)
    rw [← hA]
    apply Wc.eq
    rw [call_wc t_i_logRecords]
    cases hA' : decide ((S : Int) = ((d.length + p.length : Nat) : Int)) with
    | false => simp +contextual only [a_i_logRecords, c_i_logRecords, fillParts, binop_sadd, hll, hgt, gt_iff_lt, bs_size, List.size_toArray, List.length_append, hrr, happ, hsub, hlt1, hpl, hA', under_encE rcC_under, Nat.mul_one, Nat.add_assoc, decide_true, Wp_some, Wp_none, Wp_ite, Wc_some, Wc_none, Wc_ite, Wp_thenRun, seqQ_normal, seqQ_exit, seqQ_ret, Wp_inBlock, blkQ_normal, blkQ_ret, blkQ_same, blkQ_exit, Wp_opThen, opQ_at, Wp_guardP, retQ_normal, retQ_ret, loopQ_normal, loopQ_exit, loopQ_ret, finish_one_eq, finish_one_eq0, finish_two_eq, finish_two_eq0, roots_slice_new, roots_slice_new0, roots_slice_none, roots_ptr_new, roots_ptr_new0, roots_int, roots_bool, roots_str, roots_agg, roots_tup, roots_cons, roots_nil, rename_slice, rename_slice_none, rename_ptr, rename_int, rename_bool, rename_str, rename_agg, rename_tup, rename_cons, rename_nil, keepBlks_nil, keepBlks_cons, flatAll_nil, flatAll_cons, flatBlk_cells, dedup_nil, dedup_one, dedup_two, renum_one, renum_one0, renum_two0, renum_two1, clean_none', clean_some, minEsc_none, minEsc_some, Nat.add_left_cancel_iff, Nat.le_add_right, Nat.le_refl, decide_true, go_sem, entry, joinEsc, if_pos, reduceIte, Nat.reduceAdd, Nat.reduceLeDiff, Nat.reduceLT, Nat.reduceEqDiff]
    | true =>
      cases hB' : decide (consF 60 0 d = d.length) with
      | false =>
        rw [hB'] at hcon
        simp +contextual only [a_i_logRecords, c_i_logRecords, fillParts, binop_sadd, hll, hgt, gt_iff_lt, bs_size, List.size_toArray, List.length_append, hrr, happ, hsub, hlt1, hpl, hcon, hA', under_encE rcC_under, Nat.mul_one, Nat.add_assoc, decide_true, Wp_some, Wp_none, Wp_ite, Wc_some, Wc_none, Wc_ite, Wp_thenRun, seqQ_normal, seqQ_exit, seqQ_ret, Wp_inBlock, blkQ_normal, blkQ_ret, blkQ_same, blkQ_exit, Wp_opThen, opQ_at, Wp_guardP, retQ_normal, retQ_ret, loopQ_normal, loopQ_exit, loopQ_ret, finish_one_eq, finish_one_eq0, finish_two_eq, finish_two_eq0, roots_slice_new, roots_slice_new0, roots_slice_none, roots_ptr_new, roots_ptr_new0, roots_int, roots_bool, roots_str, roots_agg, roots_tup, roots_cons, roots_nil, rename_slice, rename_slice_none, rename_ptr, rename_int, rename_bool, rename_str, rename_agg, rename_tup, rename_cons, rename_nil, keepBlks_nil, keepBlks_cons, flatAll_nil, flatAll_cons, flatBlk_cells, dedup_nil, dedup_one, dedup_two, renum_one, renum_one0, renum_two0, renum_two1, clean_none', clean_some, minEsc_none, minEsc_some, Nat.add_left_cancel_iff, Nat.le_add_right, Nat.le_refl, decide_true, go_sem, entry, joinEsc, if_pos, reduceIte, Nat.reduceAdd, Nat.reduceLeDiff, Nat.reduceLT, Nat.reduceEqDiff]
      | true =>
        rw [hB'] at hcon
        simp +contextual only [a_i_logRecords, c_i_logRecords, fillParts, binop_sadd, hll, hgt, gt_iff_lt, bs_size, List.size_toArray, List.length_append, hrr, happ, hsub, hlt1, hpl, hcon, hA', under_encE rcC_under, Nat.mul_one, Nat.add_assoc, decide_true, Wp_some, Wp_none, Wp_ite, Wc_some, Wc_none, Wc_ite, Wp_thenRun, seqQ_normal, seqQ_exit, seqQ_ret, Wp_inBlock, blkQ_normal, blkQ_ret, blkQ_same, blkQ_exit, Wp_opThen, opQ_at, Wp_guardP, retQ_normal, retQ_ret, loopQ_normal, loopQ_exit, loopQ_ret, finish_one_eq, finish_one_eq0, finish_two_eq, finish_two_eq0, roots_slice_new, roots_slice_new0, roots_slice_none, roots_ptr_new, roots_ptr_new0, roots_int, roots_bool, roots_str, roots_agg, roots_tup, roots_cons, roots_nil, rename_slice, rename_slice_none, rename_ptr, rename_int, rename_bool, rename_str, rename_agg, rename_tup, rename_cons, rename_nil, keepBlks_nil, keepBlks_cons, flatAll_nil, flatAll_cons, flatBlk_cells, dedup_nil, dedup_one, dedup_two, renum_one, renum_one0, renum_two0, renum_two1, clean_none', clean_some, minEsc_none, minEsc_some, Nat.add_left_cancel_iff, Nat.le_add_right, Nat.le_refl, decide_true, go_sem, entry, joinEsc, if_pos, reduceIte, Nat.reduceAdd, Nat.reduceLeDiff, Nat.reduceLT, Nat.reduceEqDiff]
  · have hgt : decide ((30000 : Int) < ((d.length + p.length : Nat) : Int)) = true := decide_eq_true (by omega)
    rw [if_neg h3, decide_eq_false h3, Bool.false_and]
    apply Wc.eq
    rw [call_wc t_i_logRecords]
    simp +contextual only [a_i_logRecords, c_i_logRecords, binop_sadd, hll, hgt, gt_iff_lt, bs_size, List.size_toArray, List.length_append, Wp_some, Wp_none, Wp_ite, Wc_some, Wc_none, Wc_ite, Wp_thenRun, seqQ_normal, seqQ_exit, seqQ_ret, Wp_inBlock, blkQ_normal, blkQ_ret, blkQ_same, blkQ_exit, Wp_opThen, opQ_at, Wp_guardP, retQ_normal, retQ_ret, loopQ_normal, loopQ_exit, loopQ_ret, finish_one_eq, finish_one_eq0, finish_two_eq, finish_two_eq0, roots_slice_new, roots_slice_new0, roots_slice_none, roots_ptr_new, roots_ptr_new0, roots_int, roots_bool, roots_str, roots_agg, roots_tup, roots_cons, roots_nil, rename_slice, rename_slice_none, rename_ptr, rename_int, rename_bool, rename_str, rename_agg, rename_tup, rename_cons, rename_nil, keepBlks_nil, keepBlks_cons, flatAll_nil, flatAll_cons, flatBlk_cells, dedup_nil, dedup_one, dedup_two, renum_one, renum_one0, renum_two0, renum_two1, clean_none', clean_some, minEsc_none, minEsc_some, Nat.add_left_cancel_iff, Nat.le_add_right, Nat.le_refl, decide_true, go_sem, entry, joinEsc, if_pos, reduceIte, Nat.reduceAdd, Nat.reduceLeDiff, Nat.reduceLT, Nat.reduceEqDiff]

theorem logOk_le {d p : By} {c : Int} (h : logOk d p c = true) : d.length + p.length ≤ 30000 ∧ consF 60 0 (d ++ p) = d.length + p.length ∧ consF 60 0 d = d.length ∧ c = ((openF 60 0 (d ++ p)).length : Int) ∧ (openF 60 0 (d ++ p)).length ≤ 60 := by
  unfold logOk at h
  simp only [Bool.and_eq_true, decide_eq_true_eq] at h
  exact ⟨h.1, h.2.1, h.2.2.1, h.2.2.2, (openF_len 60 0 0 (d ++ p)).2⟩

theorem logOk_big {d p : By} {c : Int} (h : ¬ d.length + p.length ≤ 30000) : logOk d p c = false := by
  unfold logOk
  rw [decide_eq_false h, Bool.false_and]

theorem e_i_IsValidLog (hi : HasItoa pr) (hc : HasContains pr) (hx : HasIndex pr) (d p : By) (c : Int) (hd : d.length ≤ 1048576) (hp : p.length ≤ 1048576) : call T pr f_i_IsValidLog [lgV d p c] ⟨H, e⟩ = some (.bool (logOk d p c), ⟨H, e⟩) := by
  have hl := fun L => e_i_logRecords (pr := pr) (H := L) (e := none) hi hc hx d p c hd hp
  rw [call_eq t_i_IsValidLog]
  by_cases h3 : d.length + p.length ≤ 30000
  · simp only [h3, if_true] at hl
    simp +contextual only [a_i_IsValidLog, c_i_IsValidLog, hl, go_sem, entry, joinEsc, if_pos, reduceIte, Nat.reduceAdd, Nat.reduceLeDiff, Nat.reduceLT, Nat.reduceEqDiff]
  · simp only [h3, if_false] at hl
    simp +contextual only [a_i_IsValidLog, c_i_IsValidLog, hl, go_sem, entry, joinEsc, if_pos, reduceIte, Nat.reduceAdd, Nat.reduceLeDiff, Nat.reduceLT, Nat.reduceEqDiff]

/-- what a log becomes by one more record -/
def appF (d p : By) (c : Int) (a r : By) : AV :=
  if (logOk d p c && rcOk a r) = true then (if c = 60 then .tup [lgV d p c, .int .i64 2] else .tup [lgV d (p ++ lineL c a r) (c + 1), .int .i64 0]) else .tup [lgV d p c, .int .i64 1]

end Go.Proofs.YtemcdiajejekoaaDoor.Slim

/- Logs: the laws on validity, syncing and appending. -/
namespace Go.Proofs.YtemcdiajejekoaaDoor.Slim

open Go

set_option linter.unusedSimpArgs false

set_option linter.unusedVariables false

variable {pr : Prims} {H : List Blk} {e : Option Nat}

theorem e_l_szLog {d p : By} (k : Int) (c : Int) (hk : 0 ≤ k ∧ k ≤ 1048576) (hd : d.length ≤ maxLen) (hp : p.length ≤ maxLen) : call T pr f_l_szLog [lgV d p c, .int .i64 k] ⟨H, e⟩ = some (.int .i64 (if ((d.length + p.length : Nat) : Int) ≤ k then k - ((d.length + p.length : Nat) : Int) else -1), ⟨H, e⟩) := by
  have hm : (maxLen : Int) = 9223372036854775807 := by unfold maxLen; omega
  have w1 : IntKind.i64.wrap (k - (d.length : Int)) = k - (d.length : Int) := wrap64 (by omega) (by omega)
  rw [call_eq t_l_szLog]
  by_cases h1 : (d.length : Int) ≤ k
  · have g1 : decide (k - (d.length : Int) < 0) = false := decide_eq_false (by omega)
    have w2 : IntKind.i64.wrap (k - (d.length : Int) - (p.length : Int)) = k - (d.length : Int) - (p.length : Int) := wrap64 (by omega) (by omega)
    by_cases h2 : (d.length : Int) + (p.length : Int) ≤ k
    · have g2 : decide (k - (d.length : Int) - (p.length : Int) < 0) = false := decide_eq_false (by omega)
      rw [if_pos (by omega), show k - ((d.length + p.length : Nat) : Int) = k - (d.length : Int) - (p.length : Int) by omega]
      simp +contextual only [a_l_szLog, c_l_szLog, w1, w2, g1, g2, bs_size, List.size_toArray, go_sem, entry, joinEsc, if_pos, reduceIte, Nat.reduceAdd, Nat.reduceLeDiff, Nat.reduceLT, Nat.reduceEqDiff]
    · have g2 : decide (k - (d.length : Int) - (p.length : Int) < 0) = true := decide_eq_true (by omega)
      rw [if_neg (by omega)]
      simp +contextual only [a_l_szLog, c_l_szLog, w1, w2, g1, g2, bs_size, List.size_toArray, go_sem, entry, joinEsc, if_pos, reduceIte, Nat.reduceAdd, Nat.reduceLeDiff, Nat.reduceLT, Nat.reduceEqDiff]
  · have g1 : decide (k - (d.length : Int) < 0) = true := decide_eq_true (by omega)
    rw [if_neg (by omega)]
    simp +contextual only [a_l_szLog, c_l_szLog, w1, g1, bs_size, List.size_toArray, go_sem, entry, joinEsc, if_pos, reduceIte, Nat.reduceAdd, Nat.reduceLeDiff, Nat.reduceLT, Nat.reduceEqDiff]

theorem e_l_toLog (d p : By) (c : Int) : call T pr f_l_toLog [lgV d p c] ⟨H, e⟩ = some (lgV d p c, ⟨H, e⟩) := by
  rw [call_eq t_l_toLog]
  simp +contextual only [a_l_toLog, c_l_toLog, go_sem, entry, joinEsc, if_pos, reduceIte, Nat.reduceAdd, Nat.reduceLeDiff, Nat.reduceLT, Nat.reduceEqDiff]

theorem e_l_eqLog (d p d' p' : By) (c c' : Int) : call T pr f_l_eqLog [lgV d p c, lgV d' p' c'] ⟨H, e⟩ = some (.bool (decide (d = d' ∧ p = p' ∧ c = c')), ⟨H, e⟩) := by
  rw [call_eq t_l_eqLog]
  by_cases h1 : d = d'
  · by_cases h2 : p = p'
    · by_cases h3 : c = c'
      · subst h1; subst h2; subst h3
        simp +contextual only [a_l_eqLog, c_l_eqLog, ne_eq, not_true_eq_false, decide_false, and_self, decide_true, go_sem, entry, joinEsc, if_pos, reduceIte, Nat.reduceAdd, Nat.reduceLeDiff, Nat.reduceLT, Nat.reduceEqDiff]
      · have g3 : decide (c ≠ c') = true := decide_eq_true h3
        subst h1; subst h2
        rw [decide_eq_false (fun h => h3 h.2.2)]
        simp +contextual only [a_l_eqLog, c_l_eqLog, ne_eq, not_true_eq_false, decide_false, g3, h3, not_false_eq_true, decide_true, go_sem, entry, joinEsc, if_pos, reduceIte, Nat.reduceAdd, Nat.reduceLeDiff, Nat.reduceLT, Nat.reduceEqDiff]
    · have g2 : ¬ bs p = bs p' := fun h => h2 (bs_inj.mp h)
      subst h1
      rw [decide_eq_false (fun h => h2 h.2.1)]
      simp +contextual only [a_l_eqLog, c_l_eqLog, ne_eq, not_true_eq_false, decide_false, g2, not_false_eq_true, decide_true, decide_false, go_sem, entry, joinEsc, if_pos, reduceIte, Nat.reduceAdd, Nat.reduceLeDiff, Nat.reduceLT, Nat.reduceEqDiff]
  · have g1 : ¬ bs d = bs d' := fun h => h1 (bs_inj.mp h)
    rw [decide_eq_false (fun h => h1 h.1)]
    simp +contextual only [a_l_eqLog, c_l_eqLog, ne_eq, g1, not_false_eq_true, decide_true, decide_false, go_sem, entry, joinEsc, if_pos, reduceIte, Nat.reduceAdd, Nat.reduceLeDiff, Nat.reduceLT, Nat.reduceEqDiff]

theorem e_l_eqLog_same (d p : By) (c : Int) : call T pr f_l_eqLog [lgV d p c, lgV d p c] ⟨H, e⟩ = some (.bool true, ⟨H, e⟩) := by
  rw [e_l_eqLog, decide_eq_true ⟨rfl, rfl, rfl⟩]

end Go.Proofs.YtemcdiajejekoaaDoor.Slim

/- Consoles: IsValidConsole (NOT BUILT YET: written ahead of the console's seat). -/
namespace Go.Proofs.YtemcdiajejekoaaDoor.Slim

open Go

set_option linter.unusedSimpArgs false

set_option linter.unusedVariables false

variable {pr : Prims} {H : List Blk} {e : Option Nat}

/-- a console (see t_l_szConsole) -/
abbrev cnV (row : AV) (a b : Int) (chain : AV) (t k : Int) (d p : By) (c : Int) : AV := .agg [row, .int .i64 a, .int .i64 b, chain, .int .i64 t, .int .i64 k, sV d, sV p, .int .i64 c]

theorem e_l_szConsole {p1 p2 : Option (Nat × Nat)} {s1 s2 n1 n2 : Nat} {c1 c2 : Option Nat} (hn1 : n1 ≤ maxLen) (hn2 : n2 ≤ maxLen) (a b t k c : Int) {d p : By} (hd : d.length ≤ maxLen) (hp : p.length ≤ maxLen) : call T pr f_l_szConsole [cnV (.slice p1 s1 n1 c1) a b (.slice p2 s2 n2 c2) t k d p c, .int .i64 1048576] ⟨H, e⟩ =
    some (.int .i64 (if n1 + n2 + (d.length + p.length) ≤ 1048576 then 1048576 - ((n1 + n2 + (d.length + p.length) : Nat) : Int) else -1), ⟨H, e⟩) := by
  rw [call_eq t_l_szConsole]
  have hst := fun G e' => e_l_szStand (pr := pr) (H := G) (e := e') (p1 := p1) (p2 := p2) (s1 := s1) (s2 := s2) (c1 := c1) (c2 := c2) hn1 hn2 a b t k
  by_cases h1 : n1 + n2 ≤ 1048576
  · have hlg := fun G e' => e_l_szLog (pr := pr) (H := G) (e := e') (1048576 - ((n1 + n2 : Nat) : Int)) c (by omega) hd hp
    have h2 : ¬ (1048576 - ((n1 + n2 : Nat) : Int) < 0) := by omega
    simp only [if_pos h1] at hst
    by_cases h3 : n1 + n2 + (d.length + p.length) ≤ 1048576
    · have h4 : ((d.length + p.length : Nat) : Int) ≤ 1048576 - ((n1 + n2 : Nat) : Int) := by omega
      have h5 : ¬ (1048576 - ((n1 + n2 : Nat) : Int) - ((d.length + p.length : Nat) : Int) < 0) := by omega
      simp only [if_pos h4] at hlg
      have h6 : (1048576 - ((n1 + n2 : Nat) : Int) - ((d.length + p.length : Nat) : Int)) = 1048576 - ((n1 + n2 + (d.length + p.length) : Nat) : Int) := by omega
      have h7 : ¬ (1048576 - ((n1 + n2 + (d.length + p.length) : Nat) : Int) < 0) := by omega
      rw [h6] at hlg
      simp +contextual only [a_l_szConsole, c_l_szConsole, hst, hlg, h2, h3, h7, decide_false, decide_true, go_sem, entry, joinEsc, if_pos, reduceIte, Nat.reduceAdd, Nat.reduceLeDiff, Nat.reduceLT, Nat.reduceEqDiff]
    · have h4 : ¬ ((d.length + p.length : Nat) : Int) ≤ 1048576 - ((n1 + n2 : Nat) : Int) := by omega
      simp only [if_neg h4] at hlg
      simp +contextual only [a_l_szConsole, c_l_szConsole, hst, hlg, h2, h3, decide_false, decide_true, show ((-1 : Int) < 0) by omega, go_sem, entry, joinEsc, if_pos, reduceIte, Nat.reduceAdd, Nat.reduceLeDiff, Nat.reduceLT, Nat.reduceEqDiff]
  · have h3 : ¬ n1 + n2 + (d.length + p.length) ≤ 1048576 := by omega
    simp only [if_neg h1] at hst
    simp +contextual only [a_l_szConsole, c_l_szConsole, hst, h3, decide_true, show ((-1 : Int) < 0) by omega, go_sem, entry, joinEsc, if_pos, reduceIte, Nat.reduceAdd, Nat.reduceLeDiff, Nat.reduceLT, Nat.reduceEqDiff]

theorem finish_cnB {G : List Blk} {j1 j2 n1 n2 : Nat} {c1 c2 : Option Nat} {cs1 cs2 : List AV} {w1 w2 : Bool} (a b t k c : Int) (d p : By) (e0 e1 : Option Nat) (hc : clean H.length e1 = true) (h1 : G[j1]? = some (.cells cs1 w1)) (h2 : G[j2]? = some (.cells cs2 w2)) (hne : j1 ≠ j2)
    (u1 : (cs1.all fun c => c.under H.length) = true) (u2 : (cs2.all fun c => c.under H.length) = true) :
    finish 2 H.length e0 (cnV (slL (H.length + j1) n1 c1) a b (slS (H.length + j2) n2 c2) t k d p c) ⟨H ++ G, e1⟩ = some (cnV (slL H.length n1 c1) a b (slS (H.length + 1) n2 c2) t k d p c, ⟨H ++ [.cells cs1 w1, .cells cs2 w2], e0⟩) := by
  have hlt1 : ¬ H.length + j1 < H.length := by omega
  have hlt2 : ¬ H.length + j2 < H.length := by omega
  have hne' : ¬ H.length + j2 = H.length + j1 := by omega
  have hr : dedup (AV.roots H.length (cnV (slL (H.length + j1) n1 c1) a b (slS (H.length + j2) n2 c2) t k d p c)) = [H.length + j1, H.length + j2] := by
    simp only [AV.roots, AV.roots.go, if_neg hlt1, if_neg hlt2, List.nil_append, List.cons_append, List.append_nil]
    simp [dedup, hne', hne, Ne.symm hne]
  have hb1 : (H ++ G)[H.length + j1]? = some (.cells cs1 w1) := by rw [List.getElem?_append_right (by omega)]; simpa using h1
  have hb2 : (H ++ G)[H.length + j2]? = some (.cells cs2 w2) := by rw [List.getElem?_append_right (by omega)]; simpa using h2
  unfold finish
  simp only [hr]
  have h3 : ([H.length + j1, H.length + j2].all fun b => flatBlk H.length (H ++ G)[b]?) = true := by
    simp only [List.all_cons, List.all_nil, Bool.and_true, hb1, hb2, flatBlk, u1, u2, Bool.and_self]
  simp only [hc, h3, and_self, if_true]
  have hq : (H.length + j1 == H.length + j2) = false := by simpa using hne
  simp [AV.rename, AV.rename.go, renum, hb1, hb2, List.idxOf_cons]
  refine ⟨fun h => by omega, ?_⟩
  rw [if_neg hlt2, hq]
  rfl

theorem e_l_toConsole {row chain : AV} {ls : List Ld} {ss : List Sg} (ha : ArgL H row ls) (hs : ArgS H chain ss) (hn : ls.length ≤ 1048576) (hm : ss.length ≤ 1048576) (a b t k c : Int) (d p : By) : call T pr f_l_toConsole [cnV row a b chain t k d p c] ⟨H, e⟩ =
    some (cnV (slL H.length ls.length (some ls.length)) a b (slS (H.length + 1) ss.length (some ss.length)) t k d p c, ⟨H ++ [.cells (encL ls) true, .cells (encS ss) true], e⟩) := by
  have hto := fun G => e_l_toStand (pr := pr) (e := none) (ha.more G) (hs.more G) hn hm a b t k
  have hlg := fun G e' => e_l_toLog (pr := pr) (H := G) (e := e') d p c
  have hf : ∀ (B0 B1 B2 : Blk) (e0 e1 : Option Nat), clean H.length e1 = true → finish 2 H.length e0 (cnV (slL (H.length + 3) ls.length (some ls.length)) a b (slS (H.length + 4) ss.length (some ss.length)) t k d p c) ⟨H ++ [B0, B1, B2, .cells (encL ls) true, .cells (encS ss) true], e1⟩ = some (cnV (slL H.length ls.length (some ls.length)) a b (slS (H.length + 1) ss.length (some ss.length)) t k d p c, ⟨H ++ [.cells (encL ls) true, .cells (encS ss) true], e0⟩) :=
    fun B0 B1 B2 e0 e1 hc => finish_cnB a b t k c d p e0 e1 hc rfl rfl (by decide) (under_encL _ _) (under_encS _ _)
  rw [call_eq t_l_toConsole]
  simp +contextual only [a_l_toConsole, c_l_toConsole, fillParts, hto, hlg, Nat.add_assoc, Nat.add_lt_add_iff_left, decide_false, decide_true, under_slice, under_sliceN, hf, clean_minEsc, clean_none, Nat.le_add_right, Nat.le_refl, go_sem, entry, joinEsc, if_pos, reduceIte, Nat.reduceAdd, Nat.reduceLeDiff, Nat.reduceLT, Nat.reduceEqDiff]

theorem e_l_eqConsoleD {r1 r2 c1 c2 : AV} (h1 : ∀ G, call T pr f_l_eqLoadS [r1, r2] ⟨H ++ G, none⟩ = some (.bool true, ⟨H ++ G, none⟩)) (h2 : ∀ G, call T pr f_l_eqStageS [c1, c2] ⟨H ++ G, none⟩ = some (.bool true, ⟨H ++ G, none⟩)) (a b t k c : Int) (d p : By) :
    call T pr f_l_eqConsole [cnV r1 a b c1 t k d p c, cnV r2 a b c2 t k d p c] ⟨H, e⟩ = some (.bool true, ⟨H, e⟩) := by
  have hst := fun G => e_l_eqStand (pr := pr) (H := H ++ G) (e := none) (r1 := r1) (r2 := r2) (c1 := c1) (c2 := c2) (fun G2 => by rw [List.append_assoc]; exact h1 _) (fun G2 => by rw [List.append_assoc]; exact h2 _) a b t k
  have hlg := fun G e' => e_l_eqLog_same (pr := pr) (H := G) (e := e') d p c
  rw [call_eq t_l_eqConsole]
  simp +contextual only [a_l_eqConsole, c_l_eqConsole, hst, hlg, decide_true, go_sem, entry, joinEsc, if_pos, reduceIte, Nat.reduceAdd, Nat.reduceLeDiff, Nat.reduceLT, Nat.reduceEqDiff]

/-- is it a stand? -/
def standB (ls : List Ld) (ss : List Sg) (a b t k : Int) : Bool := rowOk ls && (chainOk ss && restOk a b t k)

theorem e_i_IsValidConsole (hi : HasItoa pr) (hp : HasContains pr) (hx : HasIndex pr) {q q' : Nat} {c1 c2 : Option Nat} {ls : List Ld} {ss : List Sg} (h1 : cellsAt H q = some (encL ls)) (h2 : cellsAt H q' = some (encS ss)) (hm : ss.length ≤ 1048576) (a b t k c : Int) {d p : By} (hd : d.length ≤ 1048576) (hpp : p.length ≤ 1048576) : call T pr f_i_IsValidConsole [cnV (slL q ls.length c1) a b (slS q' ss.length c2) t k d p c] ⟨H, e⟩ = some (.bool (standB ls ss a b t k && logOk d p c), ⟨H, e⟩) := by
  have hst : ∀ G, call T pr f_i_IsStand [stV (slL q ls.length c1) a b (slS q' ss.length c2) t k] ⟨H ++ G, none⟩ = some (.bool (standB ls ss a b t k), ⟨H ++ G, none⟩) :=
    fun G => e_i_IsStand (fun G2 => e_i_IsRow (cells_mono (cells_mono h1 G) G2)) (fun G2 => e_i_isChain (cells_mono (cells_mono h2 G) G2) (by omega)) a b t k
  have hlg := fun L => e_i_IsValidLog (pr := pr) (H := L) (e := none) hi hp hx d p c hd hpp
  rw [call_eq t_i_IsValidConsole]
  cases hA : standB ls ss a b t k <;> rw [hA] at hst <;> cases hB : logOk d p c <;> rw [hB] at hlg <;> simp +contextual only [a_i_IsValidConsole, c_i_IsValidConsole, hst, hlg, go_sem, entry, joinEsc, if_pos, reduceIte, Nat.reduceAdd, Nat.reduceLeDiff, Nat.reduceLT, Nat.reduceEqDiff]

theorem e_s_IsValidConsole {q q' : Nat} {c1 c2 : Option Nat} {ls : List Ld} {ss : List Sg} (h1 : cellsAt H q = some (encL ls)) (h2 : cellsAt H q' = some (encS ss)) (hm : ss.length ≤ 1048576) (a b t k c : Int) {d p : By} (hd : d.length ≤ 1048576) (hpp : p.length ≤ 1048576) : call T pr f_s_IsValidConsole [cnV (slL q ls.length c1) a b (slS q' ss.length c2) t k d p c] ⟨H, e⟩ = some (.bool (standB ls ss a b t k && logOk d p c), ⟨H, e⟩) := by
  have hst : ∀ G, call T pr f_s_l12Good [stV (slL q ls.length c1) a b (slS q' ss.length c2) t k] ⟨H ++ G, none⟩ = some (.bool (standB ls ss a b t k), ⟨H ++ G, none⟩) := by
    intro G
    exact e_s_l12Good (fun G2 => e_s_l2Row (cells_mono (cells_mono h1 G) G2)) (fun G2 => e_s_l7Stages (cells_mono (cells_mono h2 G) G2) (by omega)) a b t k
  have hlg : ∀ L, call T pr f_s_l12Valid [lgV d p c] ⟨L, none⟩ = some (.bool (logOk d p c), ⟨L, none⟩) := by
    intro L
    exact e_s_l12Valid d p c hd hpp
  rw [call_eq t_s_IsValidConsole]
  cases hA : standB ls ss a b t k <;> rw [hA] at hst <;> cases hB : logOk d p c <;> rw [hB] at hlg <;> simp +contextual only [a_s_IsValidConsole, c_s_IsValidConsole, hst, hlg, go_sem, entry, joinEsc, if_pos, reduceIte, Nat.reduceAdd, Nat.reduceLeDiff, Nat.reduceLT, Nat.reduceEqDiff]

theorem law_IsValidConsole (hi : HasItoa pr) (hp : HasContains pr) (hx : HasIndex pr) {row chain : AV} {ls : List Ld} {ss : List Sg} (ha : ArgL H row ls) (hs : ArgS H chain ss) {s u : ByteArray} (hs1 : s.size ≤ maxLen) (hu1 : u.size ≤ maxLen) (a b t k c : Int) : ∃ m', call T pr f_l_FnExactIsValidConsole [.agg [row, .int .i64 a, .int .i64 b, chain, .int .i64 t, .int .i64 k, .str s, .str u, .int .i64 c]] ⟨H, none⟩ = some (.bool true, m') := by
  obtain ⟨d, rfl⟩ := bs_of s
  obtain ⟨p, rfl⟩ := bs_of u
  refine ⟨⟨H, none⟩, ?_⟩
  have hsz : ∀ G e', call T pr f_l_szConsole [cnV row a b chain t k d p c, .int .i64 1048576] ⟨G, e'⟩ = some (.int .i64 (if ls.length + ss.length + (d.length + p.length) ≤ 1048576 then 1048576 - ((ls.length + ss.length + (d.length + p.length) : Nat) : Int) else -1), ⟨G, e'⟩) := by
    obtain ⟨p, sz, c, rfl, h2, h3⟩ := ha
    obtain ⟨p', sz', c', rfl, h2', h3'⟩ := hs
    exact fun G e' => e_l_szConsole h2 h2' a b t k _ hs1 hu1
  rw [call_eq t_l_FnExactIsValidConsole]
  by_cases hn : ls.length + ss.length + (d.length + p.length) ≤ 1048576
  · have hneg : ¬ (1048576 - ((ls.length + ss.length + (d.length + p.length) : Nat) : Int) < 0) := by omega
    have hto := fun G => e_l_toConsole (pr := pr) (e := none) (ha.more G) (hs.more G) (by omega) (by omega) a b t k c d p
    have hii : ∀ L q q' c1 c2, cellsAt L q = some (encL ls) → cellsAt L q' = some (encS ss) → call T pr f_i_IsValidConsole [cnV (slL q ls.length c1) a b (slS q' ss.length c2) t k d p c] ⟨L, none⟩ = some (.bool (standB ls ss a b t k && logOk d p c), ⟨L, none⟩) :=
      fun L q q' c1 c2 h1 h2 => e_i_IsValidConsole hi hp hx h1 h2 (by omega) a b t k c (by omega) (by omega)
    have hsi : ∀ L q q' c1 c2, cellsAt L q = some (encL ls) → cellsAt L q' = some (encS ss) → call T pr f_s_IsValidConsole [cnV (slL q ls.length c1) a b (slS q' ss.length c2) t k d p c] ⟨L, none⟩ = some (.bool (standB ls ss a b t k && logOk d p c), ⟨L, none⟩) :=
      fun L q q' c1 c2 h1 h2 => e_s_IsValidConsole h1 h2 (by omega) a b t k c (by omega) (by omega)
    have heq : ∀ L q1 q2 k1 k2 q3 q4 k3 k4, cellsAt L q1 = some (encL ls) → cellsAt L q2 = some (encL ls) → cellsAt L q3 = some (encS ss) → cellsAt L q4 = some (encS ss) → call T pr f_l_eqConsole [cnV (slL q1 ls.length k1) a b (slS q3 ss.length k3) t k d p c, cnV (slL q2 ls.length k2) a b (slS q4 ss.length k4) t k d p c] ⟨L, none⟩ = some (.bool true, ⟨L, none⟩) :=
      fun L q1 q2 k1 k2 q3 q4 k3 k4 h1 h2 h3 h4 => e_l_eqConsoleD (fun G => e_l_eqLoadS (cells_mono h1 G) (cells_mono h2 G) (by omega)) (fun G => e_l_eqStageS (cells_mono h3 G) (cells_mono h4 G) (by omega)) a b t k c d p
    cases hA : (standB ls ss a b t k && logOk d p c) <;> rw [hA] at hii hsi <;> simp +contextual only [a_l_FnExactIsValidConsole, c_l_FnExactIsValidConsole, hsz, hn, hneg, hto, hsi, hii, heq, under_slice, under_sliceN, Nat.add_assoc, Nat.add_lt_add_iff_left, Nat.lt_add_right_iff_pos, decide_true, decide_false, beq_self_eq_true, go_sem, entry, joinEsc, if_pos, reduceIte, Nat.reduceAdd, Nat.reduceLeDiff, Nat.reduceLT, Nat.reduceEqDiff]
  · simp +contextual only [a_l_FnExactIsValidConsole, c_l_FnExactIsValidConsole, hsz, hn, decide_true, show ((-1 : Int) < 0) by omega, go_sem, entry, joinEsc, if_pos, reduceIte, Nat.reduceAdd, Nat.reduceLeDiff, Nat.reduceLT, Nat.reduceEqDiff]

end Go.Proofs.YtemcdiajejekoaaDoor.Slim
