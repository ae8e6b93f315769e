/- What a call that only lays new blocks leaves of memory; the table of powers of ten. -/
import Derived.Test.YtdohjcodjjogbaaDoorSlimZ11
import Derived.Sort.Grow
import Derived.Lib.LaidTab
import Derived.Lib.ItoaMem
import Derived.LaidSub
import Derived.MakeChecks
/- What a call that only lays new blocks leaves of memory; the table of powers of ten. -/
namespace Go.Proofs.YtdohjcodjjogbaaDoor.Slim
open Go Go.Sort
set_option linter.unusedVariables false

theorem Rel.later {ι : Emb} {m : Mem} {w w' : World} (R : Rel ι m w) (hsz : w.heap.size ≤ w'.heap.size) (hold : ∀ r, r < w.heap.size → w'.heap[r]? = w.heap[r]?) (h1 : w'.os = w.os) (h2 : w'.tape = w.tape) (h3 : w'.output = w.output) :
    Rel ι m w' ∧ Ext ι m w ι m w' := by
  have hsh : Shapes w w' := by
    intro r s h
    have hr : r < w.heap.size := by
      rcases Nat.lt_or_ge r w.heap.size with h' | h'
      · exact h'
      · unfold World.shape? at h
        simp [Array.getElem?_eq_none h'] at h
    unfold World.shape? at *
    rw [hold r hr]
    exact h
  refine R.of0 ⟨⟨R.len, fun b c d hb => Nat.lt_of_lt_of_le (R.low b c d hb) hsz, fun b cs wr hb => ?_, R.inj⟩, ⟨Emb.le_refl _, Nat.le_refl _, hsz, hsh, fun r hr => .inl hr, fun r hr _ => hold r hr, h1, h2, h3⟩⟩
  obtain ⟨c, d, g1, g2⟩ := R.at' b cs wr hb
  exact ⟨c, d, g1, g2.mono (Emb.le_refl _) hsh (hold c (R.low b c d g1))⟩

theorem Rel.grown {ι : Emb} {m : Mem} {w : World} (R : Rel ι m w) (k : Nat) (os : Array Obj) : Rel ι m (grow (w.drewN k) os) ∧ Ext ι m w ι m (grow (w.drewN k) os) := by
  refine R.later ?_ (fun r hr => ?_) rfl rfl rfl
  · show w.heap.size ≤ (w.heap ++ os).size
    simp
  · show (w.heap ++ os)[r]? = w.heap[r]?
    rw [Array.getElem?_append_left hr]

/-- the program's own table, off the memory -/
theorem Glob.tab {ι : Emb} {m : Mem} {w : World} {P : Program} {name : String} {k : IntKind} {zs : List Int} {g : Nat} {Q : Array Value → Prop} (h : Glob ι m w) (hg : P.globalNamed name = some g) (hm : (g, Q) ∈ globTab) (hQ : ∀ cs, Q cs → cs = (zs.map fun z => Value.int k z).toArray) :
    Lib.TabIs P w name k zs := by
  obtain ⟨_, _, cs, e, fz, h1, h2⟩ := h _ hm
  unfold Lib.TabIs World.var?
  rw [hg]
  simp only [Option.bind_some]
  simp only at h1
  rw [h1, ← hQ cs h2]

end Go.Proofs.YtdohjcodjjogbaaDoor.Slim

/- The contracts of the library's functions that the evaluator takes. -/
namespace Go.Proofs.YtdohjcodjjogbaaDoor.Slim
open Go Go.Sort
set_option linter.unusedVariables false

theorem fn_there {f : FuncId} (h : ((Tryd.prog.funcs[f]?).map fun fn => fn.body.isSome && decide (fn.name ≠ "runtime.NumGoroutine")) = some true) : ∃ fn, Tryd.prog.funcs[f]? = some fn ∧ fn.body.isSome = true ∧ fn.name ≠ "runtime.NumGoroutine" := by
  obtain ⟨fn, h1, h2⟩ := Option.map_eq_some_iff.mp h
  simp only [Bool.and_eq_true, decide_eq_true_eq] at h2
  exact ⟨fn, h1, h2.1, h2.2⟩

def prCon (args : List AV) (m : Mem) : Option (AV × Mem) := match args with
  | [.str s, .str t] => (match t.data.toList with
    | [c] => some (.bool (decide (0 ≤ Lib.indexByte s.data.toList c)), m)
    | _ => none)
  | _ => none

theorem toldCon {args : List AV} {m m' : Mem} {v : AV} (h : prCon args m = some (v, m')) : m' = m ∧ ∃ (s : ByteArray) (c : UInt8), args = [.str s, .str ⟨#[c]⟩] ∧ v = .bool (decide (0 ≤ Lib.indexByte s.data.toList c)) := by
  unfold prCon at h
  split at h
  · rename_i s t
    split at h
    · rename_i c hc
      cases h
      refine ⟨rfl, s, c, ?_, rfl⟩
      cases t with
      | mk d =>
        cases d
        simp at hc
        subst hc
        rfl
    · cases h
  · cases h

theorem okCon {ι : Emb} {m m' : Mem} {w : World} {args : List AV} {vs : List Value} {v : AV} (h : prCon args m = some (v, m')) (R : Rel ι m w) (hv : VL ι w args vs) : Calls Tryd.prog f_strings_Contains vs.toArray w fun e w' => ∃ (ι' : Emb) (v' : Value), e = .returned v' ∧ V ι' w' v v' ∧ Rel ι' m' w' ∧ Ext ι m w ι' m' w' := by
  obtain ⟨rfl, s, c, rfl, rfl⟩ := toldCon h
  obtain ⟨v1, vs1, rfl, rfl, v2, vs2, rfl, rfl, rfl⟩ := hv
  refine (Tryd.strings_Contains_one s c w).mono ?_
  rintro e w' ⟨rfl, rfl⟩
  exact ⟨ι, _, rfl, rfl, R, Ext.refl _ _ _⟩

theorem growCon {args : List AV} {m m' : Mem} {v : AV} (h : prCon args m = some (v, m')) : Grow m m' := by
  obtain ⟨rfl, _⟩ := toldCon h
  exact Grow.refl _

def prIdx (args : List AV) (m : Mem) : Option (AV × Mem) := match args with
  | [.str s, .str t] => (match t.data.toList with
    | [c] => some (.int .i64 (Lib.indexByte s.data.toList c), m)
    | _ => none)
  | _ => none

theorem toldIdx {args : List AV} {m m' : Mem} {v : AV} (h : prIdx args m = some (v, m')) : m' = m ∧ ∃ (s : ByteArray) (c : UInt8), args = [.str s, .str ⟨#[c]⟩] ∧ v = .int .i64 (Lib.indexByte s.data.toList c) := by
  unfold prIdx at h
  split at h
  · rename_i s t
    split at h
    · rename_i c hc
      cases h
      refine ⟨rfl, s, c, ?_, rfl⟩
      cases t with
      | mk d =>
        cases d
        simp at hc
        subst hc
        rfl
    · cases h
  · cases h

theorem okIdx {ι : Emb} {m m' : Mem} {w : World} {args : List AV} {vs : List Value} {v : AV} (h : prIdx args m = some (v, m')) (R : Rel ι m w) (hv : VL ι w args vs) : Calls Tryd.prog f_internal_stringslite_Index vs.toArray w fun e w' => ∃ (ι' : Emb) (v' : Value), e = .returned v' ∧ V ι' w' v v' ∧ Rel ι' m' w' ∧ Ext ι m w ι' m' w' := by
  obtain ⟨rfl, s, c, rfl, rfl⟩ := toldIdx h
  obtain ⟨v1, vs1, rfl, rfl, v2, vs2, rfl, rfl, rfl⟩ := hv
  refine (Tryd.stringslite_Index_one s c w).mono ?_
  rintro e w' ⟨rfl, rfl⟩
  exact ⟨ι, _, rfl, rfl, R, Ext.refl _ _ _⟩

theorem growIdx {args : List AV} {m m' : Mem} {v : AV} (h : prIdx args m = some (v, m')) : Grow m m' := by
  obtain ⟨rfl, _⟩ := toldIdx h
  exact Grow.refl _

def prIto (args : List AV) (m : Mem) : Option (AV × Mem) := match args with
  | [.int .i64 n] => if -9223372036854775808 ≤ n ∧ n ≤ 9223372036854775807 then some (.str ⟨(Lib.itoa n).toArray⟩, m) else none
  | _ => none

theorem toldIto {args : List AV} {m m' : Mem} {v : AV} (h : prIto args m = some (v, m')) : m' = m ∧ ∃ n : Int, args = [.int .i64 n] ∧ (-9223372036854775808 ≤ n ∧ n ≤ 9223372036854775807) ∧ v = .str ⟨(Lib.itoa n).toArray⟩ := by
  unfold prIto at h
  split at h
  · rename_i n
    split at h
    · rename_i hn
      cases h
      exact ⟨rfl, n, rfl, hn, rfl⟩
    · cases h
  · cases h

theorem okIto {ι : Emb} {m m' : Mem} {w : World} {args : List AV} {vs : List Value} {v : AV} (h : prIto args m = some (v, m')) (R : Rel ι m w) (hv : VL ι w args vs) : Calls Tryd.prog f_strconv_Itoa vs.toArray w fun e w' => ∃ (ι' : Emb) (v' : Value), e = .returned v' ∧ V ι' w' v v' ∧ Rel ι' m' w' ∧ Ext ι m w ι' m' w' := by
  obtain ⟨rfl, n, rfl, hn, rfl⟩ := toldIto h
  obtain ⟨v1, vs1, rfl, rfl, rfl⟩ := hv
  refine (Tryd.strconv_Itoa n hn.1 hn.2 w (R.glob.tab (g := 1) (by kernel_rfl) (List.mem_cons_self) (fun cs h => by rw [h]; rfl))).mono ?_
  rintro e w' ⟨rfl, k, os, rfl⟩
  obtain ⟨R', E'⟩ := R.grown k os
  exact ⟨ι, _, rfl, rfl, R', E'⟩

theorem growIto {args : List AV} {m m' : Mem} {v : AV} (h : prIto args m = some (v, m')) : Grow m m' := by
  obtain ⟨rfl, _⟩ := toldIto h
  exact Grow.refl _

def prC : Prims := fun f args m => if f = f_strings_Contains then prCon args m else if f = f_internal_stringslite_Index then prIdx args m else if f = f_strconv_Itoa then prIto args m else none

theorem prC_ok : PrimsOk Tryd.prog prC := by
  refine ⟨fun f args m v m' ι w vs h R hv => ?_, fun f args m v m' h => ?_⟩
  · unfold prC at h
    split at h
    · rename_i hf
      subst hf
      exact ⟨fn_there (by kernel_rfl), okCon h R hv⟩
    split at h
    · rename_i hf
      subst hf
      exact ⟨fn_there (by kernel_rfl), okIdx h R hv⟩
    split at h
    · rename_i hf
      subst hf
      exact ⟨fn_there (by kernel_rfl), okIto h R hv⟩
    cases h
  · unfold prC at h
    split at h
    · exact growCon h
    split at h
    · exact growIdx h
    split at h
    · exact growIto h
    cases h

theorem prC_con : HasContains prC := fun s c m => by
  rw [call_prim rfl]
  rfl

theorem prC_idx : HasIndex prC := fun s c m => by
  rw [call_prim rfl]
  rfl

theorem prC_ito : HasItoa prC := fun n m h1 h2 => by
  rw [call_prim rfl]
  unfold prC
  rw [if_neg (by decide), if_neg (by decide), if_pos rfl]
  exact if_pos ⟨h1, h2⟩

end Go.Proofs.YtdohjcodjjogbaaDoor.Slim

/- Checksums; the encoding of a record. -/
namespace Go.Proofs.YtdohjcodjjogbaaDoor.Slim

open Go

set_option linter.unusedSimpArgs false

set_option linter.unusedVariables false

variable {pr : Prims} {H : List Blk} {e : Option Nat}

def sumStep (h : Nat) (b : UInt8) : Nat := (41 * h + b.toNat + 1) % 999979

def sumL (l : By) : Nat := l.foldl sumStep 7

theorem sumFold_lt : ∀ (l : By) (h : Nat), h < 999979 → l.foldl sumStep h < 999979
  | [], h, hh => hh
  | b :: l, h, hh => sumFold_lt l _ (Nat.mod_lt _ (by omega))

theorem sumL_lt (l : By) : sumL l < 999979 := sumFold_lt l 7 (by omega)

theorem sum_step {h : Nat} (b : UInt8) (hh : h < 999979) : (IntKind.i64.wrap (IntKind.i64.wrap (IntKind.i64.wrap (41 * (h : Int)) + IntKind.i64.wrap (b.toNat : Int)) + 1)).tmod 999979 = ((sumStep h b : Nat) : Int) := by
  have hb := b.toNat_lt
  have w1 : IntKind.i64.wrap (41 * (h : Int)) = 41 * (h : Int) := wrap64 (by omega) (by omega)
  have w2 : IntKind.i64.wrap (b.toNat : Int) = (b.toNat : Int) := wrap64 (by omega) (by omega)
  have w3 : IntKind.i64.wrap (41 * (h : Int) + (b.toNat : Int)) = 41 * (h : Int) + (b.toNat : Int) := wrap64 (by omega) (by omega)
  have w4 : IntKind.i64.wrap (41 * (h : Int) + (b.toNat : Int) + 1) = 41 * (h : Int) + (b.toNat : Int) + 1 := wrap64 (by omega) (by omega)
  rw [w1, w2, w3, w4, Int.tmod_eq_emod_of_nonneg (by omega)]
  unfold sumStep
  omega

theorem foldl_take {α β : Type} (f : β → α → β) (z : β) {l : List α} {i : Nat} {x : α} (h : l[i]? = some x) : f ((l.take i).foldl f z) x = (l.take (i + 1)).foldl f z := by
  rw [List.take_add_one, h, List.foldl_append]
  rfl

theorem e_i_Checksum (l : By) (hn : l.length ≤ 1073741824) : call T pr f_i_Checksum [sV l] ⟨H, e⟩ = some (if l.length ≤ 4000 then .tup [.int .i64 (sumL l), .bool true] else .tup [.int .i64 0, .bool false], ⟨H, e⟩) := by
  by_cases h4 : l.length ≤ 4000
  · have h4' : ¬ ((4000 : Int) < (l.length : Int)) := by omega
    rw [if_pos h4]
    apply Wc.eq
    rw [call_wc t_i_Checksum]
    simp +contextual only [a_i_Checksum, c_i_Checksum, bs_size, List.size_toArray, h4', gt_iff_lt, decide_false, Wp_some, Wp_none, Wp_ite, Wc_some, Wc_none, Wc_ite, Wp_thenRun, seqQ_normal, seqQ_exit, seqQ_ret, Wp_inBlock, blkQ_normal, blkQ_ret, blkQ_same, blkQ_exit, Wp_opThen, opQ_at, Wp_guardP, retQ_normal, retQ_ret, loopQ_normal, loopQ_exit, loopQ_ret, go_sem, entry, joinEsc, if_pos, reduceIte, Nat.reduceAdd, Nat.reduceLeDiff, Nat.reduceLT, Nat.reduceEqDiff]
    refine Wp_loop (fun k st => ∃ (i : Nat) (y1 y2 y4 y5 y8 : AV), k + i = l.length ∧ st = ⟨[sV l, y1, y2, .int .i64 ((l.take i).foldl sumStep 7 : Nat), y4, y5, .int .i64 l.length, .int .i64 i, y8], ⟨H, none⟩⟩) ?_ l.length _ ⟨0, _, _, _, _, _, rfl, rfl⟩
    rintro k _ ⟨i, y1, y2, y4, y5, y8, hk, rfl⟩
    by_cases hi : i < l.length
    · have hl : l[i]? = some l[i] := List.getElem?_eq_getElem hi
      have hst := sum_step l[i] (sumFold_lt (l.take i) 7 (by omega))
      rw [foldl_take sumStep 7 hl] at hst
      simp +contextual only [w_i_Checksum_1, hi, bs_get hl, hst, show ¬ ((999979 : Int) = 0) by omega, wrap_succ (show i < 9223372036854775807 by omega), decide_true, Wp_some, Wp_none, Wp_ite, Wc_some, Wc_none, Wc_ite, Wp_thenRun, seqQ_normal, seqQ_exit, seqQ_ret, Wp_inBlock, blkQ_normal, blkQ_ret, blkQ_same, blkQ_exit, Wp_opThen, opQ_at, Wp_guardP, retQ_normal, retQ_ret, loopQ_normal, loopQ_exit, loopQ_ret, go_sem, entry, joinEsc, if_pos, reduceIte, Nat.reduceAdd, Nat.reduceLeDiff, Nat.reduceLT, Nat.reduceEqDiff]
      exact ⟨k - 1, by omega, i + 1, _, _, _, _, _, by omega, rfl⟩
    · obtain rfl : i = l.length := by omega
      simp +contextual only [w_i_Checksum_1, hi, List.take_length, decide_false, Wp_some, Wp_none, Wp_ite, Wc_some, Wc_none, Wc_ite, Wp_thenRun, seqQ_normal, seqQ_exit, seqQ_ret, Wp_inBlock, blkQ_normal, blkQ_ret, blkQ_same, blkQ_exit, Wp_opThen, opQ_at, Wp_guardP, retQ_normal, retQ_ret, loopQ_normal, loopQ_exit, loopQ_ret, go_sem, entry, joinEsc, if_pos, reduceIte, Nat.reduceAdd, Nat.reduceLeDiff, Nat.reduceLT, Nat.reduceEqDiff]
      trivial
  · have h4' : (4000 : Int) < (l.length : Int) := by omega
    rw [if_neg h4, call_eq t_i_Checksum]
    simp +contextual only [a_i_Checksum, c_i_Checksum, bs_size, List.size_toArray, h4', gt_iff_lt, decide_true, go_sem, entry, joinEsc, if_pos, reduceIte, Nat.reduceAdd, Nat.reduceLeDiff, Nat.reduceLT, Nat.reduceEqDiff]

theorem e_s_l1Sum (l : By) (hn : l.length ≤ 1073741824) : call T pr f_s_l1Sum [sV l] ⟨H, e⟩ = some (.int .i64 (sumL l), ⟨H, e⟩) := by
  apply Wc.eq
  rw [call_wc t_s_l1Sum]
  simp +contextual only [a_s_l1Sum, c_s_l1Sum, Wp_some, Wp_none, Wp_ite, Wc_some, Wc_none, Wc_ite, Wp_thenRun, seqQ_normal, seqQ_exit, seqQ_ret, Wp_inBlock, blkQ_normal, blkQ_ret, blkQ_same, blkQ_exit, Wp_opThen, opQ_at, Wp_guardP, retQ_normal, retQ_ret, loopQ_normal, loopQ_exit, loopQ_ret, go_sem, entry, joinEsc, if_pos, reduceIte, Nat.reduceAdd, Nat.reduceLeDiff, Nat.reduceLT, Nat.reduceEqDiff]
  refine Wp_loop (fun k st => ∃ (i : Nat) (y1 y4 : AV), k + i = l.length ∧ st = ⟨[sV l, y1, .int .i64 ((l.take i).foldl sumStep 7 : Nat), .int .i64 i, y4], ⟨H, none⟩⟩) ?_ l.length _ ⟨0, _, _, rfl, rfl⟩
  rintro k _ ⟨i, y1, y4, hk, rfl⟩
  by_cases hi : i < l.length
  · have hl : l[i]? = some l[i] := List.getElem?_eq_getElem hi
    have hst := sum_step l[i] (sumFold_lt (l.take i) 7 (by omega))
    rw [foldl_take sumStep 7 hl] at hst
    simp +contextual only [w_s_l1Sum_1, hi, bs_size, List.size_toArray, bs_get hl, hst, show ¬ ((999979 : Int) = 0) by omega, wrap_succ (show i < 9223372036854775807 by omega), decide_true, Wp_some, Wp_none, Wp_ite, Wc_some, Wc_none, Wc_ite, Wp_thenRun, seqQ_normal, seqQ_exit, seqQ_ret, Wp_inBlock, blkQ_normal, blkQ_ret, blkQ_same, blkQ_exit, Wp_opThen, opQ_at, Wp_guardP, retQ_normal, retQ_ret, loopQ_normal, loopQ_exit, loopQ_ret, go_sem, entry, joinEsc, if_pos, reduceIte, Nat.reduceAdd, Nat.reduceLeDiff, Nat.reduceLT, Nat.reduceEqDiff]
    exact ⟨k - 1, by omega, i + 1, _, _, by omega, rfl⟩
  · obtain rfl : i = l.length := by omega
    simp +contextual only [w_s_l1Sum_1, hi, bs_size, List.size_toArray, List.take_length, decide_false, Wp_some, Wp_none, Wp_ite, Wc_some, Wc_none, Wc_ite, Wp_thenRun, seqQ_normal, seqQ_exit, seqQ_ret, Wp_inBlock, blkQ_normal, blkQ_ret, blkQ_same, blkQ_exit, Wp_opThen, opQ_at, Wp_guardP, retQ_normal, retQ_ret, loopQ_normal, loopQ_exit, loopQ_ret, go_sem, entry, joinEsc, if_pos, reduceIte, Nat.reduceAdd, Nat.reduceLeDiff, Nat.reduceLT, Nat.reduceEqDiff]
    trivial

/-- a text with its checksum; the line of a record -/
def sealL (l : By) : By := l ++ [35] ++ Lib.itoa (sumL l)

theorem itoa_len {n : Int} (h1 : -9223372036854775807 ≤ n) (h2 : n ≤ 9223372036854775807) : (Lib.itoa n).length ≤ 21 := by
  unfold Lib.itoa
  split
  · have := decDigits_le n.natAbs (by omega)
    rw [List.length_cons]; omega
  · have := decDigits_le n.toNat (by omega)
    omega

theorem decDigits_six (u : Nat) (h : u < 1000000) : (Lib.decDigits u).length ≤ 6 := by
  have : ∀ (k u : Nat), u < 10 ^ k → (Lib.decDigits u).length ≤ max k 1 := by
    intro k
    induction k with
    | zero => intro u hu; have : u = 0 := by omega
              subst this; rw [Lib.decDigits]; simp
    | succ k ih =>
      intro u hu
      rw [Lib.decDigits]
      split
      · simp
      · have := ih (u / 10) (by rw [Nat.pow_succ] at hu; omega)
        rw [List.length_append, List.length_singleton]
        have h1 : 1 ≤ k := by
          rcases Nat.eq_zero_or_pos k with h0 | h0
          · subst h0; omega
          · exact h0
        omega
  have := this 6 u (by omega)
  omega

theorem itoa_sum_len (l : By) : (Lib.itoa (sumL l)).length ≤ 6 := by
  have := sumL_lt l
  unfold Lib.itoa
  rw [if_neg (by omega), Int.toNat_natCast]
  exact decDigits_six _ (by omega)

theorem sealL_len (l : By) : (sealL l).length ≤ l.length + 7 := by
  have := itoa_sum_len l
  unfold sealL
  simp only [List.length_append, List.length_singleton]
  omega

theorem e_s_l1Seal (l : By) (hn : l.length ≤ 1073741824) : call T pr f_s_l1Seal [sV l] ⟨H, e⟩ = some (sV (sealL l), ⟨H, e⟩) := by
  have hs := fun L => e_s_l1Sum (pr := pr) (H := L) (e := none) l hn
  have hlt := sumL_lt l
  have hnum := fun L => e_s_l1Num (pr := pr) (H := L) (e := none) (sumL l) (by omega) (by omega)
  have hl := itoa_sum_len l
  have h1 : l.length + 1 ≤ 140737488355328 := by omega
  have h2 : l.length + 1 + (Lib.itoa (sumL l)).length ≤ 140737488355328 := by omega
  rw [call_eq t_s_l1Seal]
  unfold sealL
  generalize sumL l = S at hs hnum hl h2 ⊢
  simp +contextual only [a_s_l1Seal, c_s_l1Seal, hs, hnum, binop_sadd, h1, h2, List.length_singleton, go_sem, entry, joinEsc, if_pos, reduceIte, Nat.reduceAdd, Nat.reduceLeDiff, Nat.reduceLT, Nat.reduceEqDiff]

/-- does a text have this byte? -/
theorem hasB_bs (l : By) (c : UInt8) : hasB (bs l) (c.toNat : Int) = l.contains c := by
  unfold hasB
  rw [bs_toList]
  induction l with
  | nil => rfl
  | cons b l ih =>
    rw [List.any_cons, List.contains_cons, ih]
    congr 1
    rw [Bool.eq_iff_iff]
    simp only [decide_eq_true_eq, beq_iff_eq]
    constructor
    · intro h; exact (UInt8.toNat_inj.mp (by omega)).symm
    · rintro rfl; rfl

def ackOk (l : By) : Bool := decide (l.length ≤ 4000) && (!l.contains 35 && decide ((sealL l).length ≤ 4000))

theorem e_i_AppendChecksum (hi : HasItoa pr) (hc : HasContains pr) (l : By) (hn : l.length ≤ 1073741824) : call T pr f_i_AppendChecksum [sV l] ⟨H, e⟩ = some (if ackOk l = true then .tup [sV (sealL l), .bool true] else .tup [sV [], .bool false], ⟨H, e⟩) := by
  have hcs := fun L => e_i_Checksum (pr := pr) (H := L) (e := none) l hn
  have hcon : ∀ L, call T pr f_strings_Contains [sV l, sV [35]] ⟨L, none⟩ = some (.bool (l.contains 35), ⟨L, none⟩) := fun L => by
    rw [hc (bs l) 35 ⟨L, none⟩, index_has, ← hasB_bs l 35]; rfl
  have hlt := sumL_lt l
  have h1 : l.length + 1 ≤ 140737488355328 := by omega
  rw [call_eq t_i_AppendChecksum]
  unfold ackOk
  by_cases h4 : l.length ≤ 4000
  · rw [if_pos h4] at hcs
    have hit := fun L => hi (sumL l) ⟨L, none⟩ (by omega) (by omega)
    have hl := itoa_sum_len l
    have h2 : l.length + 1 + (Lib.itoa (sumL l)).length ≤ 140737488355328 := by omega
    have hsl : sealL l = l ++ (35 :: Lib.itoa (sumL l)) := by unfold sealL; simp
    have hcmp : decide ((sealL l).length ≤ 4000) = !decide ((4000 : Int) < ((l ++ (35 :: Lib.itoa (sumL l))).length : Int)) := by
      rw [hsl, ← decide_not]
      exact decide_eq_decide.mpr (by omega)
    cases hB : l.contains 35 with
    | true =>
      rw [hB] at hcon
      simp +contextual only [a_i_AppendChecksum, c_i_AppendChecksum, hcs, hit, hcon, h4, binop_sadd, h1, h2, List.length_singleton, decide_true, Bool.not_true, Bool.false_and, Bool.and_false, go_sem, entry, joinEsc, if_pos, reduceIte, Nat.reduceAdd, Nat.reduceLeDiff, Nat.reduceLT, Nat.reduceEqDiff]
    | false =>
      rw [hB] at hcon
      rw [hcmp, hsl]
      generalize Lib.itoa (sumL l) = d at hit h2 ⊢
      simp only [List.length_append, List.length_cons] at *
      cases hS : decide ((4000 : Int) < ((l.length + (d.length + 1) : Nat) : Int)) with
      | true => simp +contextual only [a_i_AppendChecksum, c_i_AppendChecksum, hcs, hit, hcon, h4, binop_sadd, h1, h2, hS, gt_iff_lt, bs_size, List.size_toArray, List.length_singleton, decide_true, Bool.not_true, Bool.not_false, Bool.true_and, Bool.false_and, Bool.and_false, go_sem, entry, joinEsc, if_pos, reduceIte, Nat.reduceAdd, Nat.reduceLeDiff, Nat.reduceLT, Nat.reduceEqDiff]
      | false => simp +contextual only [a_i_AppendChecksum, c_i_AppendChecksum, hcs, hit, hcon, h4, binop_sadd, h1, h2, hS, gt_iff_lt, bs_size, List.size_toArray, List.length_singleton, decide_true, Bool.not_true, Bool.not_false, Bool.true_and, Bool.false_and, Bool.and_false, go_sem, entry, joinEsc, if_pos, reduceIte, Nat.reduceAdd, Nat.reduceLeDiff, Nat.reduceLT, Nat.reduceEqDiff]
  · rw [if_neg h4] at hcs
    have hit := fun L => hi 0 ⟨L, none⟩ (by omega) (by omega)
    have hl := itoa_len (n := 0) (by omega) (by omega)
    have h2 : l.length + 1 + (Lib.itoa 0).length ≤ 140737488355328 := by omega
    simp +contextual only [a_i_AppendChecksum, c_i_AppendChecksum, hcs, hit, h4, binop_sadd, h1, h2, List.length_singleton, decide_true, decide_false, Bool.false_and, Bool.false_eq_true, if_false, go_sem, entry, joinEsc, if_pos, reduceIte, Nat.reduceAdd, Nat.reduceLeDiff, Nat.reduceLT, Nat.reduceEqDiff]

end Go.Proofs.YtdohjcodjjogbaaDoor.Slim

/- The encoding of a record, and its law. -/
namespace Go.Proofs.YtdohjcodjjogbaaDoor.Slim

open Go

set_option linter.unusedSimpArgs false

set_option linter.unusedVariables false

variable {pr : Prims} {H : List Blk} {e : Option Nat}

theorem dec_digit : ∀ (u : Nat) (b : UInt8), b ∈ Lib.decDigits u → 48 ≤ b.toNat ∧ b.toNat ≤ 57 := by
  have one : ∀ i : Nat, i < 10 → 48 ≤ (UInt8.ofNat (48 + i)).toNat ∧ (UInt8.ofNat (48 + i)).toNat ≤ 57 := by decide +kernel
  intro u
  induction u using Nat.strongRecOn with
  | _ u ih =>
    intro b hb
    rw [Lib.decDigits] at hb
    split at hb
    · rename_i h
      rw [List.mem_singleton] at hb
      subst hb
      exact one u h
    · rename_i h
      rcases List.mem_append.mp hb with hb | hb
      · exact ih (u / 10) (by omega) b hb
      · rw [List.mem_singleton] at hb
        subst hb
        exact one _ (Nat.mod_lt _ (by omega))

theorem itoa_digit {n : Int} (hn : 0 ≤ n) {b : UInt8} (hb : b ∈ Lib.itoa n) : 48 ≤ b.toNat ∧ b.toNat ≤ 57 := by
  unfold Lib.itoa at hb
  rw [if_neg (by omega)] at hb
  exact dec_digit _ _ hb

theorem not_contains {l : By} {c : UInt8} (h : ∀ b ∈ l, b ≠ c) : l.contains c = false := by
  cases hc : l.contains c with
  | false => rfl
  | true => exact absurd rfl (h c (by simpa using hc))

theorem itoa_no {n : Int} (hn : 0 ≤ n) {c : UInt8} (hc : c.toNat < 48 ∨ 57 < c.toNat) : (Lib.itoa n).contains c = false :=
  not_contains fun b hb h => by
    have := itoa_digit hn hb
    rw [h] at this
    omega

theorem text_no35 {l : By} (h : textOk (bs l) = true) : l.contains 35 = false :=
  not_contains fun b hb h35 => by
    unfold textOk at h
    rw [bs_toList, List.all_eq_true] at h
    have := h b hb
    subst h35
    simp [okB] at this

/-- a valid record -/
def rcOk (c r : By) : Bool := recOk (bs c) (bs r)

theorem rc_facts {c r : By} (h : rcOk c r = true) : 1 ≤ c.length ∧ c.length ≤ 160 ∧ r.length ≤ 250 ∧ textOk (bs c) = true ∧ textOk (bs r) = true ∧ c.contains 64 = false := by
  unfold rcOk recOk at h
  simp only [Bool.and_eq_true, decide_eq_true_eq, bs_size, List.size_toArray, Bool.not_eq_true'] at h
  obtain ⟨⟨⟨h1, h2⟩, h3⟩, h4, h5, h6⟩ := h
  refine ⟨by omega, by omega, by omega, h4, h5, ?_⟩
  have := hasB_bs c 64
  rw [← this]
  exact h6

/-- what stands in a line ahead of the checksum; the line with its end -/
def bodyL (k : Int) (c r : By) : By := Lib.itoa k ++ [32] ++ c ++ [64] ++ r

def lineL (k : Int) (c r : By) : By := sealL (bodyL k c r) ++ [10]

theorem body_len {k : Int} {c r : By} (h0 : 0 ≤ k) (h1 : k ≤ 59) : (bodyL k c r).length ≤ c.length + r.length + 4 := by
  have : (Lib.itoa k).length ≤ 2 := by
    unfold Lib.itoa
    rw [if_neg (by omega)]
    by_cases h : k.toNat < 10
    · rw [Lib.decDigits_one h]; simp
    · rw [Lib.decDigits_two h (by omega)]; simp
  unfold bodyL
  simp only [List.length_append, List.length_singleton]
  omega

theorem body_no35 {k : Int} {c r : By} (h0 : 0 ≤ k) (h : rcOk c r = true) : (bodyL k c r).contains 35 = false := by
  obtain ⟨_, _, _, h4, h5, _⟩ := rc_facts h
  unfold bodyL
  simp only [List.contains_eq_mem, List.mem_append, List.mem_singleton] at *
  have a1 := itoa_no (c := 35) h0 (by decide)
  have a2 := text_no35 h4
  have a3 := text_no35 h5
  simp only [List.contains_eq_mem, decide_eq_false_iff_not] at a1 a2 a3 ⊢
  rintro ((((h | h) | h) | h) | h)
  · exact a1 h
  · cases h
  · exact a2 h
  · cases h
  · exact a3 h

theorem body_ack {k : Int} {c r : By} (h0 : 0 ≤ k) (h1 : k ≤ 59) (h : rcOk c r = true) : ackOk (bodyL k c r) = true := by
  obtain ⟨_, g2, g3, _, _, _⟩ := rc_facts h
  have hb := body_len (c := c) (r := r) h0 h1
  have hs := sealL_len (bodyL k c r)
  unfold ackOk
  rw [body_no35 h0 h, decide_eq_true (by omega), decide_eq_true (by omega)]
  rfl

theorem e_s_l12Line {k : Int} {c r : By} (h0 : 0 ≤ k) (h1 : k ≤ 60) (hc : c.length ≤ 1048576) (hr : r.length ≤ 1048576) : call T pr f_s_l12Line [.int .i64 k, rcV (bs c) (bs r)] ⟨H, e⟩ = some (sV (lineL k c r), ⟨H, e⟩) := by
  have hnum := fun L => e_s_l1Num (pr := pr) (H := L) (e := none) k (by omega) (by omega)
  have hil := itoa_len (n := k) (by omega) (by omega)
  have hbl : (bodyL k c r).length = (Lib.itoa k).length + 1 + c.length + 1 + r.length := by unfold bodyL; simp; omega
  have hseal := fun L => e_s_l1Seal (pr := pr) (H := L) (e := none) (bodyL k c r) (by omega)
  have hsl := sealL_len (bodyL k c r)
  have g1 : (Lib.itoa k).length + 1 ≤ 140737488355328 := by omega
  have g2 : (Lib.itoa k).length + 1 + c.length ≤ 140737488355328 := by omega
  have g3 : (Lib.itoa k).length + 1 + c.length + 1 ≤ 140737488355328 := by omega
  have g4 : (Lib.itoa k).length + 1 + c.length + 1 + r.length ≤ 140737488355328 := by omega
  have g5 : (sealL (bodyL k c r)).length + 1 ≤ 140737488355328 := by omega
  have hbd : bodyL k c r = Lib.itoa k ++ (32 :: (c ++ (64 :: r))) := by unfold bodyL; simp
  rw [hbd] at hseal g5
  rw [call_eq t_s_l12Line]
  unfold lineL
  rw [hbd]
  generalize Lib.itoa k = d at *
  simp only [Nat.add_assoc, Nat.reduceAdd] at g1 g2 g3 g4 g5
  simp +contextual only [a_s_l12Line, c_s_l12Line, hnum, hseal, binop_sadd, g1, g2, g3, g4, g5, List.length_append, List.length_cons, List.length_nil, Nat.add_assoc, bs_size, List.size_toArray, go_sem, entry, joinEsc, if_pos, reduceIte, Nat.reduceAdd, Nat.reduceLeDiff, Nat.reduceLT, Nat.reduceEqDiff]
  rw [if_pos (by omega), if_pos (by omega)]

def encOk (k : Int) (c r : By) : Bool := (decide (0 ≤ k) && decide (k ≤ 59)) && rcOk c r

theorem e_i_EncodeRecord (hi : HasItoa pr) (hp : HasContains pr) {c r : By} (hc : c.length ≤ 1048576) (hr : r.length ≤ 1048576) (k : Int) : call T pr f_i_EncodeRecord [.int .i64 k, rcV (bs c) (bs r)] ⟨H, e⟩ =
    some (if encOk k c r = true then .tup [sV (lineL k c r), .bool true] else .tup [sV [], .bool false], ⟨H, e⟩) := by
  have hv := fun L => e_i_IsValidRecord (pr := pr) (H := L) (e := none) (s := bs c) (t := bs r) hp (by rw [bs_toList]; omega) (by rw [bs_toList]; omega)
  rw [call_eq t_i_EncodeRecord]
  unfold encOk rcOk
  cases hk : (decide (0 ≤ k) && decide (k ≤ 59)) with
  | false => simp +contextual only [a_i_EncodeRecord, c_i_EncodeRecord, e_i_within, hk, Bool.false_and, Bool.false_eq_true, if_false, go_sem, entry, joinEsc, if_pos, reduceIte, Nat.reduceAdd, Nat.reduceLeDiff, Nat.reduceLT, Nat.reduceEqDiff]
  | true =>
    simp only [Bool.and_eq_true, decide_eq_true_eq] at hk
    have hk' : (decide (0 ≤ k) && decide (k ≤ 59)) = true := by simp [hk]
    cases hr' : recOk (bs c) (bs r) with
    | false =>
      rw [hr'] at hv
      simp +contextual only [a_i_EncodeRecord, c_i_EncodeRecord, e_i_within, hk', hv, Bool.and_false, Bool.false_eq_true, if_false, go_sem, entry, joinEsc, if_pos, reduceIte, Nat.reduceAdd, Nat.reduceLeDiff, Nat.reduceLT, Nat.reduceEqDiff]
    | true =>
      rw [hr'] at hv
      have hit := fun L => hi k ⟨L, none⟩ (by omega) (by omega)
      have hbl : (bodyL k c r).length = (Lib.itoa k).length + 1 + c.length + 1 + r.length := by unfold bodyL; simp; omega
      have hil := itoa_len (n := k) (by omega) (by omega)
      have hack := fun L => e_i_AppendChecksum (pr := pr) (H := L) (e := none) hi hp (bodyL k c r) (by omega)
      rw [if_pos (body_ack hk.1 hk.2 hr')] at hack
      have hsl := sealL_len (bodyL k c r)
      have g1 : (Lib.itoa k).length + 1 ≤ 140737488355328 := by omega
      have g2 : (Lib.itoa k).length + 1 + c.length ≤ 140737488355328 := by omega
      have g3 : (Lib.itoa k).length + 1 + c.length + 1 ≤ 140737488355328 := by omega
      have g4 : (Lib.itoa k).length + 1 + c.length + 1 + r.length ≤ 140737488355328 := by omega
      have g5 : (sealL (bodyL k c r)).length + 1 ≤ 140737488355328 := by omega
      have hbd : bodyL k c r = Lib.itoa k ++ (32 :: (c ++ (64 :: r))) := by unfold bodyL; simp
      rw [hbd] at hack g5
      unfold lineL
      rw [hbd]
      generalize Lib.itoa k = d at *
      simp only [Nat.add_assoc, Nat.reduceAdd] at g1 g2 g3 g4 g5
      simp +contextual only [a_i_EncodeRecord, c_i_EncodeRecord, e_i_within, hk', hv, hit, hack, binop_sadd, g1, g2, g3, g4, g5, List.length_append, List.length_cons, List.length_nil, Nat.add_assoc, Bool.true_and, bs_size, List.size_toArray, go_sem, entry, joinEsc, if_pos, reduceIte, Nat.reduceAdd, Nat.reduceLeDiff, Nat.reduceLT, Nat.reduceEqDiff]
      rw [if_pos (by omega), if_pos (by omega)]

theorem e_s_l12Record {s t : ByteArray} (hs : s.data.toList.length ≤ 9223372036854775806) (ht : t.data.toList.length ≤ 9223372036854775806) : call T pr f_s_l12Record [rcV s t] ⟨H, e⟩ = some (.bool (recOk s t), ⟨H, e⟩) := by
  rw [call_eq t_s_l12Record]
  unfold recOk
  have hn := str_none s
  cases h1 : decide ((1 : Int) ≤ (s.size : Int)) with
  | false =>
    rw [h1] at hn
    have hn' : decide (s = ⟨#[]⟩) = true := by simpa using hn
    simp +contextual only [a_s_l12Record, c_s_l12Record, hn', h1, go_sem, entry, joinEsc, if_pos, reduceIte, Nat.reduceAdd, Nat.reduceLeDiff, Nat.reduceLT, Nat.reduceEqDiff]
  | true =>
    rw [h1] at hn
    have hn' : decide (s = ⟨#[]⟩) = false := by simpa using hn
    cases h3 : textOk s with
    | false => simp +contextual only [a_s_l12Record, c_s_l12Record, hn', h1, e_s_l12Bytes hs, h3, Bool.and_false, go_sem, entry, joinEsc, if_pos, reduceIte, Nat.reduceAdd, Nat.reduceLeDiff, Nat.reduceLT, Nat.reduceEqDiff]
    | true =>
      cases h5 : decide ((s.size : Int) ≤ 160) with
      | false => simp +contextual only [a_s_l12Record, c_s_l12Record, hn', h1, e_s_l12Bytes hs, h3, h5, Bool.and_false, go_sem, entry, joinEsc, if_pos, reduceIte, Nat.reduceAdd, Nat.reduceLeDiff, Nat.reduceLT, Nat.reduceEqDiff]
      | true =>
        cases h6 : hasB s 64 with
        | true => simp +contextual only [a_s_l12Record, c_s_l12Record, hn', h1, e_s_l12Bytes hs, e_s_l1Stands hs, h3, h5, h6, Bool.and_false, go_sem, entry, joinEsc, if_pos, reduceIte, Nat.reduceAdd, Nat.reduceLeDiff, Nat.reduceLT, Nat.reduceEqDiff]
        | false =>
          cases h4 : textOk t <;> cases h2 : decide ((t.size : Int) ≤ 250) <;> simp +contextual only [a_s_l12Record, c_s_l12Record, hn', h1, e_s_l12Bytes hs, e_s_l12Bytes ht, e_s_l1Stands hs, h2, h3, h4, h5, h6, Bool.and_false, go_sem, entry, joinEsc, if_pos, reduceIte, Nat.reduceAdd, Nat.reduceLeDiff, Nat.reduceLT, Nat.reduceEqDiff]

theorem e_s_EncodeRecord {c r : By} (hc : c.length ≤ 1048576) (hr : r.length ≤ 1048576) (k : Int) : call T pr f_s_EncodeRecord [.int .i64 k, rcV (bs c) (bs r)] ⟨H, e⟩ =
    some (if encOk k c r = true then .tup [sV (lineL k c r), .bool true] else .tup [sV [], .bool false], ⟨H, e⟩) := by
  have hv := fun L => e_s_l12Record (pr := pr) (H := L) (e := none) (s := bs c) (t := bs r) (by rw [bs_toList]; omega) (by rw [bs_toList]; omega)
  rw [call_eq t_s_EncodeRecord]
  unfold encOk rcOk
  cases hk : (decide (0 ≤ k) && decide (k ≤ 59)) with
  | false => simp +contextual only [a_s_EncodeRecord, c_s_EncodeRecord, e_s_l1In, hk, Bool.false_and, Bool.false_eq_true, if_false, go_sem, entry, joinEsc, if_pos, reduceIte, Nat.reduceAdd, Nat.reduceLeDiff, Nat.reduceLT, Nat.reduceEqDiff]
  | true =>
    simp only [Bool.and_eq_true, decide_eq_true_eq] at hk
    have hk' : (decide (0 ≤ k) && decide (k ≤ 59)) = true := by simp [hk]
    have hln := fun L => e_s_l12Line (pr := pr) (H := L) (e := none) (k := k) (c := c) (r := r) hk.1 (by omega) hc hr
    cases hr' : recOk (bs c) (bs r) <;> rw [hr'] at hv <;> simp +contextual only [a_s_EncodeRecord, c_s_EncodeRecord, e_s_l1In, hk', hv, hln, Bool.and_false, Bool.true_and, Bool.false_eq_true, if_false, go_sem, entry, joinEsc, if_pos, reduceIte, Nat.reduceAdd, Nat.reduceLeDiff, Nat.reduceLT, Nat.reduceEqDiff]

theorem law_EncodeRecord (hi : HasItoa pr) (hp : HasContains pr) {s t : ByteArray} (hs : s.size ≤ maxLen) (ht : t.size ≤ maxLen) (k : Int) : ∃ m', call T pr f_l_FnExactEncodeRecord [.int .i64 k, rcV s t] ⟨H, none⟩ = some (.bool true, m') := by
  refine ⟨⟨H, none⟩, ?_⟩
  have hsz := fun L e' => e_l_szLogRecord (pr := pr) (H := L) (e := e') hs ht
  rw [call_eq t_l_FnExactEncodeRecord]
  by_cases hn : s.size + t.size ≤ 1048576
  · have hneg : ¬ (1048576 - ((s.size + t.size : Nat) : Int) < 0) := by omega
    obtain ⟨c, rfl⟩ := bs_of s
    obtain ⟨r, rfl⟩ := bs_of t
    have hc : c.length ≤ 1048576 := by have : (bs c).size = c.length := rfl; omega
    have hr : r.length ≤ 1048576 := by have : (bs r).size = r.length := rfl; omega
    have hei := fun L => e_i_EncodeRecord (pr := pr) (H := L) (e := none) hi hp hc hr k
    have hes := fun L => e_s_EncodeRecord (pr := pr) (H := L) (e := none) hc hr k
    cases ho : encOk k c r with
    | false =>
      simp only [ho, Bool.false_eq_true, if_false] at hei hes
      simp +contextual only [a_l_FnExactEncodeRecord, c_l_FnExactEncodeRecord, hsz, hn, hneg, e_l_toLogRecord, hei, hes, decide_false, decide_true, beq_self_eq_true, go_sem, entry, joinEsc, if_pos, reduceIte, Nat.reduceAdd, Nat.reduceLeDiff, Nat.reduceLT, Nat.reduceEqDiff]
    | true =>
      simp only [ho, if_true] at hei hes
      simp +contextual only [a_l_FnExactEncodeRecord, c_l_FnExactEncodeRecord, hsz, hn, hneg, e_l_toLogRecord, hei, hes, decide_false, decide_true, beq_self_eq_true, go_sem, entry, joinEsc, if_pos, reduceIte, Nat.reduceAdd, Nat.reduceLeDiff, Nat.reduceLT, Nat.reduceEqDiff]
  · simp +contextual only [a_l_FnExactEncodeRecord, c_l_FnExactEncodeRecord, hsz, hn, decide_true, show ((-1 : Int) < 0) by omega, go_sem, entry, joinEsc, if_pos, reduceIte, Nat.reduceAdd, Nat.reduceLeDiff, Nat.reduceLT, Nat.reduceEqDiff]

end Go.Proofs.YtdohjcodjjogbaaDoor.Slim
