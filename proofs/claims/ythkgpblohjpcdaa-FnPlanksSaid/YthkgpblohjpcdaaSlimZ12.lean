/- The drawing of arguments from bytes: the cursor. -/
import Derived.Test.YthkgpblohjpcdaaSlimZ11
/- The drawing of arguments from bytes: the cursor. -/
namespace Go.Proofs.Ythkgpblohjpcdaa.Slim

open Go

set_option linter.unusedSimpArgs false

set_option linter.unusedVariables false

variable {pr : Prims} {H : List Blk} {e : Option Nat}

section

variable {C : FuncId → List AV → Mem → Option (AV × Mem)} {g : X → AV} {m : Mem}

def nilCheckV (v : AV) : Option AV := match v with
  | .ptr (some p) => some (.ptr (some p))
  | .fn f a b => some (.fn f a b)
  | _ => none

theorem aop_nilCheck (x : X) : aop C g m (.nilCheck x) = valOf m (nilCheckV (g x)) := by
  rw [aop_of_light rfl]
  simp only [light, nilCheckV]
  generalize g x = v
  cases v with
  | ptr p => cases p <;> rfl
  | _ => rfl

theorem nilCheckV_ptr (p : Nat × Nat) : nilCheckV (.ptr (some p)) = some (.ptr (some p)) := rfl

end

/-- a slice of bytes, in memory -/
def CodeAt (L : List Blk) (av : AV) : Prop :=
  ∃ zs : List Int, zs.length ≤ 70000 ∧ (∀ z ∈ zs, 0 ≤ z ∧ z ≤ 255) ∧ ((av = .slice none 0 0 none ∧ zs = []) ∨ ∃ b c, av = .slice (some (b, 0)) 1 zs.length c ∧ cellsAt L b = some (zs.map (AV.int .u8)))

theorem CodeAt.more {L : List Blk} {av : AV} (h : CodeAt L av) (G : List Blk) : CodeAt (L ++ G) av := by
  obtain ⟨zs, h1, h2, h3 | ⟨b, c, h3, h4⟩⟩ := h
  · exact ⟨zs, h1, h2, .inl h3⟩
  · exact ⟨zs, h1, h2, .inr ⟨b, c, h3, cells_mono h4 G⟩⟩

abbrev curB (av : AV) (p h : Int) : Blk := .cells [av, .int .i64 p, .int .u64 h] true

/-- a cursor -/
def Cu (L : List Blk) (q : Nat) (av : AV) (p : Int) : Prop := (∃ h, L[q]? = some (curB av p h)) ∧ CodeAt L av ∧ 0 ≤ p

theorem Cu.lt {L : List Blk} {q : Nat} {av : AV} {p : Int} (h : Cu L q av p) : q < L.length := by
  obtain ⟨⟨_, h⟩, _⟩ := h
  exact (List.getElem?_eq_some_iff.mp h).1

theorem Cu.more {L : List Blk} {q : Nat} {av : AV} {p : Int} (h : Cu L q av p) (G : List Blk) : Cu (L ++ G) q av p := by
  have hl := h.lt
  obtain ⟨⟨z, h1⟩, h2, h3⟩ := h
  exact ⟨⟨z, by rw [List.getElem?_append_left hl, h1]⟩, h2.more G, h3⟩

theorem Cu.step {L : List Blk} {q : Nat} {av : AV} {p : Int} (h : Cu L q av p) {y : Int} (hy : 0 ≤ y) (z : Int) : Cu (L.set q (curB av y z)) q av y := by
  have hl := h.lt
  obtain ⟨⟨w, h1⟩, ⟨zs, g1, g2, g3⟩, h3⟩ := h
  refine ⟨⟨z, List.getElem?_set_self hl⟩, ⟨zs, g1, g2, ?_⟩, hy⟩
  rcases g3 with g3 | ⟨b, c, e2, e3⟩
  · exact .inl g3
  refine .inr ⟨b, c, e2, ?_⟩
  have hbq : b ≠ q := by
    rintro rfl
    unfold cellsAt at e3
    rw [h1] at e3
    simp at e3
    match zs with
    | [] => simp at e3
    | [_] => simp at e3
    | _ :: _ :: _ => simp at e3
  unfold cellsAt at e3 ⊢
  rw [List.getElem?_set_ne (fun h => hbq h.symm)]
  exact e3

theorem set_app {L : List Blk} {q : Nat} (h : q < L.length) (x : Blk) (G : List Blk) : (L ++ G).set q x = L.set q x ++ G := List.set_append_left _ _ h

theorem finish_one_setG (v : AV) (e0 e1 : Option Nat) (b : Nat) (x : Blk) (G : List Blk) : finish 1 H.length e0 v ⟨H.set b x ++ G, e1⟩ = if v.under H.length = true ∧ clean H.length e1 = true then some (v, ⟨H.set b x, e0⟩) else none := by
  unfold finish
  have : (H.set b x ++ G).take H.length = H.set b x := by
    rw [List.take_append_of_le_length (by simp), List.take_of_length_le (by simp)]
  simp [this]

theorem finish_one_set0 (v : AV) (e0 e1 : Option Nat) (b : Nat) (x : Blk) : finish 1 H.length e0 v ⟨H.set b x, e1⟩ = if v.under H.length = true ∧ clean H.length e1 = true then some (v, ⟨H.set b x, e0⟩) else none := by
  have := finish_one_setG (H := H) v e0 e1 b x []
  rwa [List.append_nil] at this

theorem cellsAt_s0 (q : Nat) (x : Blk) (l : List Blk) : cellsAt (H.set q x ++ l) H.length = cellsAt l 0 := by simp [cellsAt, List.getElem?_append_right]

theorem cellsAt_sk (q : Nat) (x : Blk) (l : List Blk) (k : Nat) : cellsAt (H.set q x ++ l) (H.length + k) = cellsAt l k := by simp [cellsAt, List.getElem?_append_right]

theorem blkAt_s0 (q : Nat) (x : Blk) (l : List Blk) : (H.set q x ++ l)[H.length]? = l[0]? := by simp [List.getElem?_append_right]

theorem blkAt_sk (q : Nat) (x : Blk) (l : List Blk) (k : Nat) : (H.set q x ++ l)[H.length + k]? = l[k]? := by simp [List.getElem?_append_right]

theorem set_s0 (q : Nat) (x : Blk) (l : List Blk) (b : Blk) : (H.set q x ++ l).set H.length b = H.set q x ++ l.set 0 b := by simp [List.set_append_right]

theorem set_sk (q : Nat) (x : Blk) (l : List Blk) (b : Blk) (k : Nat) : (H.set q x ++ l).set (H.length + k) b = H.set q x ++ l.set k b := by simp [List.set_append_right]

theorem set_sapp {q : Nat} (h : q < H.length) (x y : Blk) (l : List Blk) : (H.set q x ++ l).set q y = H.set q y ++ l := by
  rw [List.set_append_left _ _ (by simpa using h), List.set_set]

theorem Cu.new {G : List Blk} {k : Nat} {av : AV} {y z : Int} (hG : G[k]? = some (curB av y z)) (hc : CodeAt H av) (hy : 0 ≤ y) : Cu (H ++ G) (H.length + k) av y :=
  ⟨⟨z, by rw [List.getElem?_append_right (by omega), Nat.add_sub_cancel_left, hG]⟩, hc.more G, hy⟩

theorem Cu.cells {L : List Blk} {q : Nat} {av : AV} {p : Int} (h : Cu L q av p) : ∃ w, L[q]? = some (curB av p w) ∧ cellsAt L q = some [av, .int .i64 p, .int .u64 w] := by
  obtain ⟨⟨w, h1⟩, _⟩ := h
  exact ⟨w, h1, by unfold cellsAt; rw [h1]⟩

theorem cells_set {L : List Blk} {q : Nat} (h : q < L.length) (cs : List AV) (wr : Bool) : cellsAt (L.set q (.cells cs wr)) q = some cs := by
  unfold cellsAt
  rw [List.getElem?_set_self h]

theorem andI_255 (x : Int) : 0 ≤ andI .u64 x 255 ∧ andI .u64 x 255 ≤ 255 := by
  have h1 : (BitVec.ofInt 64 x &&& BitVec.ofInt 64 255).toNat ≤ 255 := by
    rw [BitVec.toNat_and]
    exact Nat.le_trans Nat.and_le_right (by decide)
  have h2 : andI .u64 x 255 = IntKind.u64.wrap ((BitVec.ofInt 64 x &&& BitVec.ofInt 64 255).toNat : Int) := rfl
  rw [h2]
  generalize (BitVec.ofInt 64 x &&& BitVec.ofInt 64 255).toNat = n at *
  have : IntKind.u64.wrap (n : Int) = n := by
    simp [IntKind.wrap, IntKind.bits, IntKind.signed]
    omega
  rw [this]
  omega

theorem wc_next {q : Nat} {av : AV} {p : Int} (h : Cu H q av p) (hp : p ≤ 1000000000000) : Wc (call T pr f_s_l1Cur_next [.ptr (some (q, 0))] ⟨H, e⟩) (fun v m => ∃ x y z : Int, v = .int .i64 x ∧ 0 ≤ x ∧ x ≤ 255 ∧ 0 ≤ y ∧ y ≤ p + 1 ∧ m = ⟨H.set q (curB av y z), e⟩) := by
  have hl := h.lt
  obtain ⟨w, h1, hcell⟩ := h.cells
  obtain ⟨_, ⟨zs, g2, g3, g4⟩, h3⟩ := h
  obtain ⟨p', sz, c, rfl⟩ : ∃ p' sz c, av = .slice p' sz zs.length c := by
    rcases g4 with ⟨rfl, rfl⟩ | ⟨b, c, rfl, _⟩
    · exact ⟨_, _, _, rfl⟩
    · exact ⟨_, _, _, rfl⟩
  obtain ⟨n, rfl⟩ : ∃ n : Nat, p = (n : Int) := ⟨p.toNat, by omega⟩
  have hw := wrap_succ (show n < 9223372036854775807 by omega)
  have hsg : ∀ (y : Blk), (H.set q y)[q]? = some y := fun y => List.getElem?_set_self hl
  have hcs := fun cs wr => cells_set (L := H) hl cs wr
  rw [call_wc t_s_l1Cur_next]
  by_cases hn : n < zs.length
  · have hne : zs ≠ [] := by intro h0; rw [h0] at hn; simp at hn
    obtain ⟨b, hq, hb⟩ : ∃ b, (p' = some (b, 0) ∧ sz = 1) ∧ cellsAt H b = some (zs.map (AV.int .u8)) := by
      rcases g4 with ⟨_, rfl⟩ | ⟨b, c', hq, hb⟩
      · exact absurd rfl hne
      · cases hq; exact ⟨b, ⟨rfl, rfl⟩, hb⟩
    obtain ⟨rfl, rfl⟩ := hq
    have hz := g3 zs[n] (List.getElem_mem _)
    have hpart : part false (zs.map (AV.int .u8)) n 1 = some (.int .u8 zs[n]) := by
      rw [part_false, List.getElem?_map, List.getElem?_eq_getElem hn]
      rfl
    have hcv : IntKind.i64.wrap zs[n] = zs[n] := wrap64 (by omega) (by omega)
    have hle : decide (((n + 1 : Nat) : Int) ≤ (zs.length : Int)) = true := decide_eq_true (by omega)
    have hle' : n + 1 ≤ zs.length := hn
    simp +contextual only [a_s_l1Cur_next, c_s_l1Cur_next, aop_nilCheck, nilCheckV_ptr, h1, hcell, hsg, hcs, hn, hb, hpart, hcv, hw, hle, hle', List.set_set, Nat.mul_one, decide_true, finish_one_set0, clean_none', Wp_some, Wp_none, Wp_ite, Wc_some, Wc_none, Wc_ite, Wp_thenRun, seqQ_normal, seqQ_exit, seqQ_ret, Wp_inBlock, blkQ_normal, blkQ_ret, blkQ_same, blkQ_exit, Wp_opThen, opQ_at, Wp_guardP, retQ_normal, retQ_ret, loopQ_normal, loopQ_exit, loopQ_ret, go_sem, entry, joinEsc, if_pos, reduceIte, Nat.reduceAdd, Nat.reduceLeDiff, Nat.reduceLT, Nat.reduceEqDiff]
    exact ⟨_, _, _, rfl, hz.1, hz.2, by omega, by omega, rfl⟩
  · have hle : decide (((n + 1 : Nat) : Int) ≤ (zs.length : Int)) = false := decide_eq_false (by omega)
    have hle' : ¬ n + 1 ≤ zs.length := by omega
    have hcv : ∀ x : Int, IntKind.i64.wrap (andI .u64 x 255) = andI .u64 x 255 := fun x => wrap64 (by have := andI_255 x; omega) (by have := andI_255 x; omega)
    simp +contextual only [a_s_l1Cur_next, c_s_l1Cur_next, aop_nilCheck, nilCheckV_ptr, h1, hcell, hsg, hcs, hn, hcv, hw, hle, hle', show ¬ ((40 : Int) < 0) by omega, List.set_set, Nat.mul_one, decide_true, decide_false, finish_one_set0, clean_none', Wp_some, Wp_none, Wp_ite, Wc_some, Wc_none, Wc_ite, Wp_thenRun, seqQ_normal, seqQ_exit, seqQ_ret, Wp_inBlock, blkQ_normal, blkQ_ret, blkQ_same, blkQ_exit, Wp_opThen, opQ_at, Wp_guardP, retQ_normal, retQ_ret, loopQ_normal, loopQ_exit, loopQ_ret, go_sem, entry, joinEsc, if_pos, reduceIte, Nat.reduceAdd, Nat.reduceLeDiff, Nat.reduceLT, Nat.reduceEqDiff]
    exact ⟨_, _, _, rfl, (andI_255 _).1, (andI_255 _).2, by omega, by omega, rfl⟩

theorem wc_pick {q : Nat} {av : AV} {p : Int} (n : Int) (h : Cu H q av p) (hp : p ≤ 100000000000) (hn : n ≤ 1000000000000) : Wc (call T pr f_s_l1Cur_pick [.ptr (some (q, 0)), .int .i64 n] ⟨H, e⟩) (fun v m => ∃ x y z : Int, v = .int .i64 x ∧ 0 ≤ x ∧ (x < n ∨ x = 0) ∧ 0 ≤ y ∧ y ≤ p + 2 ∧ m = ⟨H.set q (curB av y z), e⟩) := by
  have hl := h.lt
  rw [call_wc t_s_l1Cur_pick]
  by_cases h1 : n ≤ 1
  · obtain ⟨w, hw, _⟩ := h.cells
    have hsame : H = H.set q (curB av p w) := by
      obtain ⟨hb, he⟩ := List.getElem?_eq_some_iff.mp hw
      rw [← he, List.set_getElem_self]
    have h1' : decide (n ≤ 1) = true := decide_eq_true h1
    simp +contextual only [a_s_l1Cur_pick, c_s_l1Cur_pick, h1, h1', decide_true, Wp_some, Wp_none, Wp_ite, Wc_some, Wc_none, Wc_ite, Wp_thenRun, seqQ_normal, seqQ_exit, seqQ_ret, Wp_inBlock, blkQ_normal, blkQ_ret, blkQ_same, blkQ_exit, Wp_opThen, opQ_at, Wp_guardP, retQ_normal, retQ_ret, loopQ_normal, loopQ_exit, loopQ_ret, finish_one_eq, finish_one_eq0, finish_two_eq, finish_two_eq0, roots_slice_new, roots_slice_new0, roots_slice_none, roots_ptr_new, roots_ptr_new0, roots_int, roots_bool, roots_str, roots_agg, roots_tup, roots_cons, roots_nil, rename_slice, rename_slice_none, rename_ptr, rename_int, rename_bool, rename_str, rename_agg, rename_tup, rename_cons, rename_nil, keepBlks_nil, keepBlks_cons, flatAll_nil, flatAll_cons, flatBlk_cells, dedup_nil, dedup_one, dedup_two, renum_one, renum_one0, renum_two0, renum_two1, clean_none', clean_some, minEsc_none, minEsc_some, Nat.add_left_cancel_iff, Nat.le_add_right, Nat.le_refl, decide_true, go_sem, entry, joinEsc, if_pos, reduceIte, Nat.reduceAdd, Nat.reduceLeDiff, Nat.reduceLT, Nat.reduceEqDiff]
    exact ⟨0, p, w, rfl, Int.le_refl _, .inr rfl, h.2.2, by omega, by rw [← hsame]⟩
  · have h1' : decide (n ≤ 1) = false := decide_eq_false h1
    simp +contextual only [a_s_l1Cur_pick, c_s_l1Cur_pick, h1, h1', decide_false, Wp_some, Wp_none, Wp_ite, Wc_some, Wc_none, Wc_ite, Wp_thenRun, seqQ_normal, seqQ_exit, seqQ_ret, Wp_inBlock, blkQ_normal, blkQ_ret, blkQ_same, blkQ_exit, Wp_opThen, opQ_at, Wp_guardP, retQ_normal, retQ_ret, loopQ_normal, loopQ_exit, loopQ_ret, go_sem, entry, joinEsc, if_pos, reduceIte, Nat.reduceAdd, Nat.reduceLeDiff, Nat.reduceLT, Nat.reduceEqDiff]
    refine (wc_next h (by omega)).mono ?_
    rintro v m ⟨x, y, z, rfl, hx0, hx1, hy0, hy1, rfl⟩
    have h' := h.step hy0 z
    have hmod : ∀ u : Int, 0 ≤ u → 0 ≤ u.tmod n ∧ u.tmod n < n := fun u hu => ⟨Int.tmod_nonneg _ hu, Int.tmod_lt_of_pos _ (by omega)⟩
    have hnz : ¬ n = 0 := by omega
    by_cases h2 : 200 < n
    · have h2' : decide (200 < n) = true := decide_eq_true h2
      have hm1 : IntKind.i64.wrap (x * 256) = x * 256 := wrap64 (by omega) (by omega)
      simp +contextual only [gt_iff_lt, h2, h2', hm1, decide_true, Wp_some, Wp_none, Wp_ite, Wc_some, Wc_none, Wc_ite, Wp_thenRun, seqQ_normal, seqQ_exit, seqQ_ret, Wp_inBlock, blkQ_normal, blkQ_ret, blkQ_same, blkQ_exit, Wp_opThen, opQ_at, Wp_guardP, retQ_normal, retQ_ret, loopQ_normal, loopQ_exit, loopQ_ret, go_sem, entry, joinEsc, if_pos, reduceIte, Nat.reduceAdd, Nat.reduceLeDiff, Nat.reduceLT, Nat.reduceEqDiff]
      refine (wc_next h' (by omega)).mono ?_
      rintro v m ⟨x2, y2, z2, rfl, hx20, hx21, hy20, hy21, rfl⟩
      have hm2 : IntKind.i64.wrap (x * 256 + x2) = x * 256 + x2 := wrap64 (by omega) (by omega)
      have hm := hmod (x * 256 + x2) (by omega)
      simp +contextual only [a_s_l1Cur_pick, hm2, hnz, List.set_set, finish_one_set0, clean_none', Wp_some, Wp_none, Wp_ite, Wc_some, Wc_none, Wc_ite, Wp_thenRun, seqQ_normal, seqQ_exit, seqQ_ret, Wp_inBlock, blkQ_normal, blkQ_ret, blkQ_same, blkQ_exit, Wp_opThen, opQ_at, Wp_guardP, retQ_normal, retQ_ret, loopQ_normal, loopQ_exit, loopQ_ret, finish_one_eq, finish_one_eq0, finish_two_eq, finish_two_eq0, roots_slice_new, roots_slice_new0, roots_slice_none, roots_ptr_new, roots_ptr_new0, roots_int, roots_bool, roots_str, roots_agg, roots_tup, roots_cons, roots_nil, rename_slice, rename_slice_none, rename_ptr, rename_int, rename_bool, rename_str, rename_agg, rename_tup, rename_cons, rename_nil, keepBlks_nil, keepBlks_cons, flatAll_nil, flatAll_cons, flatBlk_cells, dedup_nil, dedup_one, dedup_two, renum_one, renum_one0, renum_two0, renum_two1, clean_none', clean_some, minEsc_none, minEsc_some, Nat.add_left_cancel_iff, Nat.le_add_right, Nat.le_refl, decide_true, go_sem, entry, joinEsc, if_pos, reduceIte, Nat.reduceAdd, Nat.reduceLeDiff, Nat.reduceLT, Nat.reduceEqDiff]
      exact ⟨_, _, _, rfl, hm.1, .inl hm.2, hy20, by omega, rfl⟩
    · have h2' : decide (200 < n) = false := decide_eq_false h2
      have hm := hmod x hx0
      simp +contextual only [a_s_l1Cur_pick, gt_iff_lt, h2, h2', hnz, List.set_set, finish_one_set0, clean_none', decide_false, Wp_some, Wp_none, Wp_ite, Wc_some, Wc_none, Wc_ite, Wp_thenRun, seqQ_normal, seqQ_exit, seqQ_ret, Wp_inBlock, blkQ_normal, blkQ_ret, blkQ_same, blkQ_exit, Wp_opThen, opQ_at, Wp_guardP, retQ_normal, retQ_ret, loopQ_normal, loopQ_exit, loopQ_ret, finish_one_eq, finish_one_eq0, finish_two_eq, finish_two_eq0, roots_slice_new, roots_slice_new0, roots_slice_none, roots_ptr_new, roots_ptr_new0, roots_int, roots_bool, roots_str, roots_agg, roots_tup, roots_cons, roots_nil, rename_slice, rename_slice_none, rename_ptr, rename_int, rename_bool, rename_str, rename_agg, rename_tup, rename_cons, rename_nil, keepBlks_nil, keepBlks_cons, flatAll_nil, flatAll_cons, flatBlk_cells, dedup_nil, dedup_one, dedup_two, renum_one, renum_one0, renum_two0, renum_two1, clean_none', clean_some, minEsc_none, minEsc_some, Nat.add_left_cancel_iff, Nat.le_add_right, Nat.le_refl, decide_true, go_sem, entry, joinEsc, if_pos, reduceIte, Nat.reduceAdd, Nat.reduceLeDiff, Nat.reduceLT, Nat.reduceEqDiff]
      exact ⟨_, _, _, rfl, hm.1, .inl hm.2, hy0, by omega, rfl⟩

theorem wc_one {q : Nat} {av : AV} {p : Int} (n : Int) (h : Cu H q av p) (hp : p ≤ 100000000000) (hn : n ≤ 1000000000000) : Wc (call T pr f_s_l1Cur_one [.ptr (some (q, 0)), .int .i64 n] ⟨H, e⟩) (fun v m => ∃ (x : Bool) (y z : Int), v = .bool x ∧ 0 ≤ y ∧ y ≤ p + 2 ∧ m = ⟨H.set q (curB av y z), e⟩) := by
  rw [call_wc t_s_l1Cur_one]
  simp +contextual only [a_s_l1Cur_one, c_s_l1Cur_one, Wp_some, Wp_none, Wp_ite, Wc_some, Wc_none, Wc_ite, Wp_thenRun, seqQ_normal, seqQ_exit, seqQ_ret, Wp_inBlock, blkQ_normal, blkQ_ret, blkQ_same, blkQ_exit, Wp_opThen, opQ_at, Wp_guardP, retQ_normal, retQ_ret, loopQ_normal, loopQ_exit, loopQ_ret, go_sem, entry, joinEsc, if_pos, reduceIte, Nat.reduceAdd, Nat.reduceLeDiff, Nat.reduceLT, Nat.reduceEqDiff]
  refine (wc_pick n h hp hn).mono ?_
  rintro v m ⟨x, y, z, rfl, hx0, hx1, hy0, hy1, rfl⟩
  simp +contextual only [a_s_l1Cur_one, List.set_set, finish_one_set0, clean_none', Wp_some, Wp_none, Wp_ite, Wc_some, Wc_none, Wc_ite, Wp_thenRun, seqQ_normal, seqQ_exit, seqQ_ret, Wp_inBlock, blkQ_normal, blkQ_ret, blkQ_same, blkQ_exit, Wp_opThen, opQ_at, Wp_guardP, retQ_normal, retQ_ret, loopQ_normal, loopQ_exit, loopQ_ret, finish_one_eq, finish_one_eq0, finish_two_eq, finish_two_eq0, roots_slice_new, roots_slice_new0, roots_slice_none, roots_ptr_new, roots_ptr_new0, roots_int, roots_bool, roots_str, roots_agg, roots_tup, roots_cons, roots_nil, rename_slice, rename_slice_none, rename_ptr, rename_int, rename_bool, rename_str, rename_agg, rename_tup, rename_cons, rename_nil, keepBlks_nil, keepBlks_cons, flatAll_nil, flatAll_cons, flatBlk_cells, dedup_nil, dedup_one, dedup_two, renum_one, renum_one0, renum_two0, renum_two1, clean_none', clean_some, minEsc_none, minEsc_some, Nat.add_left_cancel_iff, Nat.le_add_right, Nat.le_refl, decide_true, go_sem, entry, joinEsc, if_pos, reduceIte, Nat.reduceAdd, Nat.reduceLeDiff, Nat.reduceLT, Nat.reduceEqDiff]
  exact ⟨_, _, _, rfl, hy0, by omega, rfl⟩

theorem wc_among {q b : Nat} {av : AV} {p : Int} {c : Option Nat} {zs : List Int} (h : Cu H q av p) (hp : p ≤ 100000000000) (hb : cellsAt H b = some (zs.map (AV.int .i64))) (hbq : b ≠ q) (h0 : 0 < zs.length) (hn : zs.length ≤ 1000000) : Wc (call T pr f_s_l1Cur_among [.ptr (some (q, 0)), .slice (some (b, 0)) 1 zs.length c] ⟨H, e⟩) (fun v m => ∃ x y z : Int, v = .int .i64 x ∧ x ∈ zs ∧ 0 ≤ y ∧ y ≤ p + 2 ∧ m = ⟨H.set q (curB av y z), e⟩) := by
  rw [call_wc t_s_l1Cur_among]
  simp +contextual only [a_s_l1Cur_among, c_s_l1Cur_among, Wp_some, Wp_none, Wp_ite, Wc_some, Wc_none, Wc_ite, Wp_thenRun, seqQ_normal, seqQ_exit, seqQ_ret, Wp_inBlock, blkQ_normal, blkQ_ret, blkQ_same, blkQ_exit, Wp_opThen, opQ_at, Wp_guardP, retQ_normal, retQ_ret, loopQ_normal, loopQ_exit, loopQ_ret, go_sem, entry, joinEsc, if_pos, reduceIte, Nat.reduceAdd, Nat.reduceLeDiff, Nat.reduceLT, Nat.reduceEqDiff]
  refine (wc_pick (zs.length : Int) h hp (by omega)).mono ?_
  rintro v m ⟨x, y, z, rfl, hx0, hx1, hy0, hy1, rfl⟩
  obtain ⟨i, rfl⟩ : ∃ i : Nat, x = (i : Int) := ⟨x.toNat, by omega⟩
  have hi : i < zs.length := by omega
  have hcs : cellsAt (H.set q (curB av y z)) b = some (zs.map (AV.int .i64)) := by
    unfold cellsAt at hb ⊢
    rw [List.getElem?_set_ne (fun h => hbq h.symm)]
    exact hb
  have hpart : part false (zs.map (AV.int .i64)) i 1 = some (.int .i64 zs[i]) := by
    rw [part_false, List.getElem?_map, List.getElem?_eq_getElem hi]
    rfl
  simp +contextual only [a_s_l1Cur_among, hi, hcs, hpart, Nat.mul_one, List.set_set, finish_one_set0, clean_none', Wp_some, Wp_none, Wp_ite, Wc_some, Wc_none, Wc_ite, Wp_thenRun, seqQ_normal, seqQ_exit, seqQ_ret, Wp_inBlock, blkQ_normal, blkQ_ret, blkQ_same, blkQ_exit, Wp_opThen, opQ_at, Wp_guardP, retQ_normal, retQ_ret, loopQ_normal, loopQ_exit, loopQ_ret, finish_one_eq, finish_one_eq0, finish_two_eq, finish_two_eq0, roots_slice_new, roots_slice_new0, roots_slice_none, roots_ptr_new, roots_ptr_new0, roots_int, roots_bool, roots_str, roots_agg, roots_tup, roots_cons, roots_nil, rename_slice, rename_slice_none, rename_ptr, rename_int, rename_bool, rename_str, rename_agg, rename_tup, rename_cons, rename_nil, keepBlks_nil, keepBlks_cons, flatAll_nil, flatAll_cons, flatBlk_cells, dedup_nil, dedup_one, dedup_two, renum_one, renum_one0, renum_two0, renum_two1, clean_none', clean_some, minEsc_none, minEsc_some, Nat.add_left_cancel_iff, Nat.le_add_right, Nat.le_refl, decide_true, go_sem, entry, joinEsc, if_pos, reduceIte, Nat.reduceAdd, Nat.reduceLeDiff, Nat.reduceLT, Nat.reduceEqDiff]
  exact ⟨_, _, _, rfl, List.getElem_mem _, hy0, by omega, rfl⟩

end Go.Proofs.Ythkgpblohjpcdaa.Slim

/- The drawing of arguments from bytes: what is cut from the bytes. -/
namespace Go.Proofs.Ythkgpblohjpcdaa.Slim

open Go

set_option linter.unusedSimpArgs false

set_option linter.unusedVariables false

variable {pr : Prims} {H : List Blk} {e : Option Nat}

def seqHd : ACode → ACode
  | .seq a _ => a
  | c => c

def seqTl : ACode → ACode
  | .seq _ c => c
  | c => c

def slLoV (sz : Nat) (v l : AV) : Option AV := match v with
  | .slice p sz' n cap => (match natOf l with
    | some l => sliceVal sz p sz' n cap l n none
    | none => none)
  | _ => none

section

variable {C : FuncId → List AV → Mem → Option (AV × Mem)} {g : X → AV} {m : Mem}

theorem aop_slLo (sz : Nat) (x l : X) : aop C g m (.sliceSl sz x (some l) none none) = valOf m (slLoV sz (g x) (g l)) := by
  rw [aop_of_light rfl]
  simp only [light, slLoV, bound, optNat]
  generalize g x = v
  generalize natOf (g l) = o
  cases v <;> cases o <;> simp

end

theorem slLoV_c (sz b o n l : Nat) (cap : Option Nat) (hl : l ≤ n) : slLoV sz (.slice (some (b, o)) sz n cap) (.int .i64 l) = some (.slice (some (b, o + l * sz)) sz (n - l) (cap.map (· - l))) := by
  unfold slLoV natOf sliceVal
  simp [hl]

theorem src_new (L : List Blk) (n sz : Nat) (cap : Option Nat) (cs : List AV) (b : Nat) (h : cellsAt L b = some cs) (hl : cs.length = n * sz) : srcCells false L (.slice (some (b, 0)) sz n cap) = some (n, cs) := by
  unfold srcCells
  simp [h, ← hl]

theorem CodeAt.form {L : List Blk} {av : AV} (h : CodeAt L av) : ∃ p sz n c, av = .slice p sz n c := by
  obtain ⟨zs, _, _, ⟨rfl, _⟩ | ⟨b, c, rfl, _⟩⟩ := h
  · exact ⟨_, _, _, _, rfl⟩
  · exact ⟨_, _, _, _, rfl⟩

/-- an argument that is a slice of bytes -/
def ArgB (L : List Blk) (av : AV) (zs : List Int) : Prop :=
  (∀ z ∈ zs, 0 ≤ z ∧ z ≤ 255) ∧ ((av = .slice none 0 0 none ∧ zs = []) ∨ ∃ b c, av = .slice (some (b, 0)) 1 zs.length c ∧ cellsAt L b = some (zs.map (AV.int .u8)))

theorem bytes_of : ∀ (es : List (List Int)), (∀ e ∈ es, e.length = 1 ∧ ∀ z ∈ e, (Lit.int .u8 z).wf = true) → es.flatten.length = es.length ∧ ∀ z ∈ es.flatten, 0 ≤ z ∧ z ≤ 255
  | [], _ => by simp
  | x :: es, h => by
    obtain ⟨h1, h2⟩ := bytes_of es fun e he => h e (by simp [he])
    obtain ⟨hx1, hx2⟩ := h x (by simp)
    match x, hx1 with
    | [a], _ =>
      refine ⟨by simp [h1], fun z hz => ?_⟩
      rw [List.flatten_cons] at hz
      rcases List.mem_append.mp hz with hz | hz
      · have := hx2 z hz
        simp [Lit.wf, IntKind.min, IntKind.max, IntKind.signed, IntKind.bits] at this
        omega
      · exact h2 z hz

theorem argB_of {av : AV} {es : List (List Int)} (h : IsArg H av .u8 1 es) : ∃ zs, ArgB H av zs := by
  obtain ⟨h1, h2⟩ := h
  obtain ⟨h6, h7⟩ := bytes_of es h1
  rcases h2 with ⟨rfl, rfl⟩ | ⟨b, cap, rfl, h3, h4, h5⟩
  · exact ⟨[], by simp, .inl ⟨rfl, rfl⟩⟩
  · refine ⟨es.flatten, h7, .inr ⟨b, some cap, by rw [h6], ?_⟩⟩
    unfold cellsAt
    rw [h5]

theorem ArgB.form {L : List Blk} {av : AV} {zs : List Int} (h : ArgB L av zs) : ∃ p sz n c, av = .slice p sz n c ∧ (n ≤ 65536 → CodeAt L av) := by
  obtain ⟨h1, ⟨rfl, rfl⟩ | ⟨b, c, rfl, h2⟩⟩ := h
  · exact ⟨_, _, _, _, rfl, fun _ => ⟨[], by simp, by simp, .inl ⟨rfl, rfl⟩⟩⟩
  · exact ⟨_, _, _, _, rfl, fun hn => ⟨zs, by omega, h1, .inr ⟨b, c, rfl, h2⟩⟩⟩

theorem CodeAt.new {G : List Blk} {k : Nat} {zs : List Int} {c : Option Nat} (hG : G[k]? = some (.cells (zs.map (AV.int .u8)) true)) (h1 : zs.length ≤ 70000) (h2 : ∀ z ∈ zs, 0 ≤ z ∧ z ≤ 255) : CodeAt (H ++ G) (.slice (some (H.length + k, 0)) 1 zs.length c) := by
  refine ⟨zs, h1, h2, .inr ⟨_, _, rfl, ?_⟩⟩
  rw [cellsAt_newk]
  unfold cellsAt
  rw [hG]

section

variable {C : FuncId → List AV → Mem → Option (AV × Mem)} {g : X → AV} {m : Mem}

end

end Go.Proofs.Ythkgpblohjpcdaa.Slim

/- The drawing of arguments from bytes: growing lists. -/
namespace Go.Proofs.Ythkgpblohjpcdaa.Slim

open Go

set_option linter.unusedSimpArgs false

set_option linter.unusedVariables false

variable {pr : Prims} {H : List Blk} {e : Option Nat}

/-- one of some numbers, drawn -/
theorem amongZ {q b n : Nat} {av : AV} {p : Int} {c : Option Nat} (zs : List Int) (h : Cu H q av p) (hp : p ≤ 100000000000) (hb : cellsAt H b = some (zs.map (AV.int .i64))) (hbq : b ≠ q) (hn : zs.length = n) (h0 : 0 < n) (hn2 : n ≤ 1000000) : Wc (call T pr f_s_l1Cur_among [.ptr (some (q, 0)), .slice (some (b, 0)) 1 n c] ⟨H, e⟩) (fun v m => ∃ x y z : Int, v = .int .i64 x ∧ x ∈ zs ∧ 0 ≤ y ∧ y ≤ p + 2 ∧ m = ⟨H.set q (curB av y z), e⟩) := by
  subst hn
  exact wc_among h hp hb hbq h0 hn2

/-- an old block falls, where an append may have written into it -/
def killL (L : List Blk) (b : Nat) (keep : Bool) : List Blk := if keep = true then L else L.set b .dead

theorem killL_length (L : List Blk) (b : Nat) (k : Bool) : (killL L b k).length = L.length := by unfold killL; split <;> simp

theorem killL_get {L : List Blk} {b i : Nat} (k : Bool) (h : i ≠ b) : (killL L b k)[i]? = L[i]? := by
  unfold killL
  split
  · rfl
  · exact List.getElem?_set_ne (fun e => h e.symm)

/-- some elements more -/
theorem apG {L : List Blk} {b sz bytes n k : Nat} {cs new : List AV} {cap : Option Nat} {src : AV} (hb : L[b]? = some (.cells cs true)) (hs : srcCells false L src = some (k, new)) (hcs : cs.length = n * sz) (hnew : new.length = k * sz) (hm : (n + k) * bytes ≤ maxBytes) (hcap : cap = some 0 → n = 0) :
    appendV L e false sz bytes (.slice (some (b, 0)) sz n cap) src = some (.slice (some (L.length, 0)) sz (n + k) none, ⟨killL L b (decide (cap = some 0 ∧ 0 < k)) ++ [.cells (cs ++ new) true], e⟩) := by
  unfold appendV
  simp only [hb, hs]
  rw [if_pos ⟨trivial, hm, hnew, by omega⟩]
  by_cases h : cap = some 0 ∧ 0 < k
  · have hn := hcap h.1
    subst hn
    have : cs = [] := List.eq_nil_of_length_eq_zero (by omega)
    subst this
    rw [if_pos h]
    simp [killL, h]
  · rw [if_neg h, if_pos trivial, List.drop_zero, List.take_of_length_le (by omega)]
    simp [killL, h]

/-- a memory that has grown -/
def Grown (H L : List Blk) : Prop := ∃ G, L = H ++ G

theorem Grown.refl (H : List Blk) : Grown H H := ⟨[], by simp⟩
theorem Grown.le {H L : List Blk} (h : Grown H L) : H.length ≤ L.length := by
  obtain ⟨G, rfl⟩ := h
  simp
theorem Grown.more {H L : List Blk} (h : Grown H L) (X : List Blk) : Grown H (L ++ X) := by
  obtain ⟨G, rfl⟩ := h
  exact ⟨G ++ X, by simp⟩
theorem Grown.put {H L : List Blk} (h : Grown H L) {b : Nat} (hb : H.length ≤ b) (x : Blk) : Grown H (L.set b x) := by
  obtain ⟨G, rfl⟩ := h
  exact ⟨G.set (b - H.length) x, List.set_append_right _ _ hb⟩
theorem Grown.kill {H L : List Blk} (h : Grown H L) {b : Nat} (hb : H.length ≤ b) (k : Bool) : Grown H (killL L b k) := by
  unfold killL
  split
  · exact h
  · exact h.put hb _
theorem Grown.cur {H L : List Blk} {q : Nat} {x : Blk} (h : Grown (H.set q x) L) (hq : q < H.length) (y : Blk) : Grown (H.set q y) (L.set q y) := by
  obtain ⟨G, rfl⟩ := h
  exact ⟨G, by rw [List.set_append_left _ _ (by simpa using hq), List.set_set]⟩
theorem Grown.get {H L : List Blk} (h : Grown H L) {i : Nat} (hi : i < H.length) : L[i]? = H[i]? := by
  obtain ⟨G, rfl⟩ := h
  exact List.getElem?_append_left hi
theorem Grown.cells {H L : List Blk} {q : Nat} {x : Blk} (h : Grown (H.set q x) L) {b : Nat} {cs : List AV} (hb : cellsAt H b = some cs) (hne : b ≠ q) : cellsAt L b = some cs := by
  have hl : b < H.length := by
    unfold cellsAt at hb
    rcases Nat.lt_or_ge b H.length with h | h
    · exact h
    · rw [List.getElem?_eq_none h] at hb; cases hb
  unfold cellsAt at hb ⊢
  rw [h.get (by simpa using hl), List.getElem?_set_ne (fun e => hne e.symm)]
  exact hb
theorem Grown.curs {H L : List Blk} {q : Nat} {av : AV} {p y z : Int} (h : Grown (H.set q (curB av y z)) L) (hc : Cu H q av p) (hy : 0 ≤ y) : Cu L q av y := by
  obtain ⟨G, rfl⟩ := h
  exact (hc.step hy z).more G

/-- some elements more: what is known behind it -/
theorem wc_ap {L : List Blk} {b sz bytes n k : Nat} {cs new : List AV} {cap : Option Nat} {src : AV} {Q : AV → Mem → Prop} (hb : L[b]? = some (.cells cs true)) (hs : srcCells false L src = some (k, new)) (hcs : cs.length = n * sz) (hnew : new.length = k * sz) (hm : (n + k) * bytes ≤ maxBytes) (hcap : cap = some 0 → n = 0)
    (hQ : ∀ L' : List Blk, L'.length = L.length + 1 → (∀ i, i ≠ b → i < L.length → L'[i]? = L[i]?) → L'[L.length]? = some (.cells (cs ++ new) true) → (∀ H0, Grown H0 L → H0.length ≤ b → Grown H0 L') → Q (.slice (some (L.length, 0)) sz (n + k) none) ⟨L', e⟩) :
    Wc (appendV L e false sz bytes (.slice (some (b, 0)) sz n cap) src) Q := by
  refine Wc.of_eq (apG hb hs hcs hnew hm hcap) (hQ _ ?_ ?_ ?_ ?_)
  · rw [List.length_append, killL_length]; rfl
  · intro i h1 h2
    rw [List.getElem?_append_left (by rw [killL_length]; exact h2), killL_get _ h1]
  · have hl := killL_length L b (decide (cap = some 0 ∧ 0 < k))
    rw [List.getElem?_append_right (by omega), hl, Nat.sub_self]
    rfl
  · exact fun H0 hg hb => (hg.kill hb _).more _

theorem set_self_at {L : List Blk} {q : Nat} {x : Blk} (h : L[q]? = some x) : L.set q x = L := by
  obtain ⟨hlt, he⟩ := List.getElem?_eq_some_iff.mp h
  rw [← he, List.set_getElem_self]

/-- the end of a call that hands back one list, of a memory that has grown -/
theorem finish_sl {L : List Blk} {b sz n : Nat} {c : Option Nat} {cs : List AV} {w : Bool} (hL : Grown H L) (e0 e1 : Option Nat) (hc : clean H.length e1 = true) (hb : H.length ≤ b) (hG : L[b]? = some (.cells cs w)) (hu : (cs.all fun c => c.under H.length) = true) :
    finish 2 H.length e0 (.slice (some (b, 0)) sz n c) ⟨L, e1⟩ = some (.slice (some (H.length, 0)) sz n c, ⟨H ++ [.cells cs w], e0⟩) := by
  obtain ⟨G, rfl⟩ := hL
  obtain ⟨j, rfl⟩ : ∃ j, b = H.length + j := ⟨b - H.length, by omega⟩
  have hlt : ¬ H.length + j < H.length := by omega
  have hr : dedup (AV.roots H.length (.slice (some (H.length + j, 0)) sz n c)) = [H.length + j] := by simp [AV.roots, dedup, hlt]
  unfold finish
  simp only [hr]
  have h2 : ([H.length + j].all fun b => flatBlk H.length (H ++ G)[b]?) = true := by
    simp only [List.all_cons, List.all_nil, Bool.and_true, hG, flatBlk, hu]
  simp only [hc, h2, and_self, if_true]
  simp [AV.rename, renum, hlt, hG]

theorem e_l_rBig (p : Option (Nat × Nat)) (sz n : Nat) (c : Option Nat) : call T pr f_l_rBig [.slice p sz n c] ⟨H, e⟩ = some (.bool (decide ((65536 : Int) < (n : Int))), ⟨H, e⟩) := by
  rw [call_eq t_l_rBig]
  simp +contextual only [a_l_rBig, c_l_rBig, gt_iff_lt, go_sem, entry, joinEsc, if_pos, reduceIte, Nat.reduceAdd, Nat.reduceLeDiff, Nat.reduceLT, Nat.reduceEqDiff]

end Go.Proofs.Ythkgpblohjpcdaa.Slim

/- Planks: the search in the program. -/
namespace Go.Proofs.Ythkgpblohjpcdaa.Slim

open Go

set_option linter.unusedSimpArgs false

set_option linter.unusedVariables false

variable {pr : Prims} {H : List Blk} {e : Option Nat}

/-- the lists of places of what is found, as they lie in memory -/
def encF (es : Found) : List AV := (es.map fun q => q.1.map (AV.int .i64)).flatten

theorem encF_cons (z : List Int) (v : Int) (es : Found) : encF ((z, v) :: es) = z.map (AV.int .i64) ++ encF es := rfl

theorem encF_append (a b : Found) : encF (a ++ b) = encF a ++ encF b := by simp [encF]

theorem encF_length {es : Found} (h : ∀ q ∈ es, q.1.length = 3) : (encF es).length = es.length * 3 := by
  induction es with
  | nil => rfl
  | cons q es ih =>
    have h1 := h q (by simp)
    have h2 := ih (fun x hx => h x (by simp [hx]))
    show (q.1.map (AV.int .i64) ++ encF es).length = _
    rw [List.length_append, List.length_map, h1, h2, List.length_cons]
    omega

theorem cells_more {L : List Blk} {j : Nat} {cs : List AV} {w : Bool} (h : L[j]? = some (.cells cs w)) (G : List Blk) : cellsAt (L ++ G) j = some cs := cellsAt_of (get_more h G)

theorem mapAt_more {L : List Blk} {j : Nat} {es : Found} (h : L[j]? = some (.mp es)) (G : List Blk) : mapAt (L ++ G) j = some es := mapAt_of (get_more h G)

theorem get_lt {α : Type} {L : List α} {j : Nat} {b : α} (h : L[j]? = some b) : j < L.length := (List.getElem?_eq_some_iff.mp h).1

/-- some elements more, behind an offset -/
theorem wc_apO {L : List Blk} {b o sz bytes n k : Nat} {pre cs new : List AV} {cap : Option Nat} {src : AV} {Q : AV → Mem → Prop} (hb : L[b]? = some (.cells (pre ++ cs) true)) (ho : pre.length = o) (hs : srcCells false L src = some (k, new)) (hcs : cs.length = n * sz) (hnew : new.length = k * sz) (hm : (n + k) * bytes ≤ maxBytes) (hcap : cap = some 0 → n = 0)
    (hQ : ∀ L' : List Blk, L'.length = L.length + 1 → (∀ i, i ≠ b → i < L.length → L'[i]? = L[i]?) → L'[L.length]? = some (.cells (cs ++ new) true) → (∀ H0, Grown H0 L → H0.length ≤ b → Grown H0 L') → Q (.slice (some (L.length, 0)) sz (n + k) none) ⟨L', e⟩) :
    Wc (appendV L e false sz bytes (.slice (some (b, o)) sz n cap) src) Q := by
  have key : appendV L e false sz bytes (.slice (some (b, o)) sz n cap) src = some (.slice (some (L.length, 0)) sz (n + k) none, ⟨killL L b (decide (cap = some 0 ∧ 0 < k)) ++ [.cells (cs ++ new) true], e⟩) := by
    unfold appendV
    simp only [hb, hs]
    rw [if_pos ⟨trivial, hm, hnew, by rw [List.length_append]; omega⟩]
    by_cases h : cap = some 0 ∧ 0 < k
    · have hn := hcap h.1
      subst hn
      have : cs = [] := List.eq_nil_of_length_eq_zero (by omega)
      subst this
      rw [if_pos h]
      simp [killL, h]
    · rw [if_neg h, if_pos trivial, ← ho, List.drop_left, List.take_of_length_le (by omega)]
      simp [killL, h]
  refine Wc.of_eq key (hQ _ ?_ ?_ ?_ ?_)
  · rw [List.length_append, killL_length]; rfl
  · intro i h1 h2
    rw [List.getElem?_append_left (by rw [killL_length]; exact h2), killL_get _ h1]
  · have hl := killL_length L b (decide (cap = some 0 ∧ 0 < k))
    rw [List.getElem?_append_right (by omega), hl, Nat.sub_self]
    rfl
  · exact fun H0 hg hb => (hg.kill hb _).more _

/-- the end of a call that hands back a map -/
theorem finish_mp {L : List Blk} {b : Nat} {es : Found} (hL : Grown H L) (e0 : Option Nat) (hb : H.length ≤ b) (hG : L[b]? = some (.mp es)) :
    finish 2 H.length e0 (.map (some b)) ⟨L, none⟩ = some (.map (some H.length), ⟨H ++ [.mp es], e0⟩) := by
  obtain ⟨G, rfl⟩ := hL
  have hlt : ¬ b < H.length := by omega
  have hr : dedup (AV.roots H.length (.map (some b))) = [b] := by simp [AV.roots, dedup, hlt]
  unfold finish
  simp only [hr]
  have h2 : ([b].all fun b => flatBlk H.length (H ++ G)[b]?) = true := by
    simp only [List.all_cons, List.all_nil, Bool.and_true, hG, flatBlk]
  simp only [clean, h2, and_self, if_true]
  simp [AV.rename, renum, hlt, hG]

/-- how the program's search lies in memory -/
structure SF (Bs L : List Blk) (mb tb to : Nat) (tc : Option Nat) (es : Found) (n : Nat) : Prop where
  gr : Grown Bs L
  mbl : Bs.length ≤ mb
  tbl : Bs.length ≤ tb
  ne : mb ≠ tb
  mp : L[mb]? = some (.mp es)
  td : ∃ pre, pre.length = to ∧ L[tb]? = some (.cells (pre ++ encF (es.drop n)) true)
  cap : ∀ c, tc = some c → es.length ≤ n + c

theorem Good.three {x a b : Int} {ls : List Ld} {z : List Int} (G : Good x a b ls z) : ∃ z0 z1 z2, z = [z0, z1, z2] := Slim.three G.len

theorem Good.in64 {x a b s : Int} {ls : List Ld} (K : Plk x a b s ls) {z0 z1 z2 : Int} (G : Good x a b ls [z0, z1, z2]) : Slim.in64 z0 = true ∧ Slim.in64 z1 = true ∧ Slim.in64 z2 = true := by
  have hx := K.x12
  have key : ∀ i, i < 3 → 0 ≤ [z0, z1, z2].getD i 0 ∧ [z0, z1, z2].getD i 0 ≤ 12 := by
    intro i hi
    by_cases h : i < ls.length
    · have := G.on i h
      omega
    · rw [G.zero i (by omega)]
      omega
  have h0 : 0 ≤ z0 ∧ z0 ≤ 12 := key 0 (by omega)
  have h1 : 0 ≤ z1 ∧ z1 ≤ 12 := key 1 (by omega)
  have h2 : 0 ≤ z2 ∧ z2 ≤ 12 := key 2 (by omega)
  unfold Slim.in64
  simp only [Bool.and_eq_true, decide_eq_true_eq]
  omega

theorem mvs_range {x a b s : Int} {ls : List Ld} {m : Ld} (h : m ∈ mvs x a b s ls) : ∃ i : Nat, m.1 = (i : Int) ∧ i < ls.length := by
  unfold mvs at h
  obtain ⟨j, _, h2, h3⟩ := (mem_mvsFrom _ _).mp h
  exact ⟨j, (mem_selM.mp h3).1, by omega⟩

theorem Plk.box {x a b s : Int} {ls : List Ld} (K : Plk x a b s ls) : Box (Good x a b ls) ((x.toNat + 1) ^ ls.length) (keyN x.toNat ls.length) ∧ (x.toNat + 1) ^ ls.length ≤ 2197 := by
  have hx := K.x1
  have hx2 := K.x12
  have e : ((x.toNat : Nat) : Int) = x := by omega
  refine ⟨(boxN (d := x.toNat) K.n3).sub (fun z G => ?_), pow_le K.n3 (by omega)⟩
  rw [e]
  exact G.toBox0

theorem bfsIn_snoc (v : Int) (es : Found) (ts : List (List Int)) (t : List Int) : bfsIn v es (ts ++ [t]) = if (mget (bfsIn v es ts) t).isSome then bfsIn v es ts else bfsIn v es ts ++ [(t, v)] := by
  rw [bfsIn_append]
  rfl

theorem take_map_succ {α β : Type} (f : α → β) (l : List α) {j : Nat} (h : j < l.length) : (l.map f).take (j + 1) = (l.map f).take j ++ [f l[j]] := by
  rw [List.take_add_one, List.getElem?_map, List.getElem?_eq_getElem h]
  rfl

/-- the moves from one list of places on -/
theorem sf_in {Bs L : List Blk} {x a b s z0 z1 z2 v : Int} {ls : List Ld} {w0 w1 w2 w3 w4 w8 w9 w10 w11 w15 w16 : AV} {mb nb qb tb to n : Nat} {mc tc : Option Nat} {es : Found} {M : List Ld} (hM : M = mvs x a b s (putL ls [z0, z1, z2])) (K : Plk x a b s ls) (G : Good x a b ls [z0, z1, z2]) (hP : ∀ q ∈ es, Good x a b ls q.1) (hd : (es.map (·.1)).Nodup) (hzv : mget es [z0, z1, z2] = some v) (hv0 : 0 ≤ v) (hv : v ≤ 100000)
    (S : SF Bs L mb tb to tc es n) (hn : n ≤ es.length) (hnb : L[nb]? = some (.cells [.int .i64 z0, .int .i64 z1, .int .i64 z2] true)) (hqb : L[qb]? = some (.cells (encL M) true)) (d1 : nb ≠ mb) (d2 : nb ≠ tb) (d3 : qb ≠ mb) (d4 : qb ≠ tb) :
    Wp (run T pr (.loop w_i_Party_stepsFrom_1) ⟨[w0, w1, w2, w3, w4, .map (some mb), .slice (some (tb, to)) 3 (es.length - n) tc, .ptr (some (nb, 0)), w8, w9, w10, w11, slL qb M.length mc, .int .i64 M.length, .int .i64 0, w15, w16], ⟨L, none⟩⟩)
      (fun ex st => ex = .exit 2 ∧ ∃ (L' : List Blk) (tb' to' : Nat) (tc' : Option Nat) (v8 v9 v10 v12 v13 v14 v15 v16 : AV), SF Bs L' mb tb' to' tc' (bfsIn (v + 1) es (nxP x a b s ls [z0, z1, z2])) n ∧ st = ⟨[w0, w1, w2, w3, w4, .map (some mb), .slice (some (tb', to')) 3 ((bfsIn (v + 1) es (nxP x a b s ls [z0, z1, z2])).length - n) tc', .ptr (some (nb, 0)), v8, v9, v10, w11, v12, v13, v14, v15, v16], ⟨L', none⟩⟩) := by
  have hMn : M.length ≤ 6 := by
    rw [hM]
    have h3 := K.n3
    exact Nat.le_trans (mvs_le x a b s _ _ _) (by rw [putL_length]; omega)
  obtain ⟨hbox, hN⟩ := K.box
  have hts : nxP x a b s ls [z0, z1, z2] = M.map fun m => [z0, z1, z2].set m.1.toNat m.2 := by rw [hM]; rfl
  rw [hts]
  have hgood : ∀ j (hj : j < M.length), Good x a b ls ([z0, z1, z2].set M[j].1.toNat M[j].2) := by
    intro j hj
    refine G.next K ?_
    rw [hts]
    exact List.mem_map_of_mem (List.getElem_mem hj)
  refine Wp_loop (fun k st => ∃ (j : Nat) (L' : List Blk) (tb' to' len : Nat) (tc' : Option Nat) (esj : Found) (v8 v9 v10 v15 v16 : AV), j + k = M.length ∧ esj = bfsIn (v + 1) es ((M.map fun m => [z0, z1, z2].set m.1.toNat m.2).take j) ∧ len = esj.length - n ∧ SF Bs L' mb tb' to' tc' esj n ∧ L'[nb]? = some (.cells [.int .i64 z0, .int .i64 z1, .int .i64 z2] true) ∧ L'[qb]? = some (.cells (encL M) true) ∧ nb ≠ tb' ∧ qb ≠ tb' ∧
    st = ⟨[w0, w1, w2, w3, w4, .map (some mb), .slice (some (tb', to')) 3 len tc', .ptr (some (nb, 0)), v8, v9, v10, w11, slL qb M.length mc, .int .i64 M.length, .int .i64 j, v15, v16], ⟨L', none⟩⟩) ?_ M.length _ ?_
  rotate_left
  · exact ⟨0, L, tb, to, _, tc, es, w8, w9, w10, w15, w16, by omega, rfl, rfl, S, hnb, hqb, d2, d4, rfl⟩
  rintro k _ ⟨j, L', tb', to', len, tc', esj, v8, v9, v10, v15, v16, hj, hesj, hlen, S', hnb', hqb', e2, e4, rfl⟩
  by_cases hk : k = 0
  · have he : j = M.length := by omega
    subst he
    rw [List.take_of_length_le (by simp)] at hesj
    simp (maxSteps := 2000000) +contextual only [w_i_Party_stepsFrom_1, Nat.lt_irrefl, decide_false, Wp_some, Wp_none, Wp_ite, Wc_some, Wc_none, Wc_ite, Wp_thenRun, seqQ_normal, seqQ_exit, seqQ_ret, Wp_inBlock, blkQ_normal, blkQ_ret, blkQ_same, blkQ_exit, Wp_opThen, opQ_at, Wp_guardP, retQ_normal, retQ_ret, loopQ_normal, loopQ_exit, loopQ_ret, go_sem, entry, joinEsc, if_pos, reduceIte, Nat.reduceAdd, Nat.reduceLeDiff, Nat.reduceLT, Nat.reduceEqDiff]
    subst hlen
    subst hesj
    exact ⟨_, _, _, _, _, _, _, _, _, _, _, _, S', rfl⟩
  · have hjl : j < M.length := by omega
    have hw := wrap_succ (show j < 9223372036854775807 by omega)
    have hl : M[j]? = some M[j] := List.getElem?_eq_getElem hjl
    obtain ⟨i, hi, hi2⟩ := mvs_range (x := x) (a := a) (b := b) (s := s) (ls := putL ls [z0, z1, z2]) (m := M[j]) (by rw [← hM]; exact List.getElem_mem hjl)
    rw [putL_length] at hi2
    have hi3 : i < 3 := by have := K.n3; omega
    have hit : M[j].1.toNat = i := by rw [hi]; exact Int.toNat_natCast i
    obtain ⟨t0, t1, t2, ht, hset⟩ := set3 (s0 := z0) (s1 := z1) (s2 := z2) (p := M[j].2) hi3
    have hGt := hgood j hjl
    rw [hit, ht] at hGt
    have hI := hGt.in64 K
    have hkey := keyZ_three hI.1 hI.2.1 hI.2.2
    have hIz := G.in64 K
    have hkz := keyZ_three hIz.1 hIz.2.1 hIz.2.2
    have hpart : part true (encL M) (j * 2) 2 = some (.agg [.int .i64 (i : Int), .int .i64 M[j].2]) := by
      have := part_encL hl
      rw [hi] at this
      exact this
    have hnx : (M.map fun m => [z0, z1, z2].set m.1.toNat m.2).take (j + 1) = (M.map fun m => [z0, z1, z2].set m.1.toNat m.2).take j ++ [[t0, t1, t2]] := by
      rw [take_map_succ _ _ hjl, hit, ht]
    have hsn := bfsIn_snoc (v + 1) es ((M.map fun m => [z0, z1, z2].set m.1.toNat m.2).take j) [t0, t1, t2]
    rw [← hnx] at hsn
    obtain ⟨more, m1, m2, m3, m4⟩ := bfsIn_ext (v + 1) ((M.map fun m => [z0, z1, z2].set m.1.toNat m.2).take j) es hd
    have hPj : ∀ q ∈ bfsIn (v + 1) es ((M.map fun m => [z0, z1, z2].set m.1.toNat m.2).take j), Good x a b ls q.1 := bfsIn_all _ _ _ hP (fun t ht => by
      obtain ⟨m, hm, rfl⟩ := List.mem_map.mp (List.mem_of_mem_take ht)
      obtain ⟨jj, hjj⟩ := List.getElem?_of_mem hm
      obtain ⟨hjl', rfl⟩ := List.getElem?_eq_some_iff.mp hjj
      exact hgood jj hjl')
    have hlenj := hbox.le m3 hPj
    have hnj : n ≤ (bfsIn (v + 1) es ((M.map fun m => [z0, z1, z2].set m.1.toNat m.2).take j)).length := by rw [m1, List.length_append]; omega
    have hzj : mget (bfsIn (v + 1) es ((M.map fun m => [z0, z1, z2].set m.1.toNat m.2).take j)) [z0, z1, z2] = some v := mget_of_mem m3 (by rw [m1]; exact List.mem_append_left _ (mget_mem hzv))
    rw [← hesj] at hsn m1 m3 hPj hlenj hnj hzj m4
    have hnbm := cells_more hnb'
    have hqbm := cells_more hqb'
    have hmpm := mapAt_more S'.mp
    have hnb0 := cellsAt_of hnb'
    have hqb0 := cellsAt_of hqb'
    have hmp0 := mapAt_of S'.mp
    have hmbl := get_lt S'.mp
    have hnbl := get_lt hnb'
    have hqbl := get_lt hqb'
    have hsetm : ∀ (X : List Blk) (y : Blk), (L' ++ X).set mb y = L'.set mb y ++ X := fun X y => List.set_append_left _ _ hmbl
    have hi4 : (i : Int) < 3 := by omega
    have hle1 : i + 1 ≤ 3 := by omega
    have hwv : IntKind.i64.wrap (v + 1) = v + 1 := wrap64 (by omega) (by omega)
    cases hs : mget esj [t0, t1, t2] with
    | some u =>
      simp (maxSteps := 2000000) +contextual only [w_i_Party_stepsFrom_1, fillParts, at02, at12, toNat0, toNat1, hjl, hw, hqbm, hnbm, hnb0, hqb0, hmp0, hpart, hi3, hi4, hle1, hset, hmpm, hkey, hs, Option.isSome_some, decide_true, decide_false, Wp_some, Wp_none, Wp_ite, Wc_some, Wc_none, Wc_ite, Wp_thenRun, seqQ_normal, seqQ_exit, seqQ_ret, Wp_inBlock, blkQ_normal, blkQ_ret, blkQ_same, blkQ_exit, Wp_opThen, opQ_at, Wp_guardP, retQ_normal, retQ_ret, loopQ_normal, loopQ_exit, loopQ_ret, go_sem, entry, joinEsc, if_pos, reduceIte, Nat.reduceAdd, Nat.reduceLeDiff, Nat.reduceLT, Nat.reduceEqDiff]
      rw [hs] at hsn
      simp only [Option.isSome_some, if_true] at hsn
      obtain ⟨pre, p1, p2⟩ := S'.td
      exact ⟨k - 1, by omega, j + 1, _, tb', to', len, tc', esj, _, _, _, _, _, by omega, hsn.symm, hlen, ⟨S'.gr.more _, S'.mbl, S'.tbl, S'.ne, get_more S'.mp _, ⟨pre, p1, get_more p2 _⟩, S'.cap⟩, get_more hnb' _, get_more hqb' _, e2, e4, rfl⟩
    | none =>
      simp (maxSteps := 2000000) +contextual only [w_i_Party_stepsFrom_1, fillParts, at02, at12, toNat0, toNat1, hjl, hw, hqbm, hnbm, hnb0, hqb0, hmp0, hpart, hi3, hi4, hle1, hset, hmpm, hkey, hs, hkz, hzj, hwv, hsetm, Option.isSome_none, decide_true, decide_false, Wp_some, Wp_none, Wp_ite, Wc_some, Wc_none, Wc_ite, Wp_thenRun, seqQ_normal, seqQ_exit, seqQ_ret, Wp_inBlock, blkQ_normal, blkQ_ret, blkQ_same, blkQ_exit, Wp_opThen, opQ_at, Wp_guardP, retQ_normal, retQ_ret, loopQ_normal, loopQ_exit, loopQ_ret, go_sem, entry, joinEsc, if_pos, reduceIte, Nat.reduceAdd, Nat.reduceLeDiff, Nat.reduceLT, Nat.reduceEqDiff]
      obtain ⟨L1, hL1⟩ : ∃ L1, L1 = L'.set mb (Blk.mp (mput esj [t0, t1, t2] (v + 1))) := ⟨_, rfl⟩
      have hlen1 : L1.length = L'.length := by rw [hL1]; exact List.length_set
      simp only [← hL1, ← hlen1]
      simp (maxSteps := 2000000) +contextual only [fillParts, Wp_some, Wp_none, Wp_ite, Wc_some, Wc_none, Wc_ite, Wp_thenRun, seqQ_normal, seqQ_exit, seqQ_ret, Wp_inBlock, blkQ_normal, blkQ_ret, blkQ_same, blkQ_exit, Wp_opThen, opQ_at, Wp_guardP, retQ_normal, retQ_ret, loopQ_normal, loopQ_exit, loopQ_ret, go_sem, entry, joinEsc, if_pos, reduceIte, Nat.reduceAdd, Nat.reduceLeDiff, Nat.reduceLT, Nat.reduceEqDiff]
      rw [hs] at hsn
      simp only [Option.isSome_none, Bool.false_eq_true, if_false] at hsn
      obtain ⟨pre, p1, p2⟩ := S'.td
      have htbl := get_lt p2
      have h1 : L1[tb']? = some (.cells (pre ++ encF (esj.drop n)) true) := by
        rw [hL1, List.getElem?_set_ne S'.ne]
        exact p2
      have hl3 : ∀ q ∈ esj.drop n, q.1.length = 3 := fun q hq => (hPj q (List.mem_of_mem_drop hq)).len
      refine wc_apO (k := 1) (new := [AV.int IntKind.i64 t0, AV.int IntKind.i64 t1, AV.int IntKind.i64 t2]) (get_more h1 _) p1 (src_new _ 1 3 _ _ (L1.length + 2) (by simp +contextual only [go_sem, entry, joinEsc, if_pos, reduceIte, Nat.reduceAdd, Nat.reduceLeDiff, Nat.reduceLT, Nat.reduceEqDiff]) rfl) (by rw [encF_length hl3, List.length_drop, hlen]) rfl (by unfold maxBytes; omega) (fun hh => by have := S'.cap 0 hh; omega) ?_
      intro L2 g1 g2 g3 g4
      simp (maxSteps := 2000000) +contextual only [hw, Wp_some, Wp_none, Wp_ite, Wc_some, Wc_none, Wc_ite, Wp_thenRun, seqQ_normal, seqQ_exit, seqQ_ret, Wp_inBlock, blkQ_normal, blkQ_ret, blkQ_same, blkQ_exit, Wp_opThen, opQ_at, Wp_guardP, retQ_normal, retQ_ret, loopQ_normal, loopQ_exit, loopQ_ret, go_sem, entry, joinEsc, if_pos, reduceIte, Nat.reduceAdd, Nat.reduceLeDiff, Nat.reduceLT, Nat.reduceEqDiff]
      have hb3 := S'.tbl
      have hgl := S'.gr.le
      have hmbb := S'.mbl
      have hg1 : Grown Bs L1 := by rw [hL1]; exact S'.gr.put S'.mbl _
      have hm1 : L1[mb]? = some (.mp (esj ++ [([t0, t1, t2], v + 1)])) := by rw [hL1, List.getElem?_set_self hmbl, mput_new _ hs]
      have hn1 : L1[nb]? = some (.cells [.int .i64 z0, .int .i64 z1, .int .i64 z2] true) := by rw [hL1, List.getElem?_set_ne (fun e => d1 e.symm)]; exact hnb'
      have hq1 : L1[qb]? = some (.cells (encL M) true) := by rw [hL1, List.getElem?_set_ne (fun e => d3 e.symm)]; exact hqb'
      have hX := g4 Bs (hg1.more _) hb3
      have q1 := (g2 mb S'.ne (by rw [List.length_append]; omega)).trans (get_more hm1 _)
      have q2 := (g2 nb e2 (by rw [List.length_append]; omega)).trans (get_more hn1 _)
      have q3 := (g2 qb e4 (by rw [List.length_append]; omega)).trans (get_more hq1 _)
      simp only [List.length_append, List.length_cons, List.length_nil, Nat.zero_add, Nat.reduceAdd] at g1 g3
      have henc : encF ((esj ++ [([t0, t1, t2], v + 1)]).drop n) = encF (esj.drop n) ++ [AV.int IntKind.i64 t0, AV.int IntKind.i64 t1, AV.int IntKind.i64 t2] := by
        rw [List.drop_append_of_le_length hnj, encF_append]
        rfl
      exact ⟨k - 1, by omega, j + 1, L2, L1.length + 3, 0, len + 1, none, _, _, _, _, _, _, by omega, hsn.symm, by rw [List.length_append]; simp only [List.length_cons, List.length_nil]; omega,
        ⟨hX, hmbb, by omega, by omega, q1, ⟨[], rfl, by rw [henc]; exact g3⟩, fun c h => by cases h⟩, q2, q3, by omega, by omega, rfl⟩

end Go.Proofs.Ythkgpblohjpcdaa.Slim

/- Planks: the search in the program, told whole. -/
namespace Go.Proofs.Ythkgpblohjpcdaa.Slim

open Go

set_option linter.unusedSimpArgs false

set_option linter.unusedVariables false

variable {pr : Prims} {H : List Blk} {e : Option Nat}

theorem gr_cells {X : List Blk} {L : List Blk} {q : Nat} {cs : List AV} (hq : cellsAt H q = some cs) (hg : Grown (H ++ X) L) : cellsAt L q = some cs := by
  obtain ⟨G, rfl⟩ := hg
  rw [List.append_assoc]
  exact cells_mono hq _

theorem gr_H {X : List Blk} {L : List Blk} (hg : Grown (H ++ X) L) : Grown H L := by
  obtain ⟨G, rfl⟩ := hg
  exact ⟨X ++ G, by simp⟩

theorem gr_at {X : List Blk} {L : List Blk} (k : Nat) (hk : k < X.length) (hg : Grown (H ++ X) L) : L[H.length + k]? = X[k]? := by
  obtain ⟨G, rfl⟩ := hg
  rw [List.append_assoc, List.getElem?_append_right (by omega), Nat.add_sub_cancel_left, List.getElem?_append_left hk]

theorem e_i_Party_stepsFrom {q : Nat} {c : Option Nat} {ls : List Ld} {x a b s z0 z1 z2 : Int} (h : cellsAt H q = some (encL ls)) (K : Plk x a b s ls) (G : Good x a b ls [z0, z1, z2]) : call T pr f_i_Party_stepsFrom [ptV x a b (slL q ls.length c) s, spV z0 z1 z2] ⟨H, e⟩ =
    some (.map (some H.length), ⟨H ++ [.mp (bfsAll (nxP x a b s ls) [z0, z1, z2])], e⟩) := by
  obtain ⟨hbox, hN⟩ := K.box
  have hnx : ∀ z, Good x a b ls z → ∀ t ∈ nxP x a b s ls z, Good x a b ls t := fun z hz t ht => hz.next K ht
  have hI := G.in64 K
  have hkey := keyZ_three hI.1 hI.2.1 hI.2.2
  apply Wc.eq
  rw [call_wc t_i_Party_stepsFrom]
  simp (maxSteps := 2000000) +contextual only [a_i_Party_stepsFrom, c_i_Party_stepsFrom, fillParts, hkey, Wp_some, Wp_none, Wp_ite, Wc_some, Wc_none, Wc_ite, Wp_thenRun, seqQ_normal, seqQ_exit, seqQ_ret, Wp_inBlock, blkQ_normal, blkQ_ret, blkQ_same, blkQ_exit, Wp_opThen, opQ_at, Wp_guardP, retQ_normal, retQ_ret, loopQ_normal, loopQ_exit, loopQ_ret, go_sem, entry, joinEsc, if_pos, reduceIte, Nat.reduceAdd, Nat.reduceLeDiff, Nat.reduceLT, Nat.reduceEqDiff]
  obtain ⟨A, hA⟩ : ∃ A : Blk, A = .cells [.int .i64 x, .int .i64 a, .int .i64 b, slL q ls.length c, .int .i64 s] true := ⟨_, rfl⟩
  obtain ⟨B, hB⟩ : ∃ B : Blk, B = .cells [.int .i64 z0, .int .i64 z1, .int .i64 z2] true := ⟨_, rfl⟩
  refine Wp_loop (fun k st => ∃ (n : Nat) (es : Found) (L : List Blk) (tb to len : Nat) (tc : Option Nat) (w7 w8 w9 w10 w11 w12 w13 w14 w15 w16 : AV), n + k = 2198 ∧ n ≤ es.length ∧ len = es.length - n ∧ Stage (nxP x a b s ls) [z0, z1, z2] (Good x a b ls) n es ∧ SF (H ++ [A, B]) L (H.length + 2) tb to tc es n ∧
    st = ⟨[ptV x a b (slL q ls.length c) s, spV z0 z1 z2, .ptr (some (H.length, 0)), .ptr (some (H.length + 1, 0)), .map none, .map (some (H.length + 2)), .slice (some (tb, to)) 3 len tc, w7, w8, w9, w10, w11, w12, w13, w14, w15, w16], ⟨L, none⟩⟩) ?_ 2198 _ ?_
  rotate_left
  · refine ⟨0, [([z0, z1, z2], 0)], _, H.length + 3, 0, 1, some 1, _, _, _, _, _, _, _, _, _, _, rfl, by simp, rfl, Stage.start G, ⟨⟨[.mp [([z0, z1, z2], 0)], .cells [.int .i64 z0, .int .i64 z1, .int .i64 z2] true], ?_⟩, by simp, by simp, by omega, ?_, ⟨[], rfl, ?_⟩, fun c h => by cases h; simp⟩, rfl⟩
    · rw [hA, hB]
      simp [mput]
    · rw [blkAt_newk]
      rfl
    · rw [blkAt_newk]
      rfl
  rintro k _ ⟨n, es, L, tb, to, len, tc, w7, w8, w9, w10, w11, w12, w13, w14, w15, w16, hk, hn, hlen, St, S, rfl⟩
  obtain ⟨pre, p1, p2⟩ := S.td
  have htb := S.tbl
  have hgH := gr_H S.gr
  cases hp : es[n]? with
  | none =>
    have h0 : len = 0 := by
      have := List.getElem?_eq_none_iff.mp hp
      omega
    subst h0
    have hd : decide ((0 : Int) < ((0 : Nat) : Int)) = false := by decide
    have hd' : ¬ ((0 : Int) < ((0 : Nat) : Int)) := by omega
    have hf := finish_mp hgH e (by omega) S.mp
    rw [← St.done hp] at hf
    simp (maxSteps := 2000000) +contextual only [w_i_Party_stepsFrom_2, hd, hd', hf, decide_false, Wp_some, Wp_none, Wp_ite, Wc_some, Wc_none, Wc_ite, Wp_thenRun, seqQ_normal, seqQ_exit, seqQ_ret, Wp_inBlock, blkQ_normal, blkQ_ret, blkQ_same, blkQ_exit, Wp_opThen, opQ_at, Wp_guardP, retQ_normal, retQ_ret, loopQ_normal, loopQ_exit, loopQ_ret, go_sem, entry, joinEsc, if_pos, reduceIte, Nat.reduceAdd, Nat.reduceLeDiff, Nat.reduceLT, Nat.reduceEqDiff]
  | some p =>
    obtain ⟨t, v⟩ := p
    have hnl := get_lt hp
    have hpm : (t, v) ∈ es := List.mem_of_getElem? hp
    have Gt : Good x a b ls t := St.all _ hpm
    obtain ⟨t0, t1, t2, rfl⟩ := Gt.three
    have hdr : es.drop n = ([t0, t1, t2], v) :: es.drop (n + 1) := by
      have h1 := List.drop_eq_getElem_cons hnl
      rw [List.getElem?_eq_getElem hnl] at hp
      rw [h1, Option.some.inj hp]
    rw [hdr, encF_cons] at p2
    simp only [List.map_cons, List.map_nil, List.cons_append, List.nil_append] at p2
    have hlen0 : decide ((0 : Int) < (len : Int)) = true := decide_eq_true (by omega)
    have hlen1 : (0 : Int) < (len : Int) := by omega
    have hpart : part true (pre ++ (.int .i64 t0 :: .int .i64 t1 :: .int .i64 t2 :: encF (es.drop (n + 1)))) to 3 = some (.agg [.int .i64 t0, .int .i64 t1, .int .i64 t2]) := by
      rw [part_true, ← p1, if_pos (by simp), List.drop_left]
      rfl
    have htbm := cells_more p2
    have htb0 := cellsAt_of p2
    have hA0 : ∀ G, cellsAt (L ++ G) H.length = some [.int .i64 x, .int .i64 a, .int .i64 b, slL q ls.length c, .int .i64 s] := fun G => by
      have := gr_at 0 (by simp) S.gr
      rw [Nat.add_zero] at this
      rw [hA] at this
      exact cells_more this G
    have hq0 : ∀ G, cellsAt (L ++ G) q = some (encL ls) := fun G => cells_mono (gr_cells h S.gr) G
    have hsl : slLoV 3 (.slice (some (tb, to)) 3 len tc) (.int .i64 1) = some (.slice (some (tb, to + 3)) 3 (len - 1) (tc.map (· - 1))) := by
      have := slLoV_c 3 tb to len 1 tc (by omega)
      simpa using this
    obtain ⟨cap, hmv⟩ := e_i_Party_moves (pr := pr) (e := none) (c := c) (hq0 [.cells [.int .i64 t0, .int .i64 t1, .int .i64 t2] true]) K.n3 x a b s t0 t1 t2
    simp only [List.length_append, List.append_assoc, List.cons_append, List.nil_append, List.length_cons, List.length_nil, Nat.zero_add] at hmv
    simp (maxSteps := 2000000) +contextual only [w_i_Party_stepsFrom_2, fillParts, gt_iff_lt, Int.le_refl, toNat0, Nat.zero_mul, hlen0, hlen1, htbm, htb0, hA0, hpart, aop_slLo, hsl, hmv, decide_true, Wp_some, Wp_none, Wp_ite, Wc_some, Wc_none, Wc_ite, Wp_thenRun, seqQ_normal, seqQ_exit, seqQ_ret, Wp_inBlock, blkQ_normal, blkQ_ret, blkQ_same, blkQ_exit, Wp_opThen, opQ_at, Wp_guardP, retQ_normal, retQ_ret, loopQ_normal, loopQ_exit, loopQ_ret, go_sem, entry, joinEsc, if_pos, reduceIte, Nat.reduceAdd, Nat.reduceLeDiff, Nat.reduceLT, Nat.reduceEqDiff]
    rw [show len - 1 = es.length - (n + 1) by omega]
    have hmbl := get_lt S.mp
    have htbl := get_lt p2
    have hv := St.val _ hpm
    have hle := hbox.le St.bi.nd St.all
    have hlast1 : (L ++ [Blk.cells [AV.int IntKind.i64 t0, AV.int IntKind.i64 t1, AV.int IntKind.i64 t2] true, Blk.cells (encL (mvs x a b s (putL ls [t0, t1, t2]))) true])[L.length]? = some (.cells [.int .i64 t0, .int .i64 t1, .int .i64 t2] true) := by
      rw [List.getElem?_append_right (Nat.le_refl _), Nat.sub_self]
      rfl
    have hlast2 : (L ++ [Blk.cells [AV.int IntKind.i64 t0, AV.int IntKind.i64 t1, AV.int IntKind.i64 t2] true, Blk.cells (encL (mvs x a b s (putL ls [t0, t1, t2]))) true])[L.length + 1]? = some (.cells (encL (mvs x a b s (putL ls [t0, t1, t2]))) true) := by
      rw [List.getElem?_append_right (by omega), Nat.add_sub_cancel_left]
      rfl
    refine (sf_in (Bs := H ++ [A, B]) (n := n + 1) (v := v) (es := es) (mc := cap) (L := L ++ [Blk.cells [AV.int IntKind.i64 t0, AV.int IntKind.i64 t1, AV.int IntKind.i64 t2] true, Blk.cells (encL (mvs x a b s (putL ls [t0, t1, t2]))) true]) rfl K Gt St.all St.bi.nd (mget_of_mem St.bi.nd hpm) (St.bi.par _ _ hpm).1 (by simp only at hv; omega) ⟨S.gr.more _, S.mbl, S.tbl, S.ne, get_more S.mp _, ⟨pre ++ [.int .i64 t0, .int .i64 t1, .int .i64 t2], by rw [List.length_append, p1]; rfl, by rw [List.append_assoc]; exact get_more p2 _⟩, ?_⟩ (by omega) hlast1 hlast2 (by omega) (by omega) (by omega) (by omega)).mono ?_
    · intro c hc
      obtain ⟨c', hc', rfl⟩ := Option.map_eq_some_iff.mp hc
      have := S.cap c' hc'
      omega
    rintro _ _ ⟨rfl, L', tb', to', tc', v8, v9, v10, v12, v13, v14, v15, v16, S', rfl⟩
    simp (maxSteps := 2000000) +contextual only [Wp_some, Wp_none, Wp_ite, Wc_some, Wc_none, Wc_ite, Wp_thenRun, seqQ_normal, seqQ_exit, seqQ_ret, Wp_inBlock, blkQ_normal, blkQ_ret, blkQ_same, blkQ_exit, Wp_opThen, opQ_at, Wp_guardP, retQ_normal, retQ_ret, loopQ_normal, loopQ_exit, loopQ_ret, go_sem, entry, joinEsc, if_pos, reduceIte, Nat.reduceAdd, Nat.reduceLeDiff, Nat.reduceLT, Nat.reduceEqDiff]
    have hlen' : n + 1 ≤ (bfsIn (v + 1) es (nxP x a b s ls [t0, t1, t2])).length := by
      obtain ⟨more, m1, _⟩ := bfsIn_ext (v + 1) (nxP x a b s ls [t0, t1, t2]) es St.bi.nd
      rw [m1, List.length_append]
      omega
    exact ⟨k - 1, by omega, n + 1, _, L', tb', to', _, tc', _, _, _, _, _, _, _, _, _, _, by omega, hlen', rfl, St.step hbox hN hnx hp, S', rfl⟩

end Go.Proofs.Ythkgpblohjpcdaa.Slim

/- Planks: the search in the other program. -/
namespace Go.Proofs.Ythkgpblohjpcdaa.Slim

open Go

set_option linter.unusedSimpArgs false

set_option linter.unusedVariables false

variable {pr : Prims} {H : List Blk} {e : Option Nat}

theorem keyN_le {d : Nat} (hd : d ≤ 12) {n : Nat} (hn : n ≤ 3) {z : List Int} (h : ∀ i, i < n → 0 ≤ z.getD i 0 ∧ z.getD i 0 ≤ (d : Int)) : keyN d n z ≤ 2197 := by
  have h1 := keyN_lt d n z h
  have h2 := pow_le hn hd
  omega

theorem e_s_l11Key {q d : Nat} {c : Option Nat} {ls : List Ld} (h : cellsAt H q = some (encL ls)) (hn : ls.length ≤ 3) (hd : d ≤ 12) (hpl : ∀ l ∈ ls, 0 ≤ l.1 ∧ l.1 ≤ (d : Int)) (a b s : Int) : call T pr f_s_l11Key [ptV (d : Int) a b (slL q ls.length c) s] ⟨H, e⟩ =
    some (.int .i64 ((keyN d ls.length (ls.map fun l => l.1) : Nat) : Int), ⟨H, e⟩) := by
  have hon : ∀ i, i < ls.length → 0 ≤ (ls.map fun l => l.1).getD i 0 ∧ (ls.map fun l => l.1).getD i 0 ≤ (d : Int) := by
    intro i hi
    have := hpl _ (List.getElem_mem hi)
    simpa [List.getD_eq_getElem?_getD, hi] using this
  apply Wc.eq
  rw [call_wc t_s_l11Key]
  simp (maxSteps := 2000000) +contextual only [a_s_l11Key, c_s_l11Key, fillParts, Wp_some, Wp_none, Wp_ite, Wc_some, Wc_none, Wc_ite, Wp_thenRun, seqQ_normal, seqQ_exit, seqQ_ret, Wp_inBlock, blkQ_normal, blkQ_ret, blkQ_same, blkQ_exit, Wp_opThen, opQ_at, Wp_guardP, retQ_normal, retQ_ret, loopQ_normal, loopQ_exit, loopQ_ret, go_sem, entry, joinEsc, if_pos, reduceIte, Nat.reduceAdd, Nat.reduceLeDiff, Nat.reduceLT, Nat.reduceEqDiff]
  refine Wp_loop (fun k st => ∃ (i : Nat) (w5 : AV), i + k = ls.length ∧ st = ⟨[ptV (d : Int) a b (slL q ls.length c) s, .ptr (some (H.length, 0)), .int .i64 0, .int .i64 ((keyN d i (ls.map fun l => l.1) : Nat) : Int), .int .i64 i, w5], ⟨H ++ [.cells [.int .i64 d, .int .i64 a, .int .i64 b, slL q ls.length c, .int .i64 s] true], none⟩⟩) ?_ ls.length _ ⟨0, _, by omega, rfl⟩
  rintro k _ ⟨i, w5, hi, rfl⟩
  have hq := cells_mono h [.cells [.int .i64 d, .int .i64 a, .int .i64 b, slL q ls.length c, .int .i64 s] true]
  by_cases hk : k = 0
  · have he : i = ls.length := by omega
    subst he
    simp (maxSteps := 2000000) +contextual only [w_s_l11Key_1, Nat.lt_irrefl, decide_false, Wp_some, Wp_none, Wp_ite, Wc_some, Wc_none, Wc_ite, Wp_thenRun, seqQ_normal, seqQ_exit, seqQ_ret, Wp_inBlock, blkQ_normal, blkQ_ret, blkQ_same, blkQ_exit, Wp_opThen, opQ_at, Wp_guardP, retQ_normal, retQ_ret, loopQ_normal, loopQ_exit, loopQ_ret, go_sem, entry, joinEsc, if_pos, reduceIte, Nat.reduceAdd, Nat.reduceLeDiff, Nat.reduceLT, Nat.reduceEqDiff]
  · have hil : i < ls.length := by omega
    have hl : ls[i]? = some ls[i] := List.getElem?_eq_getElem hil
    have hw := wrap_succ (show i < 9223372036854775807 by omega)
    have hwd := wrap_succ (show d < 9223372036854775807 by omega)
    have hp := hpl _ (List.getElem_mem hil)
    have hg : (ls.map fun l => l.1).getD i 0 = ls[i].1 := by simp [List.getD_eq_getElem?_getD, hil]
    have hk1 := keyN_le hd (n := i) (by omega) (z := ls.map fun l => l.1) (fun j hj => hon j (by omega))
    have hk2 := keyN_le hd (n := i + 1) (by omega) (z := ls.map fun l => l.1) (fun j hj => hon j (by omega))
    have hk3 : keyN d (i + 1) (ls.map fun l => l.1) = keyN d i (ls.map fun l => l.1) * (d + 1) + ls[i].1.toNat := by rw [keyN, hg]
    have w1 : IntKind.i64.wrap (((keyN d i (ls.map fun l => l.1) : Nat) : Int) * ((d + 1 : Nat) : Int)) = ((keyN d i (ls.map fun l => l.1) * (d + 1) : Nat) : Int) := by rw [← Int.natCast_mul]; exact wrapN (by omega)
    have w2 : IntKind.i64.wrap (((keyN d i (ls.map fun l => l.1) * (d + 1) : Nat) : Int) + ls[i].1) = ((keyN d (i + 1) (ls.map fun l => l.1) : Nat) : Int) := by
      rw [wrap64 (by omega) (by omega), hk3]
      omega
    simp (maxSteps := 2000000) +contextual only [w_s_l11Key_1, hil, hl, hq, part_encL0 _ hl, hw, hwd, w1, w2, decide_true, Wp_some, Wp_none, Wp_ite, Wc_some, Wc_none, Wc_ite, Wp_thenRun, seqQ_normal, seqQ_exit, seqQ_ret, Wp_inBlock, blkQ_normal, blkQ_ret, blkQ_same, blkQ_exit, Wp_opThen, opQ_at, Wp_guardP, retQ_normal, retQ_ret, loopQ_normal, loopQ_exit, loopQ_ret, go_sem, entry, joinEsc, if_pos, reduceIte, Nat.reduceAdd, Nat.reduceLeDiff, Nat.reduceLT, Nat.reduceEqDiff]
    exact ⟨k - 1, by omega, i + 1, _, by omega, rfl⟩

/-- the numbers of moves for all lists of places, by their numbers (see a_s_l11Spread) -/
def outF (d n : Nat) (es : Found) : List Int := (List.range ((d + 1) ^ n)).map fun k => (mget es (spotsN d n k)).getD (-1)

theorem outF_len (d n : Nat) (es : Found) : (outF d n es).length = (d + 1) ^ n := by simp [outF]

theorem outF_at {d n : Nat} (es : Found) {k : Nat} (h : k < (d + 1) ^ n) : (outF d n es)[k]? = some ((mget es (spotsN d n k)).getD (-1)) := by
  unfold outF
  rw [List.getElem?_map, List.getElem?_range h]
  rfl

theorem outF_get {d n : Nat} (hn : n ≤ 3) (es : Found) {t : List Int} (B : Box0 (d : Int) n t) : (outF d n es)[keyN d n t]? = some ((mget es t).getD (-1)) := by
  rw [outF_at es ((boxN hn).lt t B), spotsN_keyN hn B]

theorem outF_set {d n : Nat} (hn : n ≤ 3) {es : Found} {t : List Int} (B : Box0 (d : Int) n t) (v : Int) (h : mget es t = none) : (outF d n es).set (keyN d n t) v = outF d n (es ++ [(t, v)]) := by
  refine List.ext_getElem? fun k => ?_
  have hb := boxN (d := d) hn
  by_cases hk : k < (d + 1) ^ n
  · rw [List.getElem?_set, outF_at _ hk, outF_at _ hk, outF_len, mget_append]
    by_cases he : keyN d n t = k
    · subst he
      rw [if_pos rfl, if_pos hk, spotsN_keyN hn B, h]
      simp
    · rw [if_neg he]
      have hne : ¬ t = spotsN d n k := fun e => he (by rw [e]; exact keyN_spotsN hk)
      cases hg : mget es (spotsN d n k) with
      | some u => rfl
      | none => simp [hne]
  · rw [List.getElem?_eq_none (by rw [List.length_set, outF_len]; omega), List.getElem?_eq_none (by rw [outF_len]; omega)]

theorem outF_nil (d n : Nat) : outF d n [] = List.replicate ((d + 1) ^ n) (-1) := by
  unfold outF
  refine List.ext_getElem? fun k => ?_
  rw [List.getElem?_map, List.getElem?_replicate]
  by_cases hk : k < (d + 1) ^ n
  · rw [List.getElem?_range hk, if_pos hk]
    rfl
  · rw [List.getElem?_eq_none (by simp; omega), if_neg hk]
    rfl

end Go.Proofs.Ythkgpblohjpcdaa.Slim

/- Planks: the search in the other program, its loops. -/
namespace Go.Proofs.Ythkgpblohjpcdaa.Slim

open Go

set_option linter.unusedSimpArgs false

set_option linter.unusedVariables false

variable {pr : Prims} {H : List Blk} {e : Option Nat}

/-- the numbers of the lists of places that are found (see a_s_l11Spread) -/
def keyF (d n : Nat) (es : Found) : List Int := es.map fun q => ((keyN d n q.1 : Nat) : Int)

theorem keyF_append (d n : Nat) (a b : Found) : keyF d n (a ++ b) = keyF d n a ++ keyF d n b := by simp [keyF]

/-- how the other program's search lies in memory -/
structure SG (Bs L : List Blk) (d n ob lb : Nat) (lc : Option Nat) (es : Found) : Prop where
  gr : Grown Bs L
  obl : Bs.length ≤ ob
  lbl : Bs.length ≤ lb
  ne : ob ≠ lb
  out : L[ob]? = some (.cells (encI (outF d n es)) true)
  lst : L[lb]? = some (.cells (encI (keyF d n es)) true)
  cap : lc ≠ some 0

theorem putL_fst {ls : List Ld} {z : List Int} {i : Nat} (h : i < ls.length) : ((putL ls z).map fun l => l.1).getD i 0 = z.getD i 0 := by
  simp only [List.getD_eq_getElem?_getD, List.getElem?_map, putL_get ls z i h, Option.map_some, Option.getD_some]

theorem putL_on {x : Int} {ls : List Ld} {z : List Int} (B : Box0 x ls.length z) : ∀ l ∈ putL ls z, 0 ≤ l.1 ∧ l.1 ≤ x := by
  intro l hl
  obtain ⟨i, hi⟩ := List.getElem?_of_mem hl
  have hlt := get_lt hi
  rw [putL_length] at hlt
  rw [putL_get ls z i hlt] at hi
  cases hi
  exact B.on i hlt

theorem key_put {d : Nat} {ls : List Ld} (z : List Int) : keyN d ls.length ((putL ls z).map fun l => l.1) = keyN d ls.length z :=
  keyN_congr d _ _ _ (fun i hi => putL_fst hi)

/-- the moves from one list of places on -/
theorem sg_in {Bs L : List Blk} {d : Nat} {a b s v : Int} {ls : List Ld} {z : List Int} {w0 w1 w2 w4 w10 w11 w12 w13 w14 : AV} {ob lb nb qn qb n : Nat} {qc mc lc : Option Nat} {es : Found} {M : List Ld} (hM : M = mvs (d : Int) a b s (putL ls z)) (K : Plk (d : Int) a b s ls) (G : Good (d : Int) a b ls z) (hP : ∀ q ∈ es, Good (d : Int) a b ls q.1) (hd : (es.map (·.1)).Nodup) (hpos : ∀ q ∈ es, 0 ≤ q.2) (hzv : es[n]? = some (z, v)) (hv : v ≤ 100000)
    (S : SG Bs L d ls.length ob lb lc es) (hnb : L[nb]? = some (.cells [.int .i64 d, .int .i64 a, .int .i64 b, slL qn ls.length qc, .int .i64 s] true)) (hqn : L[qn]? = some (.cells (encL (putL ls z)) true)) (hqb : L[qb]? = some (.cells (encL M) true)) (d1 : nb ≠ ob) (d2 : nb ≠ lb) (d3 : qb ≠ ob) (d4 : qb ≠ lb) (d5 : qn ≠ ob) (d6 : qn ≠ lb) :
    Wp (run T pr (.loop w_s_l11Spread_2) ⟨[w0, w1, w2, .slice (some (ob, 0)) 1 ((d + 1) ^ ls.length) (some ((d + 1) ^ ls.length)), w4, slI lb es.length lc, .int .i64 n, .ptr (some (nb, 0)), slL qb M.length mc, .int .i64 0, w10, w11, w12, w13, w14], ⟨L, none⟩⟩)
      (fun ex st => ex = .exit 4 ∧ ∃ (L' : List Blk) (lb' len : Nat) (lc' : Option Nat) (v8 v9 v10 v13 v14 : AV), SG Bs L' d ls.length ob lb' lc' (bfsIn (v + 1) es (nxP (d : Int) a b s ls z)) ∧ len = (bfsIn (v + 1) es (nxP (d : Int) a b s ls z)).length ∧ st = ⟨[w0, w1, w2, .slice (some (ob, 0)) 1 ((d + 1) ^ ls.length) (some ((d + 1) ^ ls.length)), w4, slI lb' len lc', .int .i64 n, .ptr (some (nb, 0)), v8, v9, v10, w11, w12, v13, v14], ⟨L', none⟩⟩) := by
  have hn3 := K.n3
  have hd12 : d ≤ 12 := by have := K.x12; omega
  have hMn : M.length ≤ 6 := by
    rw [hM]
    exact Nat.le_trans (mvs_le (d : Int) a b s _ _ _) (by rw [putL_length]; omega)
  have hbox : Box (Good (d : Int) a b ls) ((d + 1) ^ ls.length) (keyN d ls.length) := (boxN (d := d) K.n3).sub (fun z G => G.toBox0)
  have hN := pow_le hn3 hd12
  have hts : nxP (d : Int) a b s ls z = M.map fun m => z.set m.1.toNat m.2 := by rw [hM]; rfl
  rw [hts]
  have hmem : ∀ m ∈ M, m ∈ mvs (d : Int) a b s (putL ls z) := fun m hm => hM ▸ hm
  have hgood : ∀ j (hj : j < M.length), Good (d : Int) a b ls (z.set M[j].1.toNat M[j].2) := by
    intro j hj
    refine G.next K ?_
    rw [hts]
    exact List.mem_map_of_mem (f := fun m : Ld => z.set m.1.toNat m.2) (List.getElem_mem hj)
  refine Wp_loop (fun k st => ∃ (j : Nat) (L' : List Blk) (lb' len : Nat) (lc' : Option Nat) (esj : Found) (v10 v13 v14 : AV), j + k = M.length ∧ esj = bfsIn (v + 1) es ((M.map fun m => z.set m.1.toNat m.2).take j) ∧ len = esj.length ∧ SG Bs L' d ls.length ob lb' lc' esj ∧ L'[nb]? = some (.cells [.int .i64 d, .int .i64 a, .int .i64 b, slL qn ls.length qc, .int .i64 s] true) ∧ L'[qn]? = some (.cells (encL (putL ls z)) true) ∧ L'[qb]? = some (.cells (encL M) true) ∧ nb ≠ lb' ∧ qb ≠ lb' ∧ qn ≠ lb' ∧
    st = ⟨[w0, w1, w2, .slice (some (ob, 0)) 1 ((d + 1) ^ ls.length) (some ((d + 1) ^ ls.length)), w4, slI lb' len lc', .int .i64 n, .ptr (some (nb, 0)), slL qb M.length mc, .int .i64 j, v10, w11, w12, v13, v14], ⟨L', none⟩⟩) ?_ M.length _ ?_
  rotate_left
  · exact ⟨0, L, lb, _, lc, es, w10, w13, w14, by omega, rfl, rfl, S, hnb, hqn, hqb, d2, d4, d6, rfl⟩
  rintro k _ ⟨j, L', lb', len, lc', esj, v10, v13, v14, hj, hesj, hlen, S', hnb', hqn', hqb', e2, e4, e6, rfl⟩
  by_cases hk : k = 0
  · have he : j = M.length := by omega
    subst he
    rw [List.take_of_length_le (by simp)] at hesj
    simp (maxSteps := 2000000) +contextual only [w_s_l11Spread_2, Nat.lt_irrefl, decide_false, Wp_some, Wp_none, Wp_ite, Wc_some, Wc_none, Wc_ite, Wp_thenRun, seqQ_normal, seqQ_exit, seqQ_ret, Wp_inBlock, blkQ_normal, blkQ_ret, blkQ_same, blkQ_exit, Wp_opThen, opQ_at, Wp_guardP, retQ_normal, retQ_ret, loopQ_normal, loopQ_exit, loopQ_ret, go_sem, entry, joinEsc, if_pos, reduceIte, Nat.reduceAdd, Nat.reduceLeDiff, Nat.reduceLT, Nat.reduceEqDiff]
    subst hesj
    exact ⟨_, _, _, _, _, _, _, _, _, S', hlen, rfl⟩
  · have hjl : j < M.length := by omega
    have hw := wrap_succ (show j < 9223372036854775807 by omega)
    have hl : M[j]? = some M[j] := List.getElem?_eq_getElem hjl
    obtain ⟨i, hi, hi2⟩ := mvs_range (x := (d : Int)) (a := a) (b := b) (s := s) (ls := putL ls z) (m := M[j]) (hmem _ (List.getElem_mem hjl))
    rw [putL_length] at hi2
    have hi3 : i < 3 := by omega
    have hit : M[j].1.toNat = i := by rw [hi]; exact Int.toNat_natCast i
    have hGt := hgood j hjl
    rw [hit] at hGt
    have hpart : part true (encL M) (j * 2) 2 = some (.agg [.int .i64 (i : Int), .int .i64 M[j].2]) := by
      have := part_encL hl
      rw [hi] at this
      exact this
    have hnx : (M.map fun m => z.set m.1.toNat m.2).take (j + 1) = (M.map fun m => z.set m.1.toNat m.2).take j ++ [z.set i M[j].2] := by
      rw [take_map_succ _ _ hjl, hit]
    have hsn := bfsIn_snoc (v + 1) es ((M.map fun m => z.set m.1.toNat m.2).take j) (z.set i M[j].2)
    rw [← hnx] at hsn
    obtain ⟨more, m1, m2, m3, m4⟩ := bfsIn_ext (v + 1) ((M.map fun m => z.set m.1.toNat m.2).take j) es hd
    have hPj : ∀ q ∈ bfsIn (v + 1) es ((M.map fun m => z.set m.1.toNat m.2).take j), Good (d : Int) a b ls q.1 := bfsIn_all _ _ _ hP (fun t ht => by
      obtain ⟨m, hm, rfl⟩ := List.mem_map.mp (List.mem_of_mem_take ht)
      obtain ⟨jj, hjj⟩ := List.getElem?_of_mem hm
      obtain ⟨hjl', rfl⟩ := List.getElem?_eq_some_iff.mp hjj
      exact hgood jj hjl')
    have hlenj := hbox.le m3 hPj
    have hzm : (z, v) ∈ es := List.mem_of_getElem? hzv
    have hnl := get_lt hzv
    have hv0 := hpos _ hzm
    have hposj : ∀ q ∈ bfsIn (v + 1) es ((M.map fun m => z.set m.1.toNat m.2).take j), 0 ≤ q.2 := by
      intro q hq
      rw [m1, List.mem_append] at hq
      rcases hq with hq | hq
      · exact hpos q hq
      · have := (m2 q hq).1; simp only at hv0; omega
    have hzj : mget (bfsIn (v + 1) es ((M.map fun m => z.set m.1.toNat m.2).take j)) z = some v := mget_of_mem m3 (by rw [m1]; exact List.mem_append_left _ hzm)
    have hnj : (bfsIn (v + 1) es ((M.map fun m => z.set m.1.toNat m.2).take j))[n]? = some (z, v) := by rw [m1, List.getElem?_append_left hnl]; exact hzv
    rw [← hesj] at hsn m1 m3 hPj hlenj hzj m4 hposj hnj
    have hnjl := get_lt hnj
    have hkl : n < len := by omega
    have hkat : (keyF d ls.length esj)[n]? = some ((keyN d ls.length z : Nat) : Int) := by
      unfold keyF
      rw [List.getElem?_map, hnj]
      rfl
    have ho1 := outF_get hn3 esj G.toBox0
    have ho2 := outF_get hn3 esj hGt.toBox0
    have hkz := hbox.lt z G
    have hkt := hbox.lt _ hGt
    rw [hzj] at ho1
    simp only [Option.getD_some] at ho1
    have hmvd := e_s_l11Moved (pr := pr) (H := L') (e := none) (c := qc) (ls := putL ls z) (q := qn) (cellsAt_of hqn') (by rw [putL_length]; exact hn3) (d : Int) a b s M[j].2 (i := i) (by rw [putL_length]; exact hi2)
    rw [← putL_set ls z i M[j].2 hi2 (by rw [G.len]; exact hn3)] at hmvd
    simp only [putL_length] at hmvd
    have hkey := e_s_l11Key (pr := pr) (H := L' ++ [.cells (encL (putL ls (z.set i M[j].2))) true]) (e := none) (c := none) (ls := putL ls (z.set i M[j].2)) (q := L'.length) (d := d) (by rw [cellsAt_new0]; rfl) (by rw [putL_length]; exact hn3) hd12 (putL_on hGt.toBox0) a b s
    simp only [putL_length, key_put] at hkey
    obtain ⟨kt, hkte⟩ : ∃ kt, kt = keyN d ls.length (z.set i M[j].2) := ⟨_, rfl⟩
    obtain ⟨kz, hkze⟩ : ∃ kz, kz = keyN d ls.length z := ⟨_, rfl⟩
    rw [← hkte] at hkey ho2 hkt
    rw [← hkze] at hkat ho1 hkz
    have hnbm := cells_more hnb'
    have hqbm := cells_more hqb'
    have hnb0 := cellsAt_of hnb'
    have hqb0 := cellsAt_of hqb'
    have hobm := cells_more S'.out
    have hob0 := cellsAt_of S'.out
    have hlbm := cells_more S'.lst
    have hlb0 := cellsAt_of S'.lst
    have hobl := get_lt S'.out
    have hlbl := get_lt S'.lst
    have hblk : ∀ X : List Blk, (L' ++ X)[ob]? = some (.cells (encI (outF d ls.length esj)) true) := fun X => get_more S'.out X
    have hsetm : ∀ (X : List Blk) (y : Blk), (L' ++ X).set ob y = L'.set ob y ++ X := fun X y => List.set_append_left _ _ hobl
    have hwv : IntKind.i64.wrap (v + 1) = v + 1 := wrap64 (by omega) (by omega)
    have hse := setRange_encI (X := outF d ls.length esj) (i := kt) (a := v + 1) (by rw [outF_len]; exact hkt)
    have hle : kt + 1 ≤ (encI (outF d ls.length esj)).length := by simp [encI, outF_len]; omega
    have hkt' : (kt : Int) < (((d + 1) ^ ls.length : Nat) : Int) := by omega
    have hkz' : (kz : Int) < (((d + 1) ^ ls.length : Nat) : Int) := by omega
    cases hs : mget esj (z.set i M[j].2) with
    | some u =>
      have hu : ¬ u < 0 := by
        have := hposj _ (mget_mem hs)
        simp only at this
        omega
      rw [hs] at ho2
      simp only [Option.getD_some] at ho2
      simp (maxSteps := 2000000) +contextual only [w_s_l11Spread_2, fillParts, hjl, hw, hqbm, hnbm, hnb0, hqb0, hpart, hmvd, hkey, hobm, hob0, part_encI _ ho2, hkt', hkt, hu, decide_true, decide_false, Wp_some, Wp_none, Wp_ite, Wc_some, Wc_none, Wc_ite, Wp_thenRun, seqQ_normal, seqQ_exit, seqQ_ret, Wp_inBlock, blkQ_normal, blkQ_ret, blkQ_same, blkQ_exit, Wp_opThen, opQ_at, Wp_guardP, retQ_normal, retQ_ret, loopQ_normal, loopQ_exit, loopQ_ret, go_sem, entry, joinEsc, if_pos, reduceIte, Nat.reduceAdd, Nat.reduceLeDiff, Nat.reduceLT, Nat.reduceEqDiff]
      rw [hs] at hsn
      simp only [Option.isSome_some, if_true] at hsn
      exact ⟨k - 1, by omega, j + 1, _, lb', len, lc', esj, _, _, _, by omega, hsn.symm, hlen, ⟨S'.gr.more _, S'.obl, S'.lbl, S'.ne, get_more S'.out _, get_more S'.lst _, S'.cap⟩, get_more hnb' _, get_more hqn' _, get_more hqb' _, e2, e4, e6, rfl⟩
    | none =>
      rw [hs] at ho2
      simp only [Option.getD_none] at ho2
      have hm1 : ((-1 : Int) < 0) := by omega
      simp (maxSteps := 2000000) +contextual only [w_s_l11Spread_2, fillParts, hjl, hw, hqbm, hnbm, hnb0, hqb0, hpart, hmvd, hkey, hobm, hob0, hlbm, hlb0, hblk, hsetm, hse, hle, part_encI _ ho2, part_encI _ ho1, part_encI _ hkat, hkl, hkt', hkt, hkz', hkz, hm1, hwv, decide_true, decide_false, Wp_some, Wp_none, Wp_ite, Wc_some, Wc_none, Wc_ite, Wp_thenRun, seqQ_normal, seqQ_exit, seqQ_ret, Wp_inBlock, blkQ_normal, blkQ_ret, blkQ_same, blkQ_exit, Wp_opThen, opQ_at, Wp_guardP, retQ_normal, retQ_ret, loopQ_normal, loopQ_exit, loopQ_ret, go_sem, entry, joinEsc, if_pos, reduceIte, Nat.reduceAdd, Nat.reduceLeDiff, Nat.reduceLT, Nat.reduceEqDiff]
      rw [hs] at hsn
      simp only [Option.isSome_none, Bool.false_eq_true, if_false] at hsn
      have hos := outF_set hn3 hGt.toBox0 (v + 1) hs
      rw [← hkte] at hos
      rw [hos]
      obtain ⟨L1, hL1⟩ : ∃ L1, L1 = L'.set ob (Blk.cells (encI (outF d ls.length (esj ++ [(z.set i M[j].2, v + 1)]))) true) := ⟨_, rfl⟩
      have hlen1 : L1.length = L'.length := by rw [hL1]; exact List.length_set
      simp only [← hL1]
      have h1 : L1[lb']? = some (.cells (encI (keyF d ls.length esj)) true) := by
        rw [hL1, List.getElem?_set_ne S'.ne]
        exact S'.lst
      have hkl2 : (encI (keyF d ls.length esj)).length = len * 1 := by simp [encI, keyF, hlen]
      refine wc_ap (k := 1) (new := [AV.int IntKind.i64 kt]) (get_more h1 _) (src_new _ 1 1 _ _ (L1.length + 1) (by simp +contextual only [go_sem, entry, joinEsc, if_pos, reduceIte, Nat.reduceAdd, Nat.reduceLeDiff, Nat.reduceLT, Nat.reduceEqDiff]) rfl) hkl2 rfl (by unfold maxBytes; omega) (fun hh => absurd hh S'.cap) ?_
      intro L2 g1 g2 g3 g4
      simp (maxSteps := 2000000) +contextual only [hw, Wp_some, Wp_none, Wp_ite, Wc_some, Wc_none, Wc_ite, Wp_thenRun, seqQ_normal, seqQ_exit, seqQ_ret, Wp_inBlock, blkQ_normal, blkQ_ret, blkQ_same, blkQ_exit, Wp_opThen, opQ_at, Wp_guardP, retQ_normal, retQ_ret, loopQ_normal, loopQ_exit, loopQ_ret, go_sem, entry, joinEsc, if_pos, reduceIte, Nat.reduceAdd, Nat.reduceLeDiff, Nat.reduceLT, Nat.reduceEqDiff]
      have hob3 := S'.obl
      have hlb3 := S'.lbl
      have hnbl := get_lt hnb'
      have hqnl := get_lt hqn'
      have hqbl := get_lt hqb'
      have hg1 : Grown Bs L1 := by rw [hL1]; exact S'.gr.put S'.obl _
      have ho1' : L1[ob]? = some (.cells (encI (outF d ls.length (esj ++ [(z.set i M[j].2, v + 1)]))) true) := by rw [hL1, List.getElem?_set_self hobl]
      have hn1 : L1[nb]? = some (.cells [.int .i64 d, .int .i64 a, .int .i64 b, slL qn ls.length qc, .int .i64 s] true) := by rw [hL1, List.getElem?_set_ne (fun e => d1 e.symm)]; exact hnb'
      have hqn1 : L1[qn]? = some (.cells (encL (putL ls z)) true) := by rw [hL1, List.getElem?_set_ne (fun e => d5 e.symm)]; exact hqn'
      have hq1 : L1[qb]? = some (.cells (encL M) true) := by rw [hL1, List.getElem?_set_ne (fun e => d3 e.symm)]; exact hqb'
      have hX := g4 Bs (hg1.more _) hlb3
      have q1 := (g2 ob S'.ne (by rw [List.length_append]; omega)).trans (get_more ho1' _)
      have q2 := (g2 nb e2 (by rw [List.length_append]; omega)).trans (get_more hn1 _)
      have q3 := (g2 qb e4 (by rw [List.length_append]; omega)).trans (get_more hq1 _)
      have q4 := (g2 qn e6 (by rw [List.length_append]; omega)).trans (get_more hqn1 _)
      have hgl := hX.le
      simp only [List.length_append, List.length_cons, List.length_nil, Nat.zero_add, Nat.reduceAdd] at g1 g3
      have henc : encI (keyF d ls.length (esj ++ [(z.set i M[j].2, v + 1)])) = encI (keyF d ls.length esj) ++ [AV.int IntKind.i64 kt] := by
        rw [keyF_append, encI_append]
        show _ ++ [AV.int .i64 ((keyN d ls.length (z.set i M[j].2) : Nat) : Int)] = _
        rw [← hkte]
      exact ⟨k - 1, by omega, j + 1, L2, L1.length + 2, len + 1, none, _, _, _, _, by omega, hsn.symm, by rw [List.length_append]; simp only [List.length_cons, List.length_nil]; omega,
        ⟨hX, hob3, by have := hg1.le; omega, by omega, q1, by rw [henc]; exact g3, by simp⟩, q2, q4, q3, by omega, by omega, by omega, rfl⟩

end Go.Proofs.Ythkgpblohjpcdaa.Slim

/- Planks: the search in the other program, told whole. -/
namespace Go.Proofs.Ythkgpblohjpcdaa.Slim

open Go

set_option linter.unusedSimpArgs false

set_option linter.unusedVariables false

variable {pr : Prims} {H : List Blk} {e : Option Nat}

theorem putL_putL : ∀ (ls : List Ld) (z w : List Int), putL (putL ls z) w = putL ls w
  | [], _, _ => rfl
  | l :: ls, z, w => by rw [putL, putL, putL, putL_putL ls]

theorem putL_take {ls : List Ld} {z : List Int} (h : ls.length ≤ z.length) : putL ls (z.take ls.length) = putL ls z := by
  have := putL_more ls (z.take ls.length) (z.drop ls.length) (by rw [List.length_take]; omega)
  rw [List.take_append_drop] at this
  exact this.symm

theorem zeros_int (n : Nat) : zeros n [AV.int .i64 0] = encI (List.replicate n 0) := by
  unfold zeros encI
  induction n with
  | zero => rfl
  | succ n ih => rw [List.replicate_succ, List.flatten_cons, ih, List.replicate_succ]; rfl

theorem repl_set (m k : Nat) (a b : Int) : (List.replicate m a ++ List.replicate (k + 1) b).set m a = List.replicate (m + 1) a ++ List.replicate k b := by
  rw [List.set_append_right _ _ (by simp), List.length_replicate, Nat.sub_self, List.replicate_succ, List.set_cons_zero, List.replicate_succ', List.append_assoc]
  rfl

/-- the party at the places of a number (see a_s_l11At) -/
theorem at_key {d : Nat} {a b s : Int} {ls : List Ld} (K : Plk (d : Int) a b s ls) {t : List Int} (B : Box0 (d : Int) ls.length t) (z : List Int) : putL (putL ls z) (ints (digs (d + 1) ls.length (keyN d ls.length t)).reverse) = putL ls t := by
  have h3 := K.n3
  rw [putL_putL, spots_key d _ t (by rw [B.len]; exact h3) (fun i hi => B.on i hi), putL_take (by rw [B.len]; exact h3)]

theorem e_s_l11Spread {q d : Nat} {c : Option Nat} {ls : List Ld} {a b s : Int} {z : List Int} (h : cellsAt H q = some (encL (putL ls z))) (K : Plk (d : Int) a b s ls) (G : Good (d : Int) a b ls z) : call T pr f_s_l11Spread [ptV (d : Int) a b (slL q ls.length c) s] ⟨H, e⟩ =
    some (.slice (some (H.length, 0)) 1 ((d + 1) ^ ls.length) (some ((d + 1) ^ ls.length)), ⟨H ++ [.cells (encI (outF d ls.length (bfsAll (nxP (d : Int) a b s ls) z))) true], e⟩) := by
  have hn3 := K.n3
  have hd12 : d ≤ 12 := by have := K.x12; omega
  have hbox : Box (Good (d : Int) a b ls) ((d + 1) ^ ls.length) (keyN d ls.length) := (boxN (d := d) K.n3).sub (fun z G => G.toBox0)
  have hN := pow_le hn3 hd12
  have hnx : ∀ z, Good (d : Int) a b ls z → ∀ t ∈ nxP (d : Int) a b s ls z, Good (d : Int) a b ls t := fun z hz t ht => hz.next K ht
  obtain ⟨N, hNe⟩ : ∃ N, N = (d + 1) ^ ls.length := ⟨_, rfl⟩
  obtain ⟨A, hA⟩ : ∃ A : Blk, A = .cells [.int .i64 d, .int .i64 a, .int .i64 b, slL q ls.length c, .int .i64 s] true := ⟨_, rfl⟩
  have hsz : ∀ G : List Blk, call T pr f_s_l11Size [ptV (d : Int) a b (slL q ls.length c) s] ⟨G, none⟩ = some (.int .i64 ((N : Nat) : Int), ⟨G, none⟩) := fun G => by
    rw [hNe]
    exact e_s_l11Size hn3 hd12 a b s
  have hkz0 : ∀ X : List Blk, call T pr f_s_l11Key [ptV (d : Int) a b (slL q ls.length c) s] ⟨H ++ X, none⟩ = some (.int .i64 ((keyN d ls.length z : Nat) : Int), ⟨H ++ X, none⟩) := by
    intro X
    have := e_s_l11Key (pr := pr) (H := H ++ X) (e := none) (c := c) (ls := putL ls z) (q := q) (d := d) (cells_mono h X) (by rw [putL_length]; exact hn3) hd12 (putL_on G.toBox0) a b s
    simpa only [putL_length, key_put] using this
  have hkz := hbox.lt z G
  obtain ⟨kz, hkze⟩ : ∃ kz, kz = keyN d ls.length z := ⟨_, rfl⟩
  rw [← hkze] at hkz0 hkz
  rw [← hNe] at hkz hN
  apply Wc.eq
  rw [call_wc t_s_l11Spread]
  obtain ⟨R, hR⟩ : ∃ R, R = seqTl (seqTl (seqTl c_s_l11Spread)) := ⟨_, rfl⟩
  have hc : c_s_l11Spread = .seq (seqHd c_s_l11Spread) (.seq (seqHd (seqTl c_s_l11Spread)) (.seq (seqHd (seqTl (seqTl c_s_l11Spread))) R)) := by rw [hR]; rfl
  have r : ∀ w4 w11 : AV, Wp (run T pr R ⟨[ptV (d : Int) a b (slL q ls.length c) s, .ptr (some (H.length, 0)), .slice none 0 0 none, .slice (some (H.length + 1, 0)) 1 N (some N), w4, .undef, .undef, .undef, .undef, .undef, .undef, w11, .undef, .undef, .undef], ⟨H ++ [A, .cells (encI (outF d ls.length [])) true], none⟩⟩)
      (retQ a_s_l11Spread ⟨H, e⟩ fun v' m' => v' = .slice (some (H.length, 0)) 1 ((d + 1) ^ ls.length) (some ((d + 1) ^ ls.length)) ∧ m' = ⟨H ++ [.cells (encI (outF d ls.length (bfsAll (nxP (d : Int) a b s ls) z))) true], e⟩) := by
    intro w4 w11
    have hkz' : (kz : Int) < (N : Int) := by omega
    have hse := setRange_encI (X := outF d ls.length []) (i := kz) (a := 0) (by rw [outF_len, ← hNe]; exact hkz)
    have hle : kz + 1 ≤ (encI (outF d ls.length [])).length := by simp [encI, outF_len, ← hNe]; omega
    have hos := outF_set hn3 (es := []) G.toBox0 0 rfl
    rw [← hkze, List.nil_append] at hos
    rw [hos] at hse
    have hA1 : ∀ X : List Blk, cellsAt (A :: X) 0 = some [.int .i64 d, .int .i64 a, .int .i64 b, slL q ls.length c, .int .i64 s] := fun X => by rw [hA]; rfl
    rw [hR]
    simp (maxSteps := 2000000) +contextual only [a_s_l11Spread, c_s_l11Spread, seqTl, seqHd, fillParts, hA1, hkz0, hse, hle, hkz', hkz, Wp_some, Wp_none, Wp_ite, Wc_some, Wc_none, Wc_ite, Wp_thenRun, seqQ_normal, seqQ_exit, seqQ_ret, Wp_inBlock, blkQ_normal, blkQ_ret, blkQ_same, blkQ_exit, Wp_opThen, opQ_at, Wp_guardP, retQ_normal, retQ_ret, loopQ_normal, loopQ_exit, loopQ_ret, go_sem, entry, joinEsc, if_pos, reduceIte, Nat.reduceAdd, Nat.reduceLeDiff, Nat.reduceLT, Nat.reduceEqDiff]
    refine Wp_loop (fun k st => ∃ (n : Nat) (es : Found) (L : List Blk) (lb len : Nat) (lc : Option Nat) (w7 w8 w9 w10 w12 w13 w14 : AV), n + k = 2198 ∧ n ≤ es.length ∧ len = es.length ∧ Stage (nxP (d : Int) a b s ls) z (Good (d : Int) a b ls) n es ∧ SG (H ++ [A]) L d ls.length (H.length + 1) lb lc es ∧
      st = ⟨[ptV (d : Int) a b (slL q ls.length c) s, .ptr (some (H.length, 0)), .slice none 0 0 none, .slice (some (H.length + 1, 0)) 1 N (some N), w4, slI lb len lc, .int .i64 n, w7, w8, w9, w10, w11, w12, w13, w14], ⟨L, none⟩⟩) ?_ 2198 _ ?_
    rotate_left
    · refine ⟨0, [(z, 0)], _, H.length + 2, 1, some 1, _, _, _, _, _, _, _, rfl, by simp, rfl, Stage.start G, ⟨⟨[.cells (encI (outF d ls.length [(z, 0)])) true, .cells [.int .i64 kz] true], by simp⟩, by simp, by simp, by omega, ?_, ?_, by simp⟩, rfl⟩
      · rw [blkAt_newk]
        rfl
      · rw [blkAt_newk, hkze]
        rfl
    rintro k _ ⟨n, es, L, lb, len, lc, w7, w8, w9, w10, w12, w13, w14, hk, hn, hlen, St, S, rfl⟩
    have hlb := S.lbl
    have hgH := gr_H S.gr
    cases hp : es[n]? with
    | none =>
      have h0 : n = len := by
        have := List.getElem?_eq_none_iff.mp hp
        omega
      subst h0
      have hf := finish_sl (sz := 1) (n := N) (c := some N) hgH e none rfl (by omega) S.out (under_encI _ _)
      rw [← St.done hp] at hf
      simp (maxSteps := 2000000) +contextual only [a_s_l11Spread, w_s_l11Spread_3, Nat.lt_irrefl, hf, decide_false, Wp_some, Wp_none, Wp_ite, Wc_some, Wc_none, Wc_ite, Wp_thenRun, seqQ_normal, seqQ_exit, seqQ_ret, Wp_inBlock, blkQ_normal, blkQ_ret, blkQ_same, blkQ_exit, Wp_opThen, opQ_at, Wp_guardP, retQ_normal, retQ_ret, loopQ_normal, loopQ_exit, loopQ_ret, go_sem, entry, joinEsc, if_pos, reduceIte, Nat.reduceAdd, Nat.reduceLeDiff, Nat.reduceLT, Nat.reduceEqDiff]
      rw [hNe]
    | some p =>
      obtain ⟨t, v⟩ := p
      have hnl := get_lt hp
      have hpm : (t, v) ∈ es := List.mem_of_getElem? hp
      have Gt : Good (d : Int) a b ls t := St.all _ hpm
      have hnlen : n < len := by omega
      have hw := wrap_succ (show n < 9223372036854775807 by omega)
      have hkat : (keyF d ls.length es)[n]? = some ((keyN d ls.length t : Nat) : Int) := by
        unfold keyF
        rw [List.getElem?_map, hp]
        rfl
      have hlbm := cells_more S.lst
      have hlb0 := cellsAt_of S.lst
      have hA0 : ∀ X, cellsAt (L ++ X) H.length = some [.int .i64 d, .int .i64 a, .int .i64 b, slL q ls.length c, .int .i64 s] := fun X => by
        have := gr_at 0 (by simp) S.gr
        rw [Nat.add_zero] at this
        rw [hA] at this
        exact cells_more this X
      have hAL : cellsAt L H.length = some [.int .i64 d, .int .i64 a, .int .i64 b, slL q ls.length c, .int .i64 s] := by
        have := hA0 []
        rwa [List.append_nil] at this
      have hat := e_s_l11At (pr := pr) (H := L) (e := none) (c := c) (q := q) (ls := putL ls z) (d := d) (k := keyN d ls.length t) (gr_cells h S.gr) (by rw [putL_length]; exact hn3) hd12 (by have := hbox.lt t Gt; omega) a b s
      simp only [putL_length, at_key K Gt.toBox0] at hat
      obtain ⟨cap, hmv⟩ := e_s_l11Moves (pr := pr) (H := L ++ [.cells (encL (putL ls t)) true, .cells [.int .i64 d, .int .i64 a, .int .i64 b, slL L.length ls.length none, .int .i64 s] true]) (e := none) (c := none) (q := L.length) (ls := putL ls t) (by rw [cellsAt_new0]; rfl) (by rw [putL_length]; exact hn3) (Gt.toBox0.plB (by omega)) (d : Int) a b s ⟨K.s1, K.s4⟩
      simp only [putL_length, List.length_append, List.append_assoc, List.cons_append, List.nil_append, List.length_cons, List.length_nil, Nat.zero_add, Nat.reduceAdd] at hmv
      have hu : AV.under (L.length + 1 + 1) (slL L.length ls.length none) = true := by simp [AV.under]; omega
      simp (maxSteps := 2000000) +contextual only [w_s_l11Spread_3, fillParts, hnlen, hlbm, hlb0, hA0, hAL, part_encI _ hkat, hat, hmv, hu, decide_true, Wp_some, Wp_none, Wp_ite, Wc_some, Wc_none, Wc_ite, Wp_thenRun, seqQ_normal, seqQ_exit, seqQ_ret, Wp_inBlock, blkQ_normal, blkQ_ret, blkQ_same, blkQ_exit, Wp_opThen, opQ_at, Wp_guardP, retQ_normal, retQ_ret, loopQ_normal, loopQ_exit, loopQ_ret, go_sem, entry, joinEsc, if_pos, reduceIte, Nat.reduceAdd, Nat.reduceLeDiff, Nat.reduceLT, Nat.reduceEqDiff]
      have hobl := get_lt S.out
      have hlbl := get_lt S.lst
      have hv := St.val _ hpm
      have hle := hbox.le St.bi.nd St.all
      rw [hNe, hlen]
      have hX : ∀ (B0 B1 B2 : Blk) (j : Nat), (L ++ [B0, B1, B2])[L.length + j]? = [B0, B1, B2][j]? := fun B0 B1 B2 j => by
        rw [List.getElem?_append_right (by omega), Nat.add_sub_cancel_left]
      have hX0 : ∀ (B0 B1 B2 : Blk), (L ++ [B0, B1, B2])[L.length]? = some B0 := fun B0 B1 B2 => by
        have := hX B0 B1 B2 0
        rwa [Nat.add_zero] at this
      refine (sg_in (Bs := H ++ [A]) (n := n) (v := v) (es := es) (z := t) (mc := cap) (qc := none) (nb := L.length + 1) (qn := L.length) (qb := L.length + 2) rfl K Gt St.all St.bi.nd (fun q hq => (St.bi.par q.1 q.2 hq).1) hp (by simp only at hv; omega) ⟨S.gr.more _, S.obl, S.lbl, S.ne, get_more S.out _, get_more S.lst _, S.cap⟩ (hX _ _ _ 1) (hX0 _ _ _) (hX _ _ _ 2) (by omega) (by omega) (by omega) (by omega) (by omega) (by omega)).mono ?_
      rintro _ _ ⟨rfl, L', lb', len', lc', v8, v9, v10, v13, v14, S', hlen', rfl⟩
      simp (maxSteps := 2000000) +contextual only [hw, Wp_some, Wp_none, Wp_ite, Wc_some, Wc_none, Wc_ite, Wp_thenRun, seqQ_normal, seqQ_exit, seqQ_ret, Wp_inBlock, blkQ_normal, blkQ_ret, blkQ_same, blkQ_exit, Wp_opThen, opQ_at, Wp_guardP, retQ_normal, retQ_ret, loopQ_normal, loopQ_exit, loopQ_ret, go_sem, entry, joinEsc, if_pos, reduceIte, Nat.reduceAdd, Nat.reduceLeDiff, Nat.reduceLT, Nat.reduceEqDiff]
      have hlen2 : n + 1 ≤ (bfsIn (v + 1) es (nxP (d : Int) a b s ls t)).length := by
        obtain ⟨more, m1, _⟩ := bfsIn_ext (v + 1) (nxP (d : Int) a b s ls t) es St.bi.nd
        rw [m1, List.length_append]
        omega
      exact ⟨k - 1, by omega, n + 1, _, L', lb', len', lc', _, _, _, _, _, _, _, by omega, hlen2, hlen', St.step hbox (by omega) hnx hp, S', rfl⟩
  show Wp (run T pr c_s_l11Spread _) _
  rw [hc]
  have hNb : (N : Int) * 8 ≤ (maxBytes : Int) := by unfold maxBytes; omega
  simp (maxSteps := 2000000) +contextual only [a_s_l11Spread, c_s_l11Spread, seqTl, seqHd, fillParts, hsz, Int.toNat_natCast, zeros_int, hNb, Wp_some, Wp_none, Wp_ite, Wc_some, Wc_none, Wc_ite, Wp_thenRun, seqQ_normal, seqQ_exit, seqQ_ret, Wp_inBlock, blkQ_normal, blkQ_ret, blkQ_same, blkQ_exit, Wp_opThen, opQ_at, Wp_guardP, retQ_normal, retQ_ret, loopQ_normal, loopQ_exit, loopQ_ret, go_sem, entry, joinEsc, if_pos, reduceIte, Nat.reduceAdd, Nat.reduceLeDiff, Nat.reduceLT, Nat.reduceEqDiff]
  refine ⟨fun _ => ?_, fun h => absurd (by unfold maxBytes; omega) h⟩
  rw [← hA]
  refine Wp_loop (fun k st => ∃ (i : Nat) (w11 : AV), i + k = N ∧ st = ⟨[ptV (d : Int) a b (slL q ls.length c) s, .ptr (some (H.length, 0)), .slice none 0 0 none, .slice (some (H.length + 1, 0)) 1 N (some N), .int .i64 i, .undef, .undef, .undef, .undef, .undef, .undef, w11, .undef, .undef, .undef], ⟨H ++ [A, .cells (encI (List.replicate i (-1) ++ List.replicate k 0)) true], none⟩⟩) ?_ N _ ⟨0, _, by omega, rfl⟩
  rintro k _ ⟨i, w11, hi, rfl⟩
  cases k with
  | zero =>
    have he : i = N := by omega
    subst he
    have := r (.int .i64 i) (.bool false)
    rw [outF_nil, ← hNe] at this
    simp (maxSteps := 2000000) +contextual only [w_s_l11Spread_1, Nat.lt_irrefl, List.replicate_zero, decide_false, Wp_some, Wp_none, Wp_ite, Wc_some, Wc_none, Wc_ite, Wp_thenRun, seqQ_normal, seqQ_exit, seqQ_ret, Wp_inBlock, blkQ_normal, blkQ_ret, blkQ_same, blkQ_exit, Wp_opThen, opQ_at, Wp_guardP, retQ_normal, retQ_ret, loopQ_normal, loopQ_exit, loopQ_ret, go_sem, entry, joinEsc, if_pos, reduceIte, Nat.reduceAdd, Nat.reduceLeDiff, Nat.reduceLT, Nat.reduceEqDiff]
    rw [← hNe]
    exact this
  | succ k =>
    have hil : i < N := by omega
    have hw := wrap_succ (show i < 9223372036854775807 by omega)
    have hse := setRange_encI (X := List.replicate i (-1) ++ List.replicate (k + 1) (0 : Int)) (i := i) (a := -1) (by simp)
    rw [repl_set] at hse
    have hle : i + 1 ≤ (encI (List.replicate i (-1) ++ List.replicate (k + 1) (0 : Int))).length := by simp [encI]
    simp (maxSteps := 2000000) +contextual only [w_s_l11Spread_1, hil, hw, hse, hle, decide_true, Wp_some, Wp_none, Wp_ite, Wc_some, Wc_none, Wc_ite, Wp_thenRun, seqQ_normal, seqQ_exit, seqQ_ret, Wp_inBlock, blkQ_normal, blkQ_ret, blkQ_same, blkQ_exit, Wp_opThen, opQ_at, Wp_guardP, retQ_normal, retQ_ret, loopQ_normal, loopQ_exit, loopQ_ret, go_sem, entry, joinEsc, if_pos, reduceIte, Nat.reduceAdd, Nat.reduceLeDiff, Nat.reduceLT, Nat.reduceEqDiff]
    exact ⟨k, by omega, i + 1, _, by omega, rfl⟩

end Go.Proofs.Ythkgpblohjpcdaa.Slim

/- Planks: how many lists of places can be reached; the law. -/
namespace Go.Proofs.Ythkgpblohjpcdaa.Slim

open Go

set_option linter.unusedSimpArgs false

set_option linter.unusedVariables false

variable {pr : Prims} {H : List Blk} {e : Option Nat}

/-- the people of a valid party rest where they are -/
theorem good_spots {x a b s : Int} {ls : List Ld} (h : partyOk x a b ls s = true) : Good x a b ls (spots ls) := by
  have K := plk_of h
  have h0 := h
  unfold partyOk onOk rowOk at h
  simp only [Bool.and_eq_true, decide_eq_true_eq, List.all_eq_true, Bool.not_eq_true', List.any_eq_false] at h
  obtain ⟨⟨⟨h1, h2⟩, h3⟩, h4, ⟨h5, h6⟩, h7, h8, h9⟩ := h
  have hget : ∀ i, i < ls.length → (spots ls).getD i 0 = (ls[i]?.getD (0, 0)).1 := by
    intro i hi
    unfold spots
    rw [getD_app_left (by simpa using hi)]
    simp [List.getD_eq_getElem?_getD, hi]
  refine ⟨⟨spots_length K.n3, fun i hi => ?_, fun i hi => ?_⟩, ?_⟩
  · rw [hget i hi, List.getElem?_eq_getElem hi]
    have hm := List.getElem_mem hi
    have g1 := h2.2 _ hm
    have g2 := h3 _ hm
    unfold okL at g1
    simp only [Bool.and_eq_true, decide_eq_true_eq] at g1
    simp only [Option.getD_some]
    omega
  · unfold spots
    simp only [List.getD_eq_getElem?_getD]
    rw [List.getElem?_append_right (by simpa using hi)]
    have : ∀ j k : Nat, (([0, 0, 0] : List Int).drop k).getD j 0 = 0 := by
      intro j k
      simp only [List.getD_eq_getElem?_getD, List.getElem?_drop]
      match k + j with
      | 0 => rfl
      | 1 => rfl
      | 2 => rfl
      | n + 3 => rfl
    have := this (i - (ls.map fun l => l.1).length) ls.length
    simpa [List.getD_eq_getElem?_getD] using this
  · have : putL ls (spots ls) = ls := putL_self ls _
    rw [this]
    exact h7

/-- what the search of a party comes to (see a_i_CountPlaces) -/
def foundP (x a b s : Int) (ls : List Ld) : Found := bfsAll (nxP x a b s ls) (spots ls)

theorem foundP_told {x a b s : Int} {ls : List Ld} (h : partyOk x a b ls s = true) : BTold (nxP x a b s ls) (spots ls) (foundP x a b s ls) ∧ ∀ q ∈ foundP x a b s ls, Good x a b ls q.1 := by
  have K := plk_of h
  obtain ⟨hb, hN⟩ := K.box
  exact bfs_told hb hN (fun z hz t ht => hz.next K ht) (good_spots h)

theorem spots_self {ls : List Ld} : putL ls (spots ls) = ls := putL_self ls _

/-- the number of lists of places to which a party can come -/
def cntP (x a b s : Int) (ls : List Ld) : Int := if partyOk x a b ls s = true then ((foundP x a b s ls).length : Int) else 0

theorem e_i_CountPlaces {q : Nat} {c : Option Nat} {ls : List Ld} (h : cellsAt H q = some (encL ls)) (hn : ls.length ≤ 9223372036854775806) (x a b s : Int) : call T pr f_i_CountPlaces [ptV x a b (slL q ls.length c) s] ⟨H, e⟩ =
    some (.tup [.int .i64 (cntP x a b s ls), .bool (partyOk x a b ls s)], ⟨H, e⟩) := by
  rw [call_eq t_i_CountPlaces]
  unfold cntP
  cases h1 : partyOk x a b ls s with
  | false => simp +contextual only [a_i_CountPlaces, c_i_CountPlaces, e_i_IsParty (cells_mono h _) hn, h1, Bool.false_eq_true, if_false, go_sem, entry, joinEsc, if_pos, reduceIte, Nat.reduceAdd, Nat.reduceLeDiff, Nat.reduceLT, Nat.reduceEqDiff]
  | true =>
    have K := plk_of h1
    have G := good_spots h1
    obtain ⟨z0, z1, z2, hz⟩ := G.three
    have hsp := fun X => e_i_Party_spots (pr := pr) (e := none) (c := c) (cells_mono h X) K.n3 x a b s hz
    have hst := fun X => e_i_Party_stepsFrom (pr := pr) (e := none) (c := c) (cells_mono h X) K (hz ▸ G)
    rw [← hz] at hst
    simp +contextual only [a_i_CountPlaces, c_i_CountPlaces, e_i_IsParty (cells_mono h _) hn, h1, hsp, hst, foundP, if_true, go_sem, entry, joinEsc, if_pos, reduceIte, Nat.reduceAdd, Nat.reduceLeDiff, Nat.reduceLT, Nat.reduceEqDiff]

theorem e_s_CountPlaces {q : Nat} {c : Option Nat} {ls : List Ld} (h : cellsAt H q = some (encL ls)) (hn : ls.length ≤ 9223372036854775806) (x a b s : Int) : call T pr f_s_CountPlaces [ptV x a b (slL q ls.length c) s] ⟨H, e⟩ =
    some (.tup [.int .i64 (cntP x a b s ls), .bool (partyOk x a b ls s)], ⟨H, e⟩) := by
  apply Wc.eq
  rw [call_wc t_s_CountPlaces]
  unfold cntP
  cases h1 : partyOk x a b ls s with
  | false => simp +contextual only [a_s_CountPlaces, c_s_CountPlaces, e_s_l11Party (cells_mono h _) hn, h1, Bool.false_eq_true, if_false, Wp_some, Wp_none, Wp_ite, Wc_some, Wc_none, Wc_ite, Wp_thenRun, seqQ_normal, seqQ_exit, seqQ_ret, Wp_inBlock, blkQ_normal, blkQ_ret, blkQ_same, blkQ_exit, Wp_opThen, opQ_at, Wp_guardP, retQ_normal, retQ_ret, loopQ_normal, loopQ_exit, loopQ_ret, go_sem, entry, joinEsc, if_pos, reduceIte, Nat.reduceAdd, Nat.reduceLeDiff, Nat.reduceLT, Nat.reduceEqDiff]
  | true =>
    have K := plk_of h1
    have G := good_spots h1
    obtain ⟨T1, hP⟩ := foundP_told h1
    obtain ⟨d, rfl⟩ : ∃ d : Nat, x = d := ⟨x.toNat, by have := K.x1; omega⟩
    have hd12 : d ≤ 12 := by have := K.x12; omega
    have hN := pow_le K.n3 hd12
    have hcnt := cnt_found K.n3 T1.nd (fun q hq => (hP q hq).toBox0)
    obtain ⟨N, hNe⟩ : ∃ N, N = (d + 1) ^ ls.length := ⟨_, rfl⟩
    obtain ⟨A, hA⟩ : ∃ A : Blk, A = .cells [.int .i64 d, .int .i64 a, .int .i64 b, slL q ls.length c, .int .i64 s] true := ⟨_, rfl⟩
    have hsp := fun X => e_s_l11Spread (pr := pr) (e := none) (c := c) (ls := ls) (z := spots ls) (cells_mono (by rw [spots_self]; exact h) X) K G
    rw [← hNe] at hsp hN hcnt
    obtain ⟨es, hes⟩ : ∃ es, es = foundP (d : Int) a b s ls := ⟨_, rfl⟩
    have hes' : bfsAll (nxP (d : Int) a b s ls) (spots ls) = es := hes.symm
    rw [hes'] at hsp
    rw [← hes] at hcnt T1 hP ⊢
    simp (maxSteps := 2000000) +contextual only [a_s_CountPlaces, c_s_CountPlaces, e_s_l11Party (cells_mono h _) hn, h1, hsp, if_true, Wp_some, Wp_none, Wp_ite, Wc_some, Wc_none, Wc_ite, Wp_thenRun, seqQ_normal, seqQ_exit, seqQ_ret, Wp_inBlock, blkQ_normal, blkQ_ret, blkQ_same, blkQ_exit, Wp_opThen, opQ_at, Wp_guardP, retQ_normal, retQ_ret, loopQ_normal, loopQ_exit, loopQ_ret, go_sem, entry, joinEsc, if_pos, reduceIte, Nat.reduceAdd, Nat.reduceLeDiff, Nat.reduceLT, Nat.reduceEqDiff]
    refine Wp_loop (fun k st => ∃ (i : Nat) (w8 w9 : AV), i + k = N ∧ st = ⟨[ptV (d : Int) a b (slL q ls.length c) s, .ptr (some (H.length, 0)), .int .i64 0, .bool false, .int .i64 (sumN i (fun k => (mget es (spotsN d ls.length k)).isSome.toNat) : Nat), .slice (some (H.length + 1, 0)) 1 N (some N), .int .i64 i, .bool false, w8, w9], ⟨H ++ [A, .cells (encI (outF d ls.length es)) true], none⟩⟩) ?_ N _ ⟨0, _, _, by omega, by rw [hA]; rfl⟩
    rintro k _ ⟨i, w8, w9, hi, rfl⟩
    by_cases hk : k = 0
    · have he : i = N := by omega
      subst he
      simp (maxSteps := 2000000) +contextual only [w_s_CountPlaces_1, Nat.lt_irrefl, hcnt, decide_false, Wp_some, Wp_none, Wp_ite, Wc_some, Wc_none, Wc_ite, Wp_thenRun, seqQ_normal, seqQ_exit, seqQ_ret, Wp_inBlock, blkQ_normal, blkQ_ret, blkQ_same, blkQ_exit, Wp_opThen, opQ_at, Wp_guardP, retQ_normal, retQ_ret, loopQ_normal, loopQ_exit, loopQ_ret, go_sem, entry, joinEsc, if_pos, reduceIte, Nat.reduceAdd, Nat.reduceLeDiff, Nat.reduceLT, Nat.reduceEqDiff]
    · have hil : i < N := by omega
      have hw := wrap_succ (show i < 9223372036854775807 by omega)
      have hat := outF_at (d := d) (n := ls.length) es (k := i) (by omega)
      have hsum := sumN_le (f := fun k => (mget es (spotsN d ls.length k)).isSome.toNat) (fun i => toNat_le _) i
      have hw2 := wrap_succ (show sumN i (fun k => (mget es (spotsN d ls.length k)).isSome.toNat) < 9223372036854775807 by omega)
      have hsn : sumN (i + 1) (fun k => (mget es (spotsN d ls.length k)).isSome.toNat) = sumN i (fun k => (mget es (spotsN d ls.length k)).isSome.toNat) + (mget es (spotsN d ls.length i)).isSome.toNat := rfl
      cases hg : mget es (spotsN d ls.length i) with
      | none =>
        rw [hg] at hat hsn
        simp only [Option.getD_none, Option.isSome_none, Bool.toNat_false, Nat.add_zero] at hat hsn
        have hm1 : ¬ ((0 : Int) ≤ -1) := by omega
        simp (maxSteps := 2000000) +contextual only [w_s_CountPlaces_1, hil, hw, part_encI _ hat, hm1, decide_true, decide_false, Wp_some, Wp_none, Wp_ite, Wc_some, Wc_none, Wc_ite, Wp_thenRun, seqQ_normal, seqQ_exit, seqQ_ret, Wp_inBlock, blkQ_normal, blkQ_ret, blkQ_same, blkQ_exit, Wp_opThen, opQ_at, Wp_guardP, retQ_normal, retQ_ret, loopQ_normal, loopQ_exit, loopQ_ret, go_sem, entry, joinEsc, if_pos, reduceIte, Nat.reduceAdd, Nat.reduceLeDiff, Nat.reduceLT, Nat.reduceEqDiff]
        exact ⟨k - 1, by omega, i + 1, _, _, by omega, by rw [hsn]⟩
      | some v =>
        have hv := (T1.par _ _ hg).1
        rw [hg] at hat hsn
        simp only [Option.getD_some, Option.isSome_some, Bool.toNat_true] at hat hsn
        simp (maxSteps := 2000000) +contextual only [w_s_CountPlaces_1, hil, hw, hw2, part_encI _ hat, hv, decide_true, Wp_some, Wp_none, Wp_ite, Wc_some, Wc_none, Wc_ite, Wp_thenRun, seqQ_normal, seqQ_exit, seqQ_ret, Wp_inBlock, blkQ_normal, blkQ_ret, blkQ_same, blkQ_exit, Wp_opThen, opQ_at, Wp_guardP, retQ_normal, retQ_ret, loopQ_normal, loopQ_exit, loopQ_ret, go_sem, entry, joinEsc, if_pos, reduceIte, Nat.reduceAdd, Nat.reduceLeDiff, Nat.reduceLT, Nat.reduceEqDiff]
        exact ⟨k - 1, by omega, i + 1, _, _, by omega, by rw [hsn]⟩

end Go.Proofs.Ythkgpblohjpcdaa.Slim

/- Stands: what is drawn. -/
namespace Go.Proofs.Ythkgpblohjpcdaa.Slim

open Go

set_option linter.unusedSimpArgs false

set_option linter.unusedVariables false

variable {pr : Prims} {H : List Blk} {e : Option Nat}

end Go.Proofs.Ythkgpblohjpcdaa.Slim

/- Rafts: how ways are counted, told plainly. -/
namespace Go.Proofs.Ythkgpblohjpcdaa.Slim

open Go

set_option linter.unusedSimpArgs false

set_option linter.unusedVariables false

section
variable {safe : Nat → Bool} {n : Nat} {W : List Int}

end

end Go.Proofs.Ythkgpblohjpcdaa.Slim

/- Rafts: steps of one or two items, told plainly. -/
namespace Go.Proofs.Ythkgpblohjpcdaa.Slim

open Go

set_option linter.unusedSimpArgs false

set_option linter.unusedVariables false

end Go.Proofs.Ythkgpblohjpcdaa.Slim

/- Rafts: steps of one or two items, on both sides. -/
namespace Go.Proofs.Ythkgpblohjpcdaa.Slim

open Go

set_option linter.unusedSimpArgs false

set_option linter.unusedVariables false

variable {pr : Prims} {H : List Blk} {e : Option Nat}

end Go.Proofs.Ythkgpblohjpcdaa.Slim

/- Planks: a list of places in both programs; the least number of moves to it. -/
namespace Go.Proofs.Ythkgpblohjpcdaa.Slim

open Go

set_option linter.unusedSimpArgs false

set_option linter.unusedVariables false

variable {pr : Prims} {H : List Blk} {e : Option Nat}

/-- a list of places, as far as it is read -/
def padT (ps : List Int) (i : Nat) : List Int := ps.take i ++ [0, 0, 0].drop i

theorem padT_set {ps : List Int} {i : Nat} (hi : i < ps.length) (hl : ps.length ≤ 3) : (padT ps i).set i (ps[i]?.getD 0) = padT ps (i + 1) := by
  match ps, i, hi, hl with
  | [], _, h, _ => simp at h
  | [a], 0, _, _ => rfl
  | [a, b], 0, _, _ => rfl
  | [a, b], 1, _, _ => rfl
  | [a, b, c], 0, _, _ => rfl
  | [a, b, c], 1, _, _ => rfl
  | [a, b, c], 2, _, _ => rfl
  | [a], i + 1, h, _ => simp at h
  | [a, b], i + 2, h, _ => simp at h; omega
  | [a, b, c], i + 3, h, _ => simp at h; omega
  | a :: b :: c :: d :: l, _, _, h => simp at h

theorem padT_length {ps : List Int} {i : Nat} (hi : i ≤ ps.length) (hl : ps.length ≤ 3) : (padT ps i).length = 3 := by
  unfold padT
  rw [List.length_append, List.length_take, List.length_drop]
  simp only [List.length_cons, List.length_nil]
  omega

/-- the places asked for -/
def goalT (ps : List Int) : List Int := padT ps ps.length

/-- they are places on the plank, one for each -/
def plcOk (x : Int) (n : Nat) (ps : List Int) : Bool := decide (ps.length = n) && ps.all fun p => decide (0 ≤ p) && decide (p ≤ x)

theorem plc_box {x : Int} {n : Nat} {ps : List Int} (hn : n ≤ 3) (h : plcOk x n ps = true) : Box0 x n (goalT ps) := by
  unfold plcOk at h
  simp only [Bool.and_eq_true, decide_eq_true_eq, List.all_eq_true] at h
  obtain ⟨h1, h2⟩ := h
  refine ⟨padT_length (Nat.le_refl _) (by omega), fun i hi => ?_, fun i hi => ?_⟩
  · have hi' : i < ps.length := by omega
    have e1 : (goalT ps).getD i 0 = ps[i] := by
      unfold goalT padT
      rw [List.take_length, getD_app_left hi']
      simp [List.getD_eq_getElem?_getD, hi']
    rw [e1]
    exact h2 _ (List.getElem_mem hi')
  · unfold goalT padT
    rw [List.take_length]
    simp only [List.getD_eq_getElem?_getD]
    rw [List.getElem?_append_right (by omega), List.getElem?_drop]
    match ps.length + (i - ps.length) with
    | 0 => rfl
    | 1 => rfl
    | 2 => rfl
    | k + 3 => rfl

theorem keyN_zero (d : Nat) : ∀ n, n ≤ 3 → keyN d n [0, 0, 0] = 0
  | 0, _ => rfl
  | n + 1, h => by
    rw [keyN, keyN_zero d n (by omega)]
    match n, h with
    | 0, _ => simp
    | 1, _ => simp
    | 2, _ => simp

theorem box_zero {d n : Nat} : Box0 (d : Int) n [0, 0, 0] := by
  have h : ∀ i, ([0, 0, 0] : List Int).getD i 0 = 0 := by
    intro i
    match i with
    | 0 => rfl
    | 1 => rfl
    | 2 => rfl
    | k + 3 => rfl
  exact ⟨rfl, fun i _ => by rw [h]; omega, fun i _ => h i⟩

/-- the program's list of places -/
theorem wc_i_spotsOf {q qp : Nat} {c cp : Option Nat} {ls : List Ld} {ps : List Int} {x a b s : Int} {V : AV} (h : cellsAt H q = some (encL ls)) (hn : ls.length ≤ 9223372036854775806) (hp : cellsAt H qp = some (encI ps))
    (hV : V = if (partyOk x a b ls s && plcOk x ls.length ps) = true then .tup [.agg ((goalT ps).map (AV.int .i64)), .bool true] else .tup [spV 0 0 0, .bool false]) : Wc (call T pr f_i_Party_spotsOf [ptV x a b (slL q ls.length c) s, slI qp ps.length cp] ⟨H, e⟩) (fun v m => v = V ∧ m = ⟨H, e⟩) := by
  rw [call_wc t_i_Party_spotsOf]
  cases h1 : partyOk x a b ls s with
  | false =>
    rw [h1] at hV
    simp only [Bool.false_and, Bool.false_eq_true, if_false] at hV
    rw [hV]
    simp +contextual only [a_i_Party_spotsOf, c_i_Party_spotsOf, fillParts, e_i_IsParty (cells_mono h _) hn, h1, Bool.false_eq_true, if_false, Wp_some, Wp_none, Wp_ite, Wc_some, Wc_none, Wc_ite, Wp_thenRun, seqQ_normal, seqQ_exit, seqQ_ret, Wp_inBlock, blkQ_normal, blkQ_ret, blkQ_same, blkQ_exit, Wp_opThen, opQ_at, Wp_guardP, retQ_normal, retQ_ret, loopQ_normal, loopQ_exit, loopQ_ret, go_sem, entry, joinEsc, if_pos, reduceIte, Nat.reduceAdd, Nat.reduceLeDiff, Nat.reduceLT, Nat.reduceEqDiff]
  | true =>
    have K := plk_of h1
    have hn3 := K.n3
    by_cases hne : ps.length = ls.length
    · have hne' : ((ps.length : Int) = (ls.length : Int)) := by omega
      simp (maxSteps := 2000000) +contextual only [a_i_Party_spotsOf, c_i_Party_spotsOf, fillParts, e_i_IsParty (cells_mono h _) hn, h1, hne, hne', decide_true, decide_false, ne_eq, not_true_eq_false, Wp_some, Wp_none, Wp_ite, Wc_some, Wc_none, Wc_ite, Wp_thenRun, seqQ_normal, seqQ_exit, seqQ_ret, Wp_inBlock, blkQ_normal, blkQ_ret, blkQ_same, blkQ_exit, Wp_opThen, opQ_at, Wp_guardP, retQ_normal, retQ_ret, loopQ_normal, loopQ_exit, loopQ_ret, go_sem, entry, joinEsc, if_pos, reduceIte, Nat.reduceAdd, Nat.reduceLeDiff, Nat.reduceLT, Nat.reduceEqDiff]
      refine Wp_loop (fun k st => ∃ (i : Nat) (w6 w7 w12 w13 : AV), i + k = ls.length ∧ (∀ j, j < i → 0 ≤ ps[j]?.getD 0 ∧ ps[j]?.getD 0 ≤ x) ∧ st = ⟨[ptV x a b (slL q ls.length c) s, slI qp ls.length cp, .ptr (some (H.length, 0)), .ptr (some (H.length + 1, 0)), .bool false, .ptr (some (H.length + 2, 0)), w6, w7, .bool false, slI qp ls.length cp, .int .i64 ls.length, .int .i64 i, w12, w13], ⟨H ++ [.cells [.int .i64 x, .int .i64 a, .int .i64 b, slL q ls.length c, .int .i64 s] true, .cells (encI [0, 0, 0]) true, .cells (encI (padT ps i)) true], none⟩⟩) ?_ ls.length _ ?_
      rotate_left
      · exact ⟨0, _, _, _, _, by omega, fun j hj => absurd hj (Nat.not_lt_zero j), rfl⟩
      rintro k _ ⟨i, w6, w7, w12, w13, hi, hall, rfl⟩
      by_cases hk : k = 0
      · have he : i = ls.length := by omega
        subst he
        have h2 : plcOk x ls.length ps = true := by
          unfold plcOk
          simp only [Bool.and_eq_true, decide_eq_true_eq, List.all_eq_true]
          refine ⟨hne, fun p hp => ?_⟩
          obtain ⟨j, hj⟩ := List.getElem?_of_mem hp
          have := hall j (by have := get_lt hj; omega)
          rw [hj] at this
          exact this
        rw [h1, h2] at hV
        simp only [Bool.and_true, if_true] at hV
        obtain ⟨g0, g1, g2, hg⟩ := Slim.three (plc_box hn3 h2).len
        rw [hg] at hV
        rw [hV]
        have hg' : padT ps ls.length = [g0, g1, g2] := by rw [← hne]; exact hg
        rw [hg']
        simp (maxSteps := 2000000) +contextual only [w_i_Party_spotsOf_1, a_i_Party_spotsOf, encI, List.map_cons, List.map_nil, fillParts, Nat.lt_irrefl, decide_false, Wp_some, Wp_none, Wp_ite, Wc_some, Wc_none, Wc_ite, Wp_thenRun, seqQ_normal, seqQ_exit, seqQ_ret, Wp_inBlock, blkQ_normal, blkQ_ret, blkQ_same, blkQ_exit, Wp_opThen, opQ_at, Wp_guardP, retQ_normal, retQ_ret, loopQ_normal, loopQ_exit, loopQ_ret, go_sem, entry, joinEsc, if_pos, reduceIte, Nat.reduceAdd, Nat.reduceLeDiff, Nat.reduceLT, Nat.reduceEqDiff]
      · have hil : i < ls.length := by omega
        have hil' : i < ps.length := by omega
        have hl : ps[i]? = some ps[i] := List.getElem?_eq_getElem hil'
        have hw := wrap_succ (show i < 9223372036854775807 by omega)
        have hi3 : i < 3 := by omega
        have hi3' : (i : Int) < 3 := by omega
        have hse := setRange_encI (X := padT ps i) (i := i) (a := ps[i]) (by rw [padT_length (by omega) (by omega)]; exact hi3)
        have hps := padT_set hil' (by omega)
        rw [hl] at hps
        simp only [Option.getD_some] at hps
        rw [hps] at hse
        have hle : i + 1 ≤ (encI (padT ps i)).length := by
          have := padT_length (ps := ps) (i := i) (by omega) (by omega)
          simp only [encI, List.length_map]
          omega
        cases hin : (decide (0 ≤ ps[i]) && decide (ps[i] ≤ x)) with
        | false =>
          have h2 : plcOk x ls.length ps = false := by
            unfold plcOk
            have : (ps.all fun p => decide (0 ≤ p) && decide (p ≤ x)) = false := by
              rw [List.all_eq_false]
              exact ⟨ps[i], List.getElem_mem hil', by rw [hin]; simp⟩
            rw [this, Bool.and_false]
          rw [h1, h2] at hV
          simp only [Bool.and_false, Bool.false_eq_true, if_false] at hV
          rw [hV]
          simp (maxSteps := 2000000) +contextual only [w_i_Party_spotsOf_1, a_i_Party_spotsOf, e_i_within, hin, cells_mono hp, part_encI _ hl, hil, hil', hi3, hi3', fillParts, decide_true, decide_false, Wp_some, Wp_none, Wp_ite, Wc_some, Wc_none, Wc_ite, Wp_thenRun, seqQ_normal, seqQ_exit, seqQ_ret, Wp_inBlock, blkQ_normal, blkQ_ret, blkQ_same, blkQ_exit, Wp_opThen, opQ_at, Wp_guardP, retQ_normal, retQ_ret, loopQ_normal, loopQ_exit, loopQ_ret, go_sem, entry, joinEsc, if_pos, reduceIte, Nat.reduceAdd, Nat.reduceLeDiff, Nat.reduceLT, Nat.reduceEqDiff]
        | true =>
          simp (maxSteps := 2000000) +contextual only [w_i_Party_spotsOf_1, a_i_Party_spotsOf, e_i_within, hin, cells_mono hp, part_encI _ hl, hil, hil', hi3, hi3', hse, hle, hw, fillParts, decide_true, decide_false, Wp_some, Wp_none, Wp_ite, Wc_some, Wc_none, Wc_ite, Wp_thenRun, seqQ_normal, seqQ_exit, seqQ_ret, Wp_inBlock, blkQ_normal, blkQ_ret, blkQ_same, blkQ_exit, Wp_opThen, opQ_at, Wp_guardP, retQ_normal, retQ_ret, loopQ_normal, loopQ_exit, loopQ_ret, go_sem, entry, joinEsc, if_pos, reduceIte, Nat.reduceAdd, Nat.reduceLeDiff, Nat.reduceLT, Nat.reduceEqDiff]
          refine ⟨k - 1, by omega, i + 1, _, _, _, _, by omega, fun j hj => ?_, rfl⟩
          by_cases hji : j = i
          · subst hji
            rw [hl]
            simpa using hin
          · exact hall j (by omega)
    · have hne' : ¬ ((ps.length : Int) = (ls.length : Int)) := by omega
      rw [h1] at hV
      have h2 : plcOk x ls.length ps = false := by unfold plcOk; rw [decide_eq_false hne]; rfl
      rw [h2] at hV
      simp only [Bool.and_false, Bool.false_eq_true, if_false] at hV
      rw [hV]
      simp (maxSteps := 2000000) +contextual only [a_i_Party_spotsOf, c_i_Party_spotsOf, fillParts, e_i_IsParty (cells_mono h _) hn, h1, hne, hne', decide_true, decide_false, ne_eq, not_false_eq_true, Wp_some, Wp_none, Wp_ite, Wc_some, Wc_none, Wc_ite, Wp_thenRun, seqQ_normal, seqQ_exit, seqQ_ret, Wp_inBlock, blkQ_normal, blkQ_ret, blkQ_same, blkQ_exit, Wp_opThen, opQ_at, Wp_guardP, retQ_normal, retQ_ret, loopQ_normal, loopQ_exit, loopQ_ret, go_sem, entry, joinEsc, if_pos, reduceIte, Nat.reduceAdd, Nat.reduceLeDiff, Nat.reduceLT, Nat.reduceEqDiff]

theorem box_in64 {x a b s : Int} {ls : List Ld} (K : Plk x a b s ls) {z0 z1 z2 : Int} (B : Box0 x ls.length [z0, z1, z2]) : Slim.in64 z0 = true ∧ Slim.in64 z1 = true ∧ Slim.in64 z2 = true := by
  have hx := K.x12
  have key : ∀ i, i < 3 → 0 ≤ [z0, z1, z2].getD i 0 ∧ [z0, z1, z2].getD i 0 ≤ 12 := by
    intro i hi
    by_cases h : i < ls.length
    · have := B.on i h
      omega
    · rw [B.zero i (by omega)]
      omega
  have h0 : 0 ≤ z0 ∧ z0 ≤ 12 := key 0 (by omega)
  have h1 : 0 ≤ z1 ∧ z1 ≤ 12 := key 1 (by omega)
  have h2 : 0 ≤ z2 ∧ z2 ≤ 12 := key 2 (by omega)
  unfold Slim.in64
  simp only [Bool.and_eq_true, decide_eq_true_eq]
  omega

/-- the least number of moves to some places, if there is one -/
def stpO (x a b s : Int) (ls : List Ld) (ps : List Int) : Option Int := if (partyOk x a b ls s && plcOk x ls.length ps) = true then mget (foundP x a b s ls) (goalT ps) else none

theorem e_i_StepsTo {q qp : Nat} {c cp : Option Nat} {ls : List Ld} {ps : List Int} {x a b s : Int} (h : cellsAt H q = some (encL ls)) (hn : ls.length ≤ 9223372036854775806) (hp : cellsAt H qp = some (encI ps)) : call T pr f_i_StepsTo [ptV x a b (slL q ls.length c) s, slI qp ps.length cp] ⟨H, e⟩ =
    some (.tup [.int .i64 ((stpO x a b s ls ps).getD 0), .bool (stpO x a b s ls ps).isSome], ⟨H, e⟩) := by
  have hso := fun X e' => Wc.eq (wc_i_spotsOf (pr := pr) (H := H ++ X) (e := e') (c := c) (cp := cp) (ls := ls) (ps := ps) (x := x) (a := a) (b := b) (s := s) (cells_mono h X) hn (cells_mono hp X) rfl)
  rw [call_eq t_i_StepsTo]
  unfold stpO
  cases h1 : (partyOk x a b ls s && plcOk x ls.length ps) with
  | false =>
    rw [h1] at hso
    simp +contextual only [a_i_StepsTo, c_i_StepsTo, hso, fillParts, Bool.false_eq_true, if_false, Option.getD_none, Option.isSome_none, go_sem, entry, joinEsc, if_pos, reduceIte, Nat.reduceAdd, Nat.reduceLeDiff, Nat.reduceLT, Nat.reduceEqDiff]
  | true =>
    obtain ⟨h2, h3⟩ := Bool.and_eq_true_iff.mp h1
    have K := plk_of h2
    have G := good_spots h2
    have B := plc_box K.n3 h3
    obtain ⟨g0, g1, g2, hg⟩ := Slim.three B.len
    rw [h1, hg] at hso
    rw [hg] at B ⊢
    obtain ⟨z0, z1, z2, hz⟩ := G.three
    have hI := box_in64 K B
    have hkey := keyZ_three hI.1 hI.2.1 hI.2.2
    have hsp := fun X => e_i_Party_spots (pr := pr) (e := none) (c := c) (cells_mono h X) K.n3 x a b s hz
    have hst := fun X => e_i_Party_stepsFrom (pr := pr) (e := none) (c := c) (cells_mono h X) K (hz ▸ G)
    rw [← hz] at hst
    simp (maxSteps := 2000000) +contextual only [a_i_StepsTo, c_i_StepsTo, hso, fillParts, hkey, hsp, hst, foundP, List.map_cons, List.map_nil, if_true, go_sem, entry, joinEsc, if_pos, reduceIte, Nat.reduceAdd, Nat.reduceLeDiff, Nat.reduceLT, Nat.reduceEqDiff]

end Go.Proofs.Ythkgpblohjpcdaa.Slim

/- Planks: the least number of moves to one place. -/
namespace Go.Proofs.Ythkgpblohjpcdaa.Slim

open Go

set_option linter.unusedSimpArgs false

set_option linter.unusedVariables false

variable {pr : Prims} {H : List Blk} {e : Option Nat}

/-- all at one place -/
def allT (n i : Nat) : List Int := List.replicate n (i : Int)

theorem allT_get {n i j : Nat} (h : j < n) : (allT n i)[j]? = some (i : Int) := by
  unfold allT
  rw [List.getElem?_replicate, if_pos h]

theorem allT_len (n i : Nat) : (allT n i).length = n := List.length_replicate

theorem allT_set {n i j : Nat} (hn : n ≤ 3) (h : j < n) : (padT (allT n i) j).set j (i : Int) = padT (allT n i) (j + 1) := by
  have := padT_set (ps := allT n i) (i := j) (by rw [allT_len]; exact h) (by rw [allT_len]; exact hn)
  rwa [allT_get h] at this

theorem allT_ok {d n i : Nat} (h : i ≤ d) : plcOk (d : Int) n (allT n i) = true := by
  unfold plcOk
  simp only [Bool.and_eq_true, decide_eq_true_eq, List.all_eq_true]
  refine ⟨allT_len n i, fun p hp => ?_⟩
  have := List.eq_of_mem_replicate hp
  omega

/-- the best of the first places, and where -/
def meetF (es : Found) (n : Nat) : Nat → Int × Int
  | 0 => (-1, 0)
  | i + 1 => match mget es (goalT (allT n i)) with
    | some v => if (meetF es n i).1 < 0 ∨ v < (meetF es n i).1 then (v, (i : Int)) else meetF es n i
    | none => meetF es n i

/-- what it comes to -/
def meetZ (x a b s : Int) (ls : List Ld) : Int × Int := if partyOk x a b ls s = true then meetF (foundP x a b s ls) ls.length (x.toNat + 1) else (-1, 0)

theorem meetF_no {es : Found} {n : Nat} : ∀ i, (meetF es n i).1 < 0 → (∀ t v, mget es t = some v → 0 ≤ v) → (meetF es n i).2 = 0
  | 0, _, _ => rfl
  | i + 1, h, hp => by
    rw [meetF] at h ⊢
    cases hg : mget es (goalT (allT n i)) with
    | none =>
      rw [hg] at h
      exact meetF_no i h hp
    | some v =>
      rw [hg] at h
      simp only at h ⊢
      have h0 := hp _ _ hg
      split
      · rename_i hc
        rw [if_pos hc] at h
        simp only at h
        omega
      · rename_i hc
        rw [if_neg hc] at h
        exact meetF_no i h hp

theorem mt_i_in {L : List Blk} {n i : Nat} (hn : n ≤ 3) {w0 w1 w2 w3 w4 w5 w6 w7 w10 w11 w12 w13 w14 w15 w16 w19 w20 w21 : AV} :
    Wp (run T pr (.loop w_i_MeetSteps_1) ⟨[w0, w1, w2, w3, w4, w5, w6, w7, .int .i64 i, .ptr (some (L.length, 0)), w10, w11, w12, w13, w14, w15, w16, .int .i64 n, .int .i64 0, w19, w20, w21], ⟨L ++ [.cells (encI [0, 0, 0]) true], none⟩⟩)
      (fun ex st => ex = .exit 2 ∧ ∃ v10 v18 v19, st = ⟨[w0, w1, w2, w3, w4, w5, w6, w7, .int .i64 i, .ptr (some (L.length, 0)), v10, w11, w12, w13, w14, w15, w16, .int .i64 n, v18, v19, w20, w21], ⟨L ++ [.cells (encI (goalT (allT n i))) true], none⟩⟩) := by
  refine Wp_loop (fun k st => ∃ (j : Nat) (v10 v19 : AV), j + k = n ∧ st = ⟨[w0, w1, w2, w3, w4, w5, w6, w7, .int .i64 i, .ptr (some (L.length, 0)), v10, w11, w12, w13, w14, w15, w16, .int .i64 n, .int .i64 j, v19, w20, w21], ⟨L ++ [.cells (encI (padT (allT n i) j)) true], none⟩⟩) ?_ n _ ⟨0, _, _, by omega, rfl⟩
  rintro k _ ⟨j, v10, v19, hj, rfl⟩
  by_cases hk : k = 0
  · have he : j = n := by omega
    subst he
    have hg : goalT (allT j i) = padT (allT j i) j := by unfold goalT; rw [allT_len]
    rw [hg]
    simp (maxSteps := 2000000) +contextual only [w_i_MeetSteps_1, Nat.lt_irrefl, decide_false, Wp_some, Wp_none, Wp_ite, Wc_some, Wc_none, Wc_ite, Wp_thenRun, seqQ_normal, seqQ_exit, seqQ_ret, Wp_inBlock, blkQ_normal, blkQ_ret, blkQ_same, blkQ_exit, Wp_opThen, opQ_at, Wp_guardP, retQ_normal, retQ_ret, loopQ_normal, loopQ_exit, loopQ_ret, go_sem, entry, joinEsc, if_pos, reduceIte, Nat.reduceAdd, Nat.reduceLeDiff, Nat.reduceLT, Nat.reduceEqDiff]
    exact ⟨_, _, _, rfl⟩
  · have hjl : j < n := by omega
    have hw := wrap_succ (show j < 9223372036854775807 by omega)
    have hj3 : j < 3 := by omega
    have hj3' : (j : Int) < 3 := by omega
    have hl3 : (padT (allT n i) j).length = 3 := padT_length (by rw [allT_len]; omega) (by rw [allT_len]; exact hn)
    have hse := setRange_encI (X := padT (allT n i) j) (i := j) (a := (i : Int)) (by rw [hl3]; exact hj3)
    rw [allT_set hn hjl] at hse
    have hle : j + 1 ≤ (encI (padT (allT n i) j)).length := by
      simp only [encI, List.length_map]
      omega
    simp (maxSteps := 2000000) +contextual only [w_i_MeetSteps_1, hjl, hj3, hj3', hse, hle, hw, decide_true, decide_false, Wp_some, Wp_none, Wp_ite, Wc_some, Wc_none, Wc_ite, Wp_thenRun, seqQ_normal, seqQ_exit, seqQ_ret, Wp_inBlock, blkQ_normal, blkQ_ret, blkQ_same, blkQ_exit, Wp_opThen, opQ_at, Wp_guardP, retQ_normal, retQ_ret, loopQ_normal, loopQ_exit, loopQ_ret, go_sem, entry, joinEsc, if_pos, reduceIte, Nat.reduceAdd, Nat.reduceLeDiff, Nat.reduceLT, Nat.reduceEqDiff]
    exact ⟨k - 1, by omega, j + 1, _, _, by omega, rfl⟩

theorem e_i_MeetSteps {q : Nat} {c : Option Nat} {ls : List Ld} {x a b s : Int} (h : cellsAt H q = some (encL ls)) (hn : ls.length ≤ 9223372036854775806) : call T pr f_i_MeetSteps [ptV x a b (slL q ls.length c) s] ⟨H, e⟩ =
    some (.tup [.int .i64 (if (meetZ x a b s ls).1 < 0 then 0 else (meetZ x a b s ls).1), .int .i64 (meetZ x a b s ls).2, .bool (decide (0 ≤ (meetZ x a b s ls).1))], ⟨H, e⟩) := by
  apply Wc.eq
  rw [call_wc t_i_MeetSteps]
  unfold meetZ
  cases h1 : partyOk x a b ls s with
  | false => simp +contextual only [a_i_MeetSteps, c_i_MeetSteps, e_i_IsParty (cells_mono h _) hn, h1, Bool.false_eq_true, if_false, show ((-1 : Int) < 0) by omega, show ¬ ((0 : Int) ≤ -1) by omega, if_true, decide_false, Wp_some, Wp_none, Wp_ite, Wc_some, Wc_none, Wc_ite, Wp_thenRun, seqQ_normal, seqQ_exit, seqQ_ret, Wp_inBlock, blkQ_normal, blkQ_ret, blkQ_same, blkQ_exit, Wp_opThen, opQ_at, Wp_guardP, retQ_normal, retQ_ret, loopQ_normal, loopQ_exit, loopQ_ret, go_sem, entry, joinEsc, if_pos, reduceIte, Nat.reduceAdd, Nat.reduceLeDiff, Nat.reduceLT, Nat.reduceEqDiff]
  | true =>
    have K := plk_of h1
    have G := good_spots h1
    have hn3 := K.n3
    obtain ⟨d, rfl⟩ : ∃ d : Nat, x = d := ⟨x.toNat, by have := K.x1; omega⟩
    have hd12 : d ≤ 12 := by have := K.x12; omega
    obtain ⟨T1, hP⟩ := foundP_told h1
    obtain ⟨z0, z1, z2, hz⟩ := G.three
    have hsp := fun X => e_i_Party_spots (pr := pr) (e := none) (c := c) (cells_mono h X) K.n3 (d : Int) a b s hz
    have hst := fun X => e_i_Party_stepsFrom (pr := pr) (e := none) (c := c) (cells_mono h X) K (hz ▸ G)
    rw [← hz] at hst
    have hes' : bfsAll (nxP (d : Int) a b s ls) (spots ls) = foundP (d : Int) a b s ls := rfl
    rw [hes'] at hst
    have hpos : ∀ t v, mget (foundP (d : Int) a b s ls) t = some v → 0 ≤ v := fun t v hv => (T1.par _ _ hv).1
    obtain ⟨es, hes⟩ : ∃ es, es = foundP (d : Int) a b s ls := ⟨_, rfl⟩
    rw [← hes] at hst hpos ⊢
    have hwd := wrap_succ (show d < 9223372036854775807 by omega)
    simp (maxSteps := 2000000) +contextual only [a_i_MeetSteps, c_i_MeetSteps, e_i_IsParty (cells_mono h _) hn, h1, hsp, hst, hwd, if_true, Int.toNat_natCast, Wp_some, Wp_none, Wp_ite, Wc_some, Wc_none, Wc_ite, Wp_thenRun, seqQ_normal, seqQ_exit, seqQ_ret, Wp_inBlock, blkQ_normal, blkQ_ret, blkQ_same, blkQ_exit, Wp_opThen, opQ_at, Wp_guardP, retQ_normal, retQ_ret, loopQ_normal, loopQ_exit, loopQ_ret, go_sem, entry, joinEsc, if_pos, reduceIte, Nat.reduceAdd, Nat.reduceLeDiff, Nat.reduceLT, Nat.reduceEqDiff]
    obtain ⟨A, hA⟩ : ∃ A : Blk, A = .cells [.int .i64 d, .int .i64 a, .int .i64 b, slL q ls.length c, .int .i64 s] true := ⟨_, rfl⟩
    obtain ⟨n, hne⟩ : ∃ n, n = ls.length := ⟨_, rfl⟩
    refine Wp_loop (fun k st => ∃ (i : Nat) (best att : Int) (L : List Blk) (w8 w9 w10 w11 w12 w16 w17 w18 w19 w20 w21 : AV), i + k = d + 1 ∧ best = (meetF es ls.length i).1 ∧ att = (meetF es ls.length i).2 ∧ Grown (H ++ [A, .mp es]) L ∧
      st = ⟨[ptV (d : Int) a b (slL q ls.length c) s, .ptr (some (H.length, 0)), .int .i64 0, .int .i64 0, .bool false, .map (some (H.length + 1)), .int .i64 best, .int .i64 att, w8, w9, w10, w11, w12, .bool false, .int .i64 (d + 1 : Nat), .int .i64 i, w16, w17, w18, w19, w20, w21], ⟨L, none⟩⟩) ?_ (d + 1) _ ?_
    rotate_left
    · exact ⟨0, _, _, _, _, _, _, _, _, _, _, _, _, _, _, by omega, rfl, rfl, ⟨[], by rw [hA, List.append_nil]⟩, rfl⟩
    rintro k _ ⟨i, best, att, L, w8, w9, w10, w11, w12, w16, w17, w18, w19, w20, w21, hi, hbest, hatt, hg, rfl⟩
    by_cases hk : k = 0
    · have he : i = d + 1 := by omega
      subst he
      obtain ⟨X, rfl⟩ := hg
      rw [← hbest, ← hatt]
      by_cases hb : best < 0
      · have hat0 := meetF_no (es := es) (n := ls.length) (d + 1) (by rw [← hbest]; exact hb) hpos
        rw [← hatt] at hat0
        have hb' : ¬ (0 ≤ best) := by omega
        subst hat0
        simp (maxSteps := 2000000) +contextual only [w_i_MeetSteps_2, a_i_MeetSteps, hb, hb', Nat.lt_irrefl, decide_false, decide_true, if_true, Wp_some, Wp_none, Wp_ite, Wc_some, Wc_none, Wc_ite, Wp_thenRun, seqQ_normal, seqQ_exit, seqQ_ret, Wp_inBlock, blkQ_normal, blkQ_ret, blkQ_same, blkQ_exit, Wp_opThen, opQ_at, Wp_guardP, retQ_normal, retQ_ret, loopQ_normal, loopQ_exit, loopQ_ret, go_sem, entry, joinEsc, if_pos, reduceIte, Nat.reduceAdd, Nat.reduceLeDiff, Nat.reduceLT, Nat.reduceEqDiff]
      · have hb' : 0 ≤ best := by omega
        simp (maxSteps := 2000000) +contextual only [w_i_MeetSteps_2, a_i_MeetSteps, hb, hb', Nat.lt_irrefl, decide_false, decide_true, if_false, Wp_some, Wp_none, Wp_ite, Wc_some, Wc_none, Wc_ite, Wp_thenRun, seqQ_normal, seqQ_exit, seqQ_ret, Wp_inBlock, blkQ_normal, blkQ_ret, blkQ_same, blkQ_exit, Wp_opThen, opQ_at, Wp_guardP, retQ_normal, retQ_ret, loopQ_normal, loopQ_exit, loopQ_ret, go_sem, entry, joinEsc, if_pos, reduceIte, Nat.reduceAdd, Nat.reduceLeDiff, Nat.reduceLT, Nat.reduceEqDiff]
    · have hil : i < d + 1 := by omega
      have hw := wrap_succ (show i < 9223372036854775807 by omega)
      have hA0 : ∀ X, cellsAt (L ++ X) H.length = some [.int .i64 d, .int .i64 a, .int .i64 b, slL q ls.length c, .int .i64 s] := fun X => by
        have := gr_at 0 (by simp) hg
        rw [Nat.add_zero] at this
        rw [hA] at this
        exact cells_more this X
      have hmp0 : L[H.length + 1]? = some (.mp es) := gr_at 1 (by simp) hg
      have hmpm := mapAt_more hmp0
      have B := plc_box hn3 (allT_ok (n := ls.length) (show i ≤ d by omega))
      simp (maxSteps := 2000000) +contextual only [w_i_MeetSteps_2, fillParts, hil, hA0, decide_true, Wp_some, Wp_none, Wp_ite, Wc_some, Wc_none, Wc_ite, Wp_thenRun, seqQ_normal, seqQ_exit, seqQ_ret, Wp_inBlock, blkQ_normal, blkQ_ret, blkQ_same, blkQ_exit, Wp_opThen, opQ_at, Wp_guardP, retQ_normal, retQ_ret, loopQ_normal, loopQ_exit, loopQ_ret, go_sem, entry, joinEsc, if_pos, reduceIte, Nat.reduceAdd, Nat.reduceLeDiff, Nat.reduceLT, Nat.reduceEqDiff]
      refine (mt_i_in (pr := pr) (n := ls.length) (i := i) hn3).mono ?_
      rintro _ _ ⟨rfl, v10, v18, v19, rfl⟩
      have hns : meetF es ls.length (i + 1) = match mget es (goalT (allT ls.length i)) with
        | some v => if (meetF es ls.length i).1 < 0 ∨ v < (meetF es ls.length i).1 then (v, (i : Int)) else meetF es ls.length i
        | none => meetF es ls.length i := rfl
      rw [← hbest] at hns
      obtain ⟨g0, g1, g2, hgo⟩ := Slim.three B.len
      rw [hgo] at hns B ⊢
      have hI := box_in64 K B
      have hkey := keyZ_three hI.1 hI.2.1 hI.2.2
      have hgr := hg.more [.cells (encI [g0, g1, g2]) true]
      cases hs : mget es [g0, g1, g2] with
      | none =>
        rw [hs] at hns
        simp only at hns
        simp (maxSteps := 2000000) +contextual only [fillParts, encI, List.map_cons, List.map_nil, hmpm, hkey, hs, hw, Option.isSome_none, Option.getD_none, decide_false, Wp_some, Wp_none, Wp_ite, Wc_some, Wc_none, Wc_ite, Wp_thenRun, seqQ_normal, seqQ_exit, seqQ_ret, Wp_inBlock, blkQ_normal, blkQ_ret, blkQ_same, blkQ_exit, Wp_opThen, opQ_at, Wp_guardP, retQ_normal, retQ_ret, loopQ_normal, loopQ_exit, loopQ_ret, go_sem, entry, joinEsc, if_pos, reduceIte, Nat.reduceAdd, Nat.reduceLeDiff, Nat.reduceLT, Nat.reduceEqDiff]
        exact ⟨k - 1, by omega, i + 1, _, _, _, _, _, _, _, _, _, _, _, _, _, _, by omega, by rw [hns]; exact hbest, by rw [hns]; exact hatt, hgr, rfl⟩
      | some v =>
        rw [hs] at hns
        simp only at hns
        by_cases hb : best < 0
        · rw [if_pos (Or.inl hb)] at hns
          simp (maxSteps := 2000000) +contextual only [fillParts, encI, List.map_cons, List.map_nil, hmpm, hkey, hs, hw, hb, Option.isSome_some, Option.getD_some, decide_true, Wp_some, Wp_none, Wp_ite, Wc_some, Wc_none, Wc_ite, Wp_thenRun, seqQ_normal, seqQ_exit, seqQ_ret, Wp_inBlock, blkQ_normal, blkQ_ret, blkQ_same, blkQ_exit, Wp_opThen, opQ_at, Wp_guardP, retQ_normal, retQ_ret, loopQ_normal, loopQ_exit, loopQ_ret, go_sem, entry, joinEsc, if_pos, reduceIte, Nat.reduceAdd, Nat.reduceLeDiff, Nat.reduceLT, Nat.reduceEqDiff]
          exact ⟨k - 1, by omega, i + 1, _, _, _, _, _, _, _, _, _, _, _, _, _, _, by omega, by rw [hns], by rw [hns], hgr, rfl⟩
        · by_cases hv : v < best
          · rw [if_pos (Or.inr hv)] at hns
            simp (maxSteps := 2000000) +contextual only [fillParts, encI, List.map_cons, List.map_nil, hmpm, hkey, hs, hw, hb, hv, Option.isSome_some, Option.getD_some, decide_true, decide_false, Wp_some, Wp_none, Wp_ite, Wc_some, Wc_none, Wc_ite, Wp_thenRun, seqQ_normal, seqQ_exit, seqQ_ret, Wp_inBlock, blkQ_normal, blkQ_ret, blkQ_same, blkQ_exit, Wp_opThen, opQ_at, Wp_guardP, retQ_normal, retQ_ret, loopQ_normal, loopQ_exit, loopQ_ret, go_sem, entry, joinEsc, if_pos, reduceIte, Nat.reduceAdd, Nat.reduceLeDiff, Nat.reduceLT, Nat.reduceEqDiff]
            exact ⟨k - 1, by omega, i + 1, _, _, _, _, _, _, _, _, _, _, _, _, _, _, by omega, by rw [hns], by rw [hns], hgr, rfl⟩
          · rw [if_neg (by rintro (h | h); exact hb h; exact hv h)] at hns
            simp (maxSteps := 2000000) +contextual only [fillParts, encI, List.map_cons, List.map_nil, hmpm, hkey, hs, hw, hb, hv, Option.isSome_some, Option.getD_some, decide_true, decide_false, Wp_some, Wp_none, Wp_ite, Wc_some, Wc_none, Wc_ite, Wp_thenRun, seqQ_normal, seqQ_exit, seqQ_ret, Wp_inBlock, blkQ_normal, blkQ_ret, blkQ_same, blkQ_exit, Wp_opThen, opQ_at, Wp_guardP, retQ_normal, retQ_ret, loopQ_normal, loopQ_exit, loopQ_ret, go_sem, entry, joinEsc, if_pos, reduceIte, Nat.reduceAdd, Nat.reduceLeDiff, Nat.reduceLT, Nat.reduceEqDiff]
            exact ⟨k - 1, by omega, i + 1, _, _, _, _, _, _, _, _, _, _, _, _, _, _, by omega, by rw [hns]; exact hbest, by rw [hns]; exact hatt, hgr, rfl⟩

theorem mt_s_in {L : List Blk} {i : Nat} {ls : List Ld} {x a b s : Int} (hn : ls.length ≤ 3) {w0 w1 w2 w3 w4 w5 w6 w7 w11 w12 w13 w14 w15 : AV} :
    Wp (run T pr (.loop w_s_MeetSteps_1) ⟨[w0, w1, w2, w3, w4, w5, w6, w7, .int .i64 i, .ptr (some (L.length + 1, 0)), .int .i64 0, w11, w12, w13, w14, w15], ⟨L ++ [.cells (encL (putL ls [0, 0, 0])) true, .cells [.int .i64 x, .int .i64 a, .int .i64 b, slL L.length ls.length none, .int .i64 s] true], none⟩⟩)
      (fun ex st => ex = .exit 2 ∧ ∃ v10 v14, st = ⟨[w0, w1, w2, w3, w4, w5, w6, w7, .int .i64 i, .ptr (some (L.length + 1, 0)), v10, w11, w12, w13, v14, w15], ⟨L ++ [.cells (encL (putL ls (goalT (allT ls.length i)))) true, .cells [.int .i64 x, .int .i64 a, .int .i64 b, slL L.length ls.length none, .int .i64 s] true], none⟩⟩) := by
  refine Wp_loop (fun k st => ∃ (j : Nat) (v14 : AV), j + k = ls.length ∧ st = ⟨[w0, w1, w2, w3, w4, w5, w6, w7, .int .i64 i, .ptr (some (L.length + 1, 0)), .int .i64 j, w11, w12, w13, v14, w15], ⟨L ++ [.cells (encL (putL ls (padT (allT ls.length i) j))) true, .cells [.int .i64 x, .int .i64 a, .int .i64 b, slL L.length ls.length none, .int .i64 s] true], none⟩⟩) ?_ ls.length _ ⟨0, _, by omega, rfl⟩
  rintro k _ ⟨j, v14, hj, rfl⟩
  by_cases hk : k = 0
  · have he : j = ls.length := by omega
    subst he
    have hg : goalT (allT ls.length i) = padT (allT ls.length i) ls.length := by unfold goalT; rw [allT_len]
    rw [hg]
    simp (maxSteps := 2000000) +contextual only [w_s_MeetSteps_1, Nat.lt_irrefl, decide_false, Wp_some, Wp_none, Wp_ite, Wc_some, Wc_none, Wc_ite, Wp_thenRun, seqQ_normal, seqQ_exit, seqQ_ret, Wp_inBlock, blkQ_normal, blkQ_ret, blkQ_same, blkQ_exit, Wp_opThen, opQ_at, Wp_guardP, retQ_normal, retQ_ret, loopQ_normal, loopQ_exit, loopQ_ret, go_sem, entry, joinEsc, if_pos, reduceIte, Nat.reduceAdd, Nat.reduceLeDiff, Nat.reduceLT, Nat.reduceEqDiff]
    exact ⟨_, _, rfl⟩
  · have hjl : j < ls.length := by omega
    have hw := wrap_succ (show j < 9223372036854775807 by omega)
    have hl3 : (padT (allT ls.length i) j).length = 3 := padT_length (by rw [allT_len]; omega) (by rw [allT_len]; exact hn)
    have hse := setRange_movd (ls := putL ls (padT (allT ls.length i) j)) (i := j) (i : Int) (by rw [putL_length]; exact hjl)
    rw [← putL_set ls (padT (allT ls.length i) j) j (i : Int) hjl (by rw [hl3]; exact hn), allT_set hn hjl] at hse
    have hle : j * 2 + 1 ≤ (encL (putL ls (padT (allT ls.length i) j))).length := by rw [encL_length, putL_length]; omega
    have hle2 : j * 2 + 2 ≤ (encL (putL ls (padT (allT ls.length i) j))).length := by rw [encL_length, putL_length]; omega
    simp (maxSteps := 2000000) +contextual only [w_s_MeetSteps_1, hjl, hse, hle, hle2, hw, decide_true, decide_false, Wp_some, Wp_none, Wp_ite, Wc_some, Wc_none, Wc_ite, Wp_thenRun, seqQ_normal, seqQ_exit, seqQ_ret, Wp_inBlock, blkQ_normal, blkQ_ret, blkQ_same, blkQ_exit, Wp_opThen, opQ_at, Wp_guardP, retQ_normal, retQ_ret, loopQ_normal, loopQ_exit, loopQ_ret, go_sem, entry, joinEsc, if_pos, reduceIte, Nat.reduceAdd, Nat.reduceLeDiff, Nat.reduceLT, Nat.reduceEqDiff]
    exact ⟨k - 1, by omega, j + 1, _, by omega, rfl⟩

theorem e_s_MeetSteps {q : Nat} {c : Option Nat} {ls : List Ld} {x a b s : Int} (h : cellsAt H q = some (encL ls)) (hn : ls.length ≤ 9223372036854775806) : call T pr f_s_MeetSteps [ptV x a b (slL q ls.length c) s] ⟨H, e⟩ =
    some (.tup [.int .i64 (if (meetZ x a b s ls).1 < 0 then 0 else (meetZ x a b s ls).1), .int .i64 (meetZ x a b s ls).2, .bool (decide (0 ≤ (meetZ x a b s ls).1))], ⟨H, e⟩) := by
  apply Wc.eq
  rw [call_wc t_s_MeetSteps]
  unfold meetZ
  cases h1 : partyOk x a b ls s with
  | false => simp +contextual only [a_s_MeetSteps, c_s_MeetSteps, e_s_l11Party (cells_mono h _) hn, h1, Bool.false_eq_true, if_false, show ((-1 : Int) < 0) by omega, show ¬ ((0 : Int) ≤ -1) by omega, if_true, decide_false, Wp_some, Wp_none, Wp_ite, Wc_some, Wc_none, Wc_ite, Wp_thenRun, seqQ_normal, seqQ_exit, seqQ_ret, Wp_inBlock, blkQ_normal, blkQ_ret, blkQ_same, blkQ_exit, Wp_opThen, opQ_at, Wp_guardP, retQ_normal, retQ_ret, loopQ_normal, loopQ_exit, loopQ_ret, go_sem, entry, joinEsc, if_pos, reduceIte, Nat.reduceAdd, Nat.reduceLeDiff, Nat.reduceLT, Nat.reduceEqDiff]
  | true =>
    have K := plk_of h1
    have G := good_spots h1
    have hn3 := K.n3
    obtain ⟨d, rfl⟩ : ∃ d : Nat, x = d := ⟨x.toNat, by have := K.x1; omega⟩
    have hd12 : d ≤ 12 := by have := K.x12; omega
    obtain ⟨T1, hP⟩ := foundP_told h1
    have hsp := fun X => e_s_l11Spread (pr := pr) (e := none) (c := c) (ls := ls) (z := spots ls) (cells_mono (by rw [spots_self]; exact h) X) K G
    have hes' : bfsAll (nxP (d : Int) a b s ls) (spots ls) = foundP (d : Int) a b s ls := rfl
    rw [hes'] at hsp
    have hpos : ∀ t v, mget (foundP (d : Int) a b s ls) t = some v → 0 ≤ v := fun t v hv => (T1.par _ _ hv).1
    obtain ⟨es, hes⟩ : ∃ es, es = foundP (d : Int) a b s ls := ⟨_, rfl⟩
    rw [← hes] at hsp hpos ⊢
    simp (maxSteps := 2000000) +contextual only [a_s_MeetSteps, c_s_MeetSteps, e_s_l11Party (cells_mono h _) hn, h1, hsp, if_true, Int.toNat_natCast, Wp_some, Wp_none, Wp_ite, Wc_some, Wc_none, Wc_ite, Wp_thenRun, seqQ_normal, seqQ_exit, seqQ_ret, Wp_inBlock, blkQ_normal, blkQ_ret, blkQ_same, blkQ_exit, Wp_opThen, opQ_at, Wp_guardP, retQ_normal, retQ_ret, loopQ_normal, loopQ_exit, loopQ_ret, go_sem, entry, joinEsc, if_pos, reduceIte, Nat.reduceAdd, Nat.reduceLeDiff, Nat.reduceLT, Nat.reduceEqDiff]
    obtain ⟨A, hA⟩ : ∃ A : Blk, A = .cells [.int .i64 d, .int .i64 a, .int .i64 b, slL q ls.length c, .int .i64 s] true := ⟨_, rfl⟩
    obtain ⟨N, hNe⟩ : ∃ N, N = (d + 1) ^ ls.length := ⟨_, rfl⟩
    rw [← hNe]
    refine Wp_loop (fun k st => ∃ (i : Nat) (best att : Int) (L : List Blk) (w9 w10 w11 w13 w14 w15 : AV), i + k = d + 1 ∧ best = (meetF es ls.length i).1 ∧ att = (meetF es ls.length i).2 ∧ Grown (H ++ [A, .cells (encI (outF d ls.length es)) true]) L ∧
      st = ⟨[ptV (d : Int) a b (slL q ls.length c) s, .ptr (some (H.length, 0)), .int .i64 0, .int .i64 0, .bool false, .int .i64 best, .int .i64 att, .slice (some (H.length + 1, 0)) 1 N (some N), .int .i64 i, w9, w10, w11, .bool false, w13, w14, w15], ⟨L, none⟩⟩) ?_ (d + 1) _ ?_
    rotate_left
    · exact ⟨0, _, _, _, _, _, _, _, _, _, by omega, rfl, rfl, ⟨[], by rw [hA, List.append_nil]⟩, rfl⟩
    rintro k _ ⟨i, best, att, L, w9, w10, w11, w13, w14, w15, hi, hbest, hatt, hg, rfl⟩
    have hA0 : ∀ X, cellsAt (L ++ X) H.length = some [.int .i64 d, .int .i64 a, .int .i64 b, slL q ls.length c, .int .i64 s] := fun X => by
      have := gr_at 0 (by simp) hg
      rw [Nat.add_zero] at this
      rw [hA] at this
      exact cells_more this X
    have hA1 : cellsAt L H.length = some [.int .i64 d, .int .i64 a, .int .i64 b, slL q ls.length c, .int .i64 s] := by
      have := hA0 []
      rwa [List.append_nil] at this
    by_cases hk : k = 0
    · have he : i = d + 1 := by omega
      subst he
      have hnot : ¬ (((d + 1 : Nat) : Int) ≤ (d : Int)) := by omega
      rw [← hbest, ← hatt]
      by_cases hb : best < 0
      · have hat0 := meetF_no (es := es) (n := ls.length) (d + 1) (by rw [← hbest]; exact hb) hpos
        rw [← hatt] at hat0
        have hb' : ¬ (0 ≤ best) := by omega
        have hb2 : ¬ (0 < best) := by omega
        subst hat0
        simp (maxSteps := 2000000) +contextual only [w_s_MeetSteps_2, a_s_MeetSteps, e_s_l1Most, hA1, hnot, hb, hb', hb2, Nat.lt_irrefl, decide_false, decide_true, if_true, if_false, Wp_some, Wp_none, Wp_ite, Wc_some, Wc_none, Wc_ite, Wp_thenRun, seqQ_normal, seqQ_exit, seqQ_ret, Wp_inBlock, blkQ_normal, blkQ_ret, blkQ_same, blkQ_exit, Wp_opThen, opQ_at, Wp_guardP, retQ_normal, retQ_ret, loopQ_normal, loopQ_exit, loopQ_ret, go_sem, entry, joinEsc, if_pos, reduceIte, Nat.reduceAdd, Nat.reduceLeDiff, Nat.reduceLT, Nat.reduceEqDiff]
        obtain ⟨X, rfl⟩ := gr_H hg
        simp +contextual only [Wp_some, Wp_none, Wp_ite, Wc_some, Wc_none, Wc_ite, Wp_thenRun, seqQ_normal, seqQ_exit, seqQ_ret, Wp_inBlock, blkQ_normal, blkQ_ret, blkQ_same, blkQ_exit, Wp_opThen, opQ_at, Wp_guardP, retQ_normal, retQ_ret, loopQ_normal, loopQ_exit, loopQ_ret, go_sem, entry, joinEsc, if_pos, reduceIte, Nat.reduceAdd, Nat.reduceLeDiff, Nat.reduceLT, Nat.reduceEqDiff]
      · have hb' : 0 ≤ best := by omega
        have hb2 : (if 0 < best then best else 0) = best := by split <;> omega
        simp (maxSteps := 2000000) +contextual only [w_s_MeetSteps_2, a_s_MeetSteps, e_s_l1Most, hA1, hnot, hb, hb', hb2, Nat.lt_irrefl, decide_false, decide_true, if_false, Wp_some, Wp_none, Wp_ite, Wc_some, Wc_none, Wc_ite, Wp_thenRun, seqQ_normal, seqQ_exit, seqQ_ret, Wp_inBlock, blkQ_normal, blkQ_ret, blkQ_same, blkQ_exit, Wp_opThen, opQ_at, Wp_guardP, retQ_normal, retQ_ret, loopQ_normal, loopQ_exit, loopQ_ret, go_sem, entry, joinEsc, if_pos, reduceIte, Nat.reduceAdd, Nat.reduceLeDiff, Nat.reduceLT, Nat.reduceEqDiff]
        obtain ⟨X, rfl⟩ := gr_H hg
        simp +contextual only [Wp_some, Wp_none, Wp_ite, Wc_some, Wc_none, Wc_ite, Wp_thenRun, seqQ_normal, seqQ_exit, seqQ_ret, Wp_inBlock, blkQ_normal, blkQ_ret, blkQ_same, blkQ_exit, Wp_opThen, opQ_at, Wp_guardP, retQ_normal, retQ_ret, loopQ_normal, loopQ_exit, loopQ_ret, go_sem, entry, joinEsc, if_pos, reduceIte, Nat.reduceAdd, Nat.reduceLeDiff, Nat.reduceLT, Nat.reduceEqDiff]
    · have hil : i < d + 1 := by omega
      have hil' : ((i : Int) ≤ (d : Int)) := by omega
      have hw := wrap_succ (show i < 9223372036854775807 by omega)
      have B := plc_box hn3 (allT_ok (n := ls.length) (show i ≤ d by omega))
      have hat := e_s_l11At (pr := pr) (H := L) (e := none) (c := c) (q := q) (ls := ls) (d := d) (k := 0) (gr_cells h hg) hn3 hd12 (by omega) a b s
      have hz := at_key K box_zero (ls.map fun l => l.1)
      have hself : putL ls (ls.map fun l => l.1) = ls := by have := putL_self ls []; rwa [List.append_nil] at this
      rw [keyN_zero d _ hn3, hself] at hz
      rw [hz] at hat
      have hz0 : ((0 : Nat) : Int) = 0 := rfl
      simp only [hz0] at hat
      have hu : AV.under (L.length + 1 + 1) (slL L.length ls.length none) = true := by simp [AV.under]; omega
      have hu1 : AV.under (L.length + 1) (slL L.length ls.length none) = true := by simp [AV.under]
      simp (maxSteps := 2000000) +contextual only [w_s_MeetSteps_2, fillParts, hil', hA0, hA1, hat, hu, hu1, decide_true, Wp_some, Wp_none, Wp_ite, Wc_some, Wc_none, Wc_ite, Wp_thenRun, seqQ_normal, seqQ_exit, seqQ_ret, Wp_inBlock, blkQ_normal, blkQ_ret, blkQ_same, blkQ_exit, Wp_opThen, opQ_at, Wp_guardP, retQ_normal, retQ_ret, loopQ_normal, loopQ_exit, loopQ_ret, go_sem, entry, joinEsc, if_pos, reduceIte, Nat.reduceAdd, Nat.reduceLeDiff, Nat.reduceLT, Nat.reduceEqDiff]
      refine (mt_s_in (pr := pr) (i := i) hn3).mono ?_
      rintro _ _ ⟨rfl, v10, v14, rfl⟩
      have hns : meetF es ls.length (i + 1) = match mget es (goalT (allT ls.length i)) with
        | some v => if (meetF es ls.length i).1 < 0 ∨ v < (meetF es ls.length i).1 then (v, (i : Int)) else meetF es ls.length i
        | none => meetF es ls.length i := rfl
      rw [← hbest] at hns
      have hkey := fun L q' c' (hq' : cellsAt L q' = some (encL (putL ls (goalT (allT ls.length i))))) => e_s_l11Key (pr := pr) (H := L) (e := none) (c := c') (ls := putL ls (goalT (allT ls.length i))) (q := q') (d := d) hq' (by rw [putL_length]; exact hn3) hd12 (putL_on B) a b s
      simp only [putL_length, key_put] at hkey
      have hlt := (boxN (d := d) hn3).lt _ B
      rw [← hNe] at hlt
      have hlt' : (keyN d ls.length (goalT (allT ls.length i)) : Int) < (N : Int) := by omega
      have ho := outF_get hn3 es B
      have hob : L[H.length + 1]? = some (.cells (encI (outF d ls.length es)) true) := gr_at 1 (by simp) hg
      have hobm := cells_more hob
      have hgr := hg.more [.cells (encL (putL ls (goalT (allT ls.length i)))) true, .cells [.int .i64 d, .int .i64 a, .int .i64 b, slL L.length ls.length none, .int .i64 s] true]
      cases hs : mget es (goalT (allT ls.length i)) with
      | none =>
        rw [hs] at hns ho
        simp only [Option.getD_none] at hns ho
        have hm1 : ¬ ((0 : Int) ≤ -1) := by omega
        simp (maxSteps := 2000000) +contextual only [hkey, hobm, part_encI _ ho, hlt, hlt', hw, hm1, decide_false, Wp_some, Wp_none, Wp_ite, Wc_some, Wc_none, Wc_ite, Wp_thenRun, seqQ_normal, seqQ_exit, seqQ_ret, Wp_inBlock, blkQ_normal, blkQ_ret, blkQ_same, blkQ_exit, Wp_opThen, opQ_at, Wp_guardP, retQ_normal, retQ_ret, loopQ_normal, loopQ_exit, loopQ_ret, go_sem, entry, joinEsc, if_pos, reduceIte, Nat.reduceAdd, Nat.reduceLeDiff, Nat.reduceLT, Nat.reduceEqDiff]
        exact ⟨k - 1, by omega, i + 1, _, _, _, _, _, _, _, _, _, by omega, by rw [hns]; exact hbest, by rw [hns]; exact hatt, hgr, rfl⟩
      | some v =>
        have hv0 := hpos _ _ hs
        rw [hs] at hns ho
        simp only [Option.getD_some] at hns ho
        by_cases hb : best < 0
        · rw [if_pos (Or.inl hb)] at hns
          simp (maxSteps := 2000000) +contextual only [hkey, hobm, part_encI _ ho, hlt, hlt', hw, hv0, hb, decide_true, Wp_some, Wp_none, Wp_ite, Wc_some, Wc_none, Wc_ite, Wp_thenRun, seqQ_normal, seqQ_exit, seqQ_ret, Wp_inBlock, blkQ_normal, blkQ_ret, blkQ_same, blkQ_exit, Wp_opThen, opQ_at, Wp_guardP, retQ_normal, retQ_ret, loopQ_normal, loopQ_exit, loopQ_ret, go_sem, entry, joinEsc, if_pos, reduceIte, Nat.reduceAdd, Nat.reduceLeDiff, Nat.reduceLT, Nat.reduceEqDiff]
          exact ⟨k - 1, by omega, i + 1, _, _, _, _, _, _, _, _, _, by omega, by rw [hns], by rw [hns], hgr, rfl⟩
        · by_cases hv : v < best
          · rw [if_pos (Or.inr hv)] at hns
            simp (maxSteps := 2000000) +contextual only [hkey, hobm, part_encI _ ho, hlt, hlt', hw, hv0, hb, hv, decide_true, decide_false, Wp_some, Wp_none, Wp_ite, Wc_some, Wc_none, Wc_ite, Wp_thenRun, seqQ_normal, seqQ_exit, seqQ_ret, Wp_inBlock, blkQ_normal, blkQ_ret, blkQ_same, blkQ_exit, Wp_opThen, opQ_at, Wp_guardP, retQ_normal, retQ_ret, loopQ_normal, loopQ_exit, loopQ_ret, go_sem, entry, joinEsc, if_pos, reduceIte, Nat.reduceAdd, Nat.reduceLeDiff, Nat.reduceLT, Nat.reduceEqDiff]
            exact ⟨k - 1, by omega, i + 1, _, _, _, _, _, _, _, _, _, by omega, by rw [hns], by rw [hns], hgr, rfl⟩
          · rw [if_neg (by rintro (h | h); exact hb h; exact hv h)] at hns
            simp (maxSteps := 2000000) +contextual only [hkey, hobm, part_encI _ ho, hlt, hlt', hw, hv0, hb, hv, decide_true, decide_false, Wp_some, Wp_none, Wp_ite, Wc_some, Wc_none, Wc_ite, Wp_thenRun, seqQ_normal, seqQ_exit, seqQ_ret, Wp_inBlock, blkQ_normal, blkQ_ret, blkQ_same, blkQ_exit, Wp_opThen, opQ_at, Wp_guardP, retQ_normal, retQ_ret, loopQ_normal, loopQ_exit, loopQ_ret, go_sem, entry, joinEsc, if_pos, reduceIte, Nat.reduceAdd, Nat.reduceLeDiff, Nat.reduceLT, Nat.reduceEqDiff]
            exact ⟨k - 1, by omega, i + 1, _, _, _, _, _, _, _, _, _, by omega, by rw [hns]; exact hbest, by rw [hns]; exact hatt, hgr, rfl⟩

end Go.Proofs.Ythkgpblohjpcdaa.Slim

/- Planks: the farthest places to which one can come. -/
namespace Go.Proofs.Ythkgpblohjpcdaa.Slim

open Go

set_option linter.unusedSimpArgs false

set_option linter.unusedVariables false

variable {pr : Prims} {H : List Blk} {e : Option Nat}

/-- the least and the greatest of some numbers and one more -/
def minL (a : Int) : List Int → Int
  | [] => a
  | x :: xs => minL (if x < a then x else a) xs

def maxL (a : Int) : List Int → Int
  | [] => a
  | x :: xs => maxL (if a < x then x else a) xs

theorem minL_le : ∀ (xs : List Int) (a : Int), minL a xs ≤ a ∧ ∀ x ∈ xs, minL a xs ≤ x
  | [], a => ⟨Int.le_refl _, fun x h => by cases h⟩
  | y :: xs, a => by
    have ih := minL_le xs (if y < a then y else a)
    rw [minL]
    refine ⟨by have := ih.1; split at this <;> omega, fun x hx => ?_⟩
    rcases List.mem_cons.mp hx with rfl | hx
    · have := ih.1
      split at this <;> omega
    · exact ih.2 x hx

theorem minL_mem : ∀ (xs : List Int) (a : Int), minL a xs = a ∨ minL a xs ∈ xs
  | [], a => Or.inl rfl
  | y :: xs, a => by
    rw [minL]
    rcases minL_mem xs (if y < a then y else a) with h | h
    · rw [h]
      split
      · exact Or.inr (List.mem_cons_self ..)
      · exact Or.inl rfl
    · exact Or.inr (List.mem_cons_of_mem _ h)

theorem maxL_ge : ∀ (xs : List Int) (a : Int), a ≤ maxL a xs ∧ ∀ x ∈ xs, x ≤ maxL a xs
  | [], a => ⟨Int.le_refl _, fun x h => by cases h⟩
  | y :: xs, a => by
    have ih := maxL_ge xs (if a < y then y else a)
    rw [maxL]
    refine ⟨by have := ih.1; split at this <;> omega, fun x hx => ?_⟩
    rcases List.mem_cons.mp hx with rfl | hx
    · have := ih.1
      split at this <;> omega
    · exact ih.2 x hx

theorem maxL_mem : ∀ (xs : List Int) (a : Int), maxL a xs = a ∨ maxL a xs ∈ xs
  | [], a => Or.inl rfl
  | y :: xs, a => by
    rw [maxL]
    rcases maxL_mem xs (if a < y then y else a) with h | h
    · rw [h]
      split
      · exact Or.inr (List.mem_cons_self ..)
      · exact Or.inl rfl
    · exact Or.inr (List.mem_cons_of_mem _ h)

theorem minL_perm {xs ys : List Int} (h : ys.Perm xs) (a : Int) : minL a ys = minL a xs := by
  have key : ∀ us vs : List Int, us.Perm vs → minL a us ≤ minL a vs := by
    intro us vs hp
    rcases minL_mem vs a with h1 | h1
    · rw [h1]
      exact (minL_le us a).1
    · exact (minL_le us a).2 _ (hp.mem_iff.mpr h1)
  exact Int.le_antisymm (key _ _ h) (key _ _ h.symm)

theorem maxL_perm {xs ys : List Int} (h : ys.Perm xs) (a : Int) : maxL a ys = maxL a xs := by
  have key : ∀ us vs : List Int, us.Perm vs → maxL a us ≤ maxL a vs := by
    intro us vs hp
    rcases maxL_mem us a with h1 | h1
    · rw [h1]
      exact (maxL_ge vs a).1
    · exact (maxL_ge vs a).2 _ (hp.mem_iff.mp h1)
  exact Int.le_antisymm (key _ _ h) (key _ _ h.symm)

/-- the places of one in all that is found -/
def onesF (es : Found) (i : Nat) : List Int := es.map fun q => q.1.getD i 0

/-- the loop of the program, in one order -/
theorem far_rounds {M : List Blk} {P w2 w3 w4 w5 w9 : AV} {i a : Nat} (hi : i < 3) (hP : P.under M.length = true) (h2 : w2.under M.length = true) (h3 : w3.under M.length = true) (h4 : w4.under M.length = true) (h5 : w5.under M.length = true) (h9 : w9.under M.length = true) (ha : a < M.length) :
    ∀ (π : Found), (∀ q ∈ π, q.1.length = 3) → ∀ (low high : Int) (w8 w11 : AV), ∃ v8, mroundsT T pr ⟨M, none⟩ a (.t 10) (.t 10) (.t 11) [(11, 1)] [⟨.extract 0 (.l 0), none⟩, ⟨.alloc [.int .i64 (0), .int .i64 (0), .int .i64 (0)], none⟩, ⟨.store 3 (.l 2) (.l 1), none⟩] [(8, 2)] 1 w_i_FarthestOut_1 π [P, .int .i64 i, w2, w3, w4, w5, .int .i64 low, .int .i64 high, w8, w9, .ptr (some (a, 0)), w11] =
      some [P, .int .i64 i, w2, w3, w4, w5, .int .i64 (minL low (onesF π i)), .int .i64 (maxL high (onesF π i)), v8, w9, .ptr (some (a, 0)), .bool false]
  | [], hπ, low, high, w8, w11 => by
    refine ⟨w8, ?_⟩
    unfold mroundsT mrounds
    simp +contextual only [onesF, minL, maxL, and_self, go_sem, entry, joinEsc, if_pos, reduceIte, Nat.reduceAdd, Nat.reduceLeDiff, Nat.reduceLT, Nat.reduceEqDiff]
  | (z, v) :: π, hπ, low, high, w8, w11 => by
    obtain ⟨z0, z1, z2, hz⟩ := Slim.three (hπ (z, v) (List.mem_cons_self ..))
    subst hz
    obtain ⟨v8, ih⟩ := far_rounds hi hP h2 h3 h4 h5 h9 ha π (fun q hq => hπ q (List.mem_cons_of_mem _ hq)) (if [z0, z1, z2].getD i 0 < low then [z0, z1, z2].getD i 0 else low) (if high < [z0, z1, z2].getD i 0 then [z0, z1, z2].getD i 0 else high) .undef .undef
    refine ⟨v8, ?_⟩
    have hi' : (i : Int) < 3 := by omega
    have hpt : part false [AV.int .i64 z0, AV.int .i64 z1, AV.int .i64 z2] i 1 = some (.int .i64 ([z0, z1, z2].getD i 0)) := by
      match i, hi with
      | 0, _ => rfl
      | 1, _ => rfl
      | 2, _ => rfl
    have hon : onesF (([z0, z1, z2], v) :: π) i = [z0, z1, z2].getD i 0 :: onesF π i := rfl
    rw [hon, minL, maxL]
    generalize [z0, z1, z2].getD i 0 = y at *
    unfold mroundsT mrounds
    unfold mroundsT at ih
    have hpa : (AV.ptr (some (a, 0))).under M.length = true := by simp [AV.under, ha]
    have hud : ∀ k, AV.under k .undef = true := fun _ => rfl
    have htk : ∀ X : List Blk, (M ++ X).take M.length = M := fun X => List.take_left
    simp (maxSteps := 2000000) +contextual only [w_i_FarthestOut_1, nextV, entryV, fillParts, havoc, List.foldl_cons, List.foldl_nil, hi, hi', hpt, gt_iff_lt, hP, h2, h3, h4, h5, h9, hpa, hud, htk, clean_none, true_or, and_self, go_sem, entry, joinEsc, if_pos, reduceIte, Nat.reduceAdd, Nat.reduceLeDiff, Nat.reduceLT, Nat.reduceEqDiff]
    exact ih

/-- the least and the greatest place of one -/
def farZ (x a b s : Int) (ls : List Ld) (i : Nat) : Int × Int := (minL (plOf ls i) (onesF (foundP x a b s ls) i), maxL (plOf ls i) (onesF (foundP x a b s ls) i))

/-- one of the people -/
def oneOk (ls : List Ld) (i : Int) : Bool := decide (0 ≤ i) && decide (i ≤ (ls.length : Int) - 1)

/-- what is returned -/
def farV (x a b s : Int) (ls : List Ld) (i : Int) : AV := if (partyOk x a b ls s && oneOk ls i) = true then .tup [.int .i64 (farZ x a b s ls i.toNat).1, .int .i64 (farZ x a b s ls i.toNat).2, .bool true] else .tup [.int .i64 0, .int .i64 0, .bool false]

theorem e_i_FarthestOut {q : Nat} {c : Option Nat} {ls : List Ld} {x a b s : Int} (i : Int) (h : cellsAt H q = some (encL ls)) (hn : ls.length ≤ 9223372036854775806) : call T pr f_i_FarthestOut [ptV x a b (slL q ls.length c) s, .int .i64 i] ⟨H, e⟩ =
    some (farV x a b s ls i, ⟨H, e⟩) := by
  rw [call_eq t_i_FarthestOut]
  unfold farV
  have hwl : IntKind.i64.wrap ((ls.length : Int) - 1) = (ls.length : Int) - 1 := wrap64 (by omega) (by omega)
  cases h1 : partyOk x a b ls s with
  | false => simp +contextual only [a_i_FarthestOut, c_i_FarthestOut, e_i_IsParty (cells_mono h _) hn, h1, Bool.false_eq_true, if_false, go_sem, entry, joinEsc, if_pos, reduceIte, Nat.reduceAdd, Nat.reduceLeDiff, Nat.reduceLT, Nat.reduceEqDiff]
  | true =>
    cases h2 : oneOk ls i with
    | false =>
      unfold oneOk at h2
      simp +contextual only [a_i_FarthestOut, c_i_FarthestOut, e_i_IsParty (cells_mono h _) hn, e_i_within, hwl, h1, h2, Bool.false_eq_true, if_false, go_sem, entry, joinEsc, if_pos, reduceIte, Nat.reduceAdd, Nat.reduceLeDiff, Nat.reduceLT, Nat.reduceEqDiff]
    | true =>
      unfold oneOk at h2
      have h2' := h2
      have K := plk_of h1
      have G := good_spots h1
      have hn3 := K.n3
      simp only [Bool.and_eq_true, decide_eq_true_eq] at h2'
      obtain ⟨j, rfl⟩ : ∃ j : Nat, i = j := ⟨i.toNat, by omega⟩
      have hj : j < ls.length := by omega
      have hl : ls[j]? = some ls[j] := List.getElem?_eq_getElem hj
      have hpl : plOf ls j = ls[j].1 := by unfold plOf; rw [hl]; rfl
      obtain ⟨T1, hP⟩ := foundP_told h1
      obtain ⟨z0, z1, z2, hz⟩ := G.three
      have hsp := fun X => e_i_Party_spots (pr := pr) (e := none) (c := c) (cells_mono h X) K.n3 x a b s hz
      have hst := fun X => e_i_Party_stepsFrom (pr := pr) (e := none) (c := c) (cells_mono h X) K (hz ▸ G)
      rw [← hz] at hst
      have hes' : bfsAll (nxP x a b s ls) (spots ls) = foundP x a b s ls := rfl
      rw [hes'] at hst
      unfold farZ
      rw [Int.toNat_natCast, hpl]
      obtain ⟨es, hes⟩ : ∃ es, es = foundP x a b s ls := ⟨_, rfl⟩
      rw [← hes] at hst hP ⊢
      have hq := cellsAt_lt h
      have hml : run T pr (seqHd (seqTl (seqTl (seqTl c_i_FarthestOut)))) ⟨[ptV x a b (slL q ls.length c) s, .int .i64 j, .ptr (some (H.length, 0)), .int .i64 0, .int .i64 0, .bool false, .int .i64 ls[j].1, .int .i64 ls[j].1, .undef, .bool false, .undef, .undef], ⟨H ++ [.cells [.int .i64 x, .int .i64 a, .int .i64 b, slL q ls.length c, .int .i64 s] true], none⟩⟩ =
          some (.normal, ⟨[ptV x a b (slL q ls.length c) s, .int .i64 j, .ptr (some (H.length, 0)), .int .i64 0, .int .i64 0, .bool false, .int .i64 (minL ls[j].1 (onesF es j)), .int .i64 (maxL ls[j].1 (onesF es j)), .undef, .bool false, .ptr (some (H.length + 2, 0)), .undef], ⟨H ++ [.cells [.int .i64 x, .int .i64 a, .int .i64 b, slL q ls.length c, .int .i64 s] true, .mp es, .dead], none⟩⟩) := by
        have := run_mloop (T := T) (pr := pr) (st := ⟨[ptV x a b (slL q ls.length c) s, .int .i64 j, .ptr (some (H.length, 0)), .int .i64 0, .int .i64 0, .bool false, .int .i64 ls[j].1, .int .i64 ls[j].1, .undef, .bool false, .undef, .undef], ⟨H ++ [.cells [.int .i64 x, .int .i64 a, .int .i64 b, slL q ls.length c, .int .i64 s] true], none⟩⟩)
          (pre := [⟨.load true 5 (.t 2), none, []⟩, ⟨.load true 5 (.t 2), none, []⟩, ⟨.call (.c (.fn f_i_Party_spots [] [])) [(.l 1)], none, [(0, ⟨.load true 5 (.t 2), none⟩)]⟩, ⟨.call (.c (.fn f_i_Party_stepsFrom [] [])) [(.l 0), (.l 2)], none, []⟩])
          (outs0 := [(10, 4)]) (mx := .l 3) (it := .t 10) (it' := .t 10) (c := .t 11) (outs2 := [(11, 1)]) (az := [⟨.extract 0 (.l 0), none⟩, ⟨.alloc [.int .i64 (0), .int .i64 (0), .int .i64 (0)], none⟩, ⟨.store 3 (.l 2) (.l 1), none⟩]) (outs3 := [(8, 2)]) (nxt := 1) (body := w_i_FarthestOut_1)
          (loc := [ptV x a b (slL q ls.length c) s, ptV x a b (slL q ls.length c) s, spV z0 z1 z2, .map (some (H.length + 1))]) (m := ⟨H ++ [.cells [.int .i64 x, .int .i64 a, .int .i64 b, slL q ls.length c, .int .i64 s] true, .mp es], none⟩) (b := H.length + 1) (es := es)
          (tmF := [ptV x a b (slL q ls.length c) s, .int .i64 j, .ptr (some (H.length, 0)), .int .i64 0, .int .i64 0, .bool false, .int .i64 (minL ls[j].1 (onesF es j)), .int .i64 (maxL ls[j].1 (onesF es j)), .undef, .bool false, .ptr (some (H.length + 2, 0)), .undef])
          (by simp +contextual only [hsp, hst, go_sem, entry, joinEsc, if_pos, reduceIte, Nat.reduceAdd, Nat.reduceLeDiff, Nat.reduceLT, Nat.reduceEqDiff]) (by simp only [get_l, go_sem, entry, joinEsc, if_pos, reduceIte, Nat.reduceAdd, Nat.reduceLeDiff, Nat.reduceLT, Nat.reduceEqDiff]) (by rw [blkAt_newk]; rfl) rfl ?_
        · simpa only [c_i_FarthestOut, seqHd, seqTl, List.append_assoc, List.cons_append, List.nil_append] using this
        · intro π hπ
          obtain ⟨v8, hr⟩ := far_rounds (pr := pr) (M := H ++ [.cells [.int .i64 x, .int .i64 a, .int .i64 b, slL q ls.length c, .int .i64 s] true, .dead, .dead]) (P := ptV x a b (slL q ls.length c) s) (w2 := .ptr (some (H.length, 0))) (w3 := .int .i64 0) (w4 := .int .i64 0) (w5 := .bool false) (w9 := .bool false) (i := j) (a := H.length + 2) (by omega) (by simp only [ptV, under_slice, go_sem, entry, joinEsc, if_pos, reduceIte, Nat.reduceAdd, Nat.reduceLeDiff, Nat.reduceLT, Nat.reduceEqDiff]; omega) (by simp [AV.under]) rfl rfl rfl rfl (by simp) π (fun q hq => (hP q (hπ.mem_iff.mp hq)).len) ls[j].1 ls[j].1 .undef .undef
          have hp1 := minL_perm (hπ.map fun q => q.1.getD j 0) ls[j].1
          have hp2 := maxL_perm (hπ.map fun q => q.1.getD j 0) ls[j].1
          unfold onesF at hr ⊢
          rw [hp1, hp2] at hr
          refine ⟨[ptV x a b (slL q ls.length c) s, .int .i64 j, .ptr (some (H.length, 0)), .int .i64 0, .int .i64 0, .bool false, .int .i64 (minL ls[j].1 (es.map fun q => q.1.getD j 0)), .int .i64 (maxL ls[j].1 (es.map fun q => q.1.getD j 0)), v8, .bool false, .ptr (some (H.length + 2, 0)), .bool false], ?_, rfl⟩
          simp only [set_newk, go_sem, entry, joinEsc, if_pos, reduceIte, Nat.reduceAdd, Nat.reduceLeDiff, Nat.reduceLT, Nat.reduceEqDiff]
          exact hr
      simp +contextual only [c_i_FarthestOut, seqTl, seqHd] at hml
      simp (maxSteps := 2000000) +contextual only [a_i_FarthestOut, c_i_FarthestOut, e_i_IsParty (cells_mono h _) hn, e_i_within, hwl, h1, h2, hml, cells_mono h, part_encL0 _ hl, hj, show ((j : Int) ≤ (ls.length : Int) - 1) by omega, decide_true, if_true, go_sem, entry, joinEsc, if_pos, reduceIte, Nat.reduceAdd, Nat.reduceLeDiff, Nat.reduceLT, Nat.reduceEqDiff]

theorem e_s_l1Least (a b : Int) : call T pr f_s_l1Least [.int .i64 a, .int .i64 b] ⟨H, e⟩ = some (.int .i64 (if a < b then a else b), ⟨H, e⟩) := by
  rw [call_eq t_s_l1Least]
  by_cases h : a < b <;> simp +contextual only [a_s_l1Least, c_s_l1Least, h, decide_true, decide_false, go_sem, entry, joinEsc, if_pos, reduceIte, Nat.reduceAdd, Nat.reduceLeDiff, Nat.reduceLT, Nat.reduceEqDiff]

/-- the least and the greatest of the first lists of places -/
def farS (d n i : Nat) (es : Found) : Nat → Int × Int
  | 0 => (d, 0)
  | k + 1 => if (mget es (spotsN d n k)).isSome = true then (if (farS d n i es k).1 < (spotsN d n k).getD i 0 then (farS d n i es k).1 else (spotsN d n k).getD i 0, if (spotsN d n k).getD i 0 < (farS d n i es k).2 then (farS d n i es k).2 else (spotsN d n k).getD i 0) else farS d n i es k

theorem farS_le {d n i : Nat} {es : Found} : ∀ K, (farS d n i es K).1 ≤ d ∧ 0 ≤ (farS d n i es K).2 ∧ ∀ k, k < K → (mget es (spotsN d n k)).isSome = true → (farS d n i es K).1 ≤ (spotsN d n k).getD i 0 ∧ (spotsN d n k).getD i 0 ≤ (farS d n i es K).2
  | 0 => ⟨Int.le_refl _, Int.le_refl _, fun k h => absurd h (Nat.not_lt_zero k)⟩
  | K + 1 => by
    obtain ⟨h1, h2, h3⟩ := farS_le (d := d) (n := n) (i := i) (es := es) K
    rw [farS]
    cases hg : (mget es (spotsN d n K)).isSome with
    | false =>
      simp only [Bool.false_eq_true, if_false]
      refine ⟨h1, h2, fun k hk hs => ?_⟩
      by_cases he : k = K
      · subst he
        rw [hg] at hs
        cases hs
      · exact h3 k (by omega) hs
    | true =>
      simp only [if_true]
      refine ⟨by split <;> omega, by split <;> omega, fun k hk hs => ?_⟩
      by_cases he : k = K
      · subst he
        constructor <;> split <;> omega
      · have := h3 k (by omega) hs
        constructor <;> split <;> omega

theorem farS_mem {d n i : Nat} {es : Found} : ∀ K, ((farS d n i es K).1 = d ∨ ∃ k, k < K ∧ (mget es (spotsN d n k)).isSome = true ∧ (farS d n i es K).1 = (spotsN d n k).getD i 0) ∧ ((farS d n i es K).2 = 0 ∨ ∃ k, k < K ∧ (mget es (spotsN d n k)).isSome = true ∧ (farS d n i es K).2 = (spotsN d n k).getD i 0)
  | 0 => ⟨Or.inl rfl, Or.inl rfl⟩
  | K + 1 => by
    obtain ⟨h1, h2⟩ := farS_mem (d := d) (n := n) (i := i) (es := es) K
    have m1 : (farS d n i es K).1 = d ∨ ∃ k, k < K + 1 ∧ (mget es (spotsN d n k)).isSome = true ∧ (farS d n i es K).1 = (spotsN d n k).getD i 0 := by
      rcases h1 with h | ⟨k, hk, h3, h4⟩
      · exact Or.inl h
      · exact Or.inr ⟨k, by omega, h3, h4⟩
    have m2 : (farS d n i es K).2 = 0 ∨ ∃ k, k < K + 1 ∧ (mget es (spotsN d n k)).isSome = true ∧ (farS d n i es K).2 = (spotsN d n k).getD i 0 := by
      rcases h2 with h | ⟨k, hk, h3, h4⟩
      · exact Or.inl h
      · exact Or.inr ⟨k, by omega, h3, h4⟩
    rw [farS]
    cases hg : (mget es (spotsN d n K)).isSome with
    | false =>
      simp only [Bool.false_eq_true, if_false]
      exact ⟨m1, m2⟩
    | true =>
      simp only [if_true]
      constructor
      · split
        · exact m1
        · exact Or.inr ⟨K, by omega, hg, rfl⟩
      · split
        · exact m2
        · exact Or.inr ⟨K, by omega, hg, rfl⟩

theorem farS_eq {d n i : Nat} (hn : n ≤ 3) (hi : i < n) {es : Found} (hd : (es.map (·.1)).Nodup) (hP : ∀ q ∈ es, Box0 (d : Int) n q.1) {y : Int} (hy : ∃ q ∈ es, y = q.1.getD i 0) : farS d n i es ((d + 1) ^ n) = (minL y (onesF es i), maxL y (onesF es i)) := by
  have hb := boxN (d := d) hn
  obtain ⟨l1, l2, l3⟩ := farS_le (d := d) (n := n) (i := i) (es := es) ((d + 1) ^ n)
  obtain ⟨m1, m2⟩ := farS_mem (d := d) (n := n) (i := i) (es := es) ((d + 1) ^ n)
  have hall : ∀ q ∈ es, (farS d n i es ((d + 1) ^ n)).1 ≤ q.1.getD i 0 ∧ q.1.getD i 0 ≤ (farS d n i es ((d + 1) ^ n)).2 := by
    intro q hq
    have B := hP q hq
    have := l3 (keyN d n q.1) (hb.lt _ B) (by rw [spotsN_keyN hn B, mget_of_mem hd (v := q.2) hq]; rfl)
    rwa [spotsN_keyN hn B] at this
  have hin : ∀ k, (mget es (spotsN d n k)).isSome = true → (spotsN d n k).getD i 0 ∈ onesF es i := by
    intro k hk
    obtain ⟨v, hv⟩ := Option.isSome_iff_exists.mp hk
    exact List.mem_map_of_mem (f := fun q : List Int × Int => q.1.getD i 0) (mget_mem hv)
  have hone : ∀ z ∈ onesF es i, (farS d n i es ((d + 1) ^ n)).1 ≤ z ∧ z ≤ (farS d n i es ((d + 1) ^ n)).2 ∧ 0 ≤ z ∧ z ≤ d := by
    intro z hz
    obtain ⟨q, hq, rfl⟩ := List.mem_map.mp hz
    have := (hP q hq).on i hi
    have := hall q hq
    omega
  obtain ⟨q, hq, rfl⟩ := hy
  have hyin : q.1.getD i 0 ∈ onesF es i := List.mem_map_of_mem (f := fun q : List Int × Int => q.1.getD i 0) hq
  have n1 := minL_le (onesF es i) (q.1.getD i 0)
  have n2 := maxL_ge (onesF es i) (q.1.getD i 0)
  have n3 : minL (q.1.getD i 0) (onesF es i) ∈ onesF es i := by
    rcases minL_mem (onesF es i) (q.1.getD i 0) with h | h
    · rw [h]; exact hyin
    · exact h
  have n4 : maxL (q.1.getD i 0) (onesF es i) ∈ onesF es i := by
    rcases maxL_mem (onesF es i) (q.1.getD i 0) with h | h
    · rw [h]; exact hyin
    · exact h
  refine Prod.ext ?_ ?_
  · refine Int.le_antisymm (hone _ n3).1 ?_
    rcases m1 with h | ⟨k, _, h1, h2⟩
    · rw [h]
      exact (hone _ n3).2.2.2
    · rw [h2]
      exact n1.2 _ (hin k h1)
  · refine Int.le_antisymm ?_ (hone _ n4).2.1
    rcases m2 with h | ⟨k, _, h1, h2⟩
    · rw [h]
      exact (hone _ n4).2.2.1
    · rw [h2]
      exact n2.2 _ (hin k h1)

theorem e_s_FarthestOut {q : Nat} {c : Option Nat} {ls : List Ld} {x a b s : Int} (i : Int) (h : cellsAt H q = some (encL ls)) (hn : ls.length ≤ 9223372036854775806) : call T pr f_s_FarthestOut [ptV x a b (slL q ls.length c) s, .int .i64 i] ⟨H, e⟩ =
    some (farV x a b s ls i, ⟨H, e⟩) := by
  apply Wc.eq
  rw [call_wc t_s_FarthestOut]
  unfold farV
  have hwl : IntKind.i64.wrap ((ls.length : Int) - 1) = (ls.length : Int) - 1 := wrap64 (by omega) (by omega)
  cases h1 : partyOk x a b ls s with
  | false => simp +contextual only [a_s_FarthestOut, c_s_FarthestOut, e_s_l11Party (cells_mono h _) hn, h1, Bool.false_eq_true, if_false, Wp_some, Wp_none, Wp_ite, Wc_some, Wc_none, Wc_ite, Wp_thenRun, seqQ_normal, seqQ_exit, seqQ_ret, Wp_inBlock, blkQ_normal, blkQ_ret, blkQ_same, blkQ_exit, Wp_opThen, opQ_at, Wp_guardP, retQ_normal, retQ_ret, loopQ_normal, loopQ_exit, loopQ_ret, go_sem, entry, joinEsc, if_pos, reduceIte, Nat.reduceAdd, Nat.reduceLeDiff, Nat.reduceLT, Nat.reduceEqDiff]
  | true =>
    cases h2 : oneOk ls i with
    | false =>
      unfold oneOk at h2
      simp +contextual only [a_s_FarthestOut, c_s_FarthestOut, e_s_l11Party (cells_mono h _) hn, e_s_l1In, hwl, h1, h2, Bool.false_eq_true, if_false, Wp_some, Wp_none, Wp_ite, Wc_some, Wc_none, Wc_ite, Wp_thenRun, seqQ_normal, seqQ_exit, seqQ_ret, Wp_inBlock, blkQ_normal, blkQ_ret, blkQ_same, blkQ_exit, Wp_opThen, opQ_at, Wp_guardP, retQ_normal, retQ_ret, loopQ_normal, loopQ_exit, loopQ_ret, go_sem, entry, joinEsc, if_pos, reduceIte, Nat.reduceAdd, Nat.reduceLeDiff, Nat.reduceLT, Nat.reduceEqDiff]
    | true =>
      unfold oneOk at h2
      have h2' := h2
      have K := plk_of h1
      have G := good_spots h1
      have hn3 := K.n3
      simp only [Bool.and_eq_true, decide_eq_true_eq] at h2'
      obtain ⟨j, rfl⟩ : ∃ j : Nat, i = j := ⟨i.toNat, by omega⟩
      have hj : j < ls.length := by omega
      have hl : ls[j]? = some ls[j] := List.getElem?_eq_getElem hj
      obtain ⟨d, rfl⟩ : ∃ d : Nat, x = d := ⟨x.toNat, by have := K.x1; omega⟩
      have hd12 : d ≤ 12 := by have := K.x12; omega
      obtain ⟨T1, hP⟩ := foundP_told h1
      have hfar : farZ (d : Int) a b s ls j = farS d ls.length j (foundP (d : Int) a b s ls) ((d + 1) ^ ls.length) := by
        unfold farZ
        rw [farS_eq hn3 hj T1.nd (fun q hq => (hP q hq).toBox0) (y := plOf ls j) ⟨(spots ls, 0), mget_mem T1.src, ?_⟩]
        unfold plOf spots
        rw [getD_app_left (by simpa using hj), hl]
        simp [List.getD_eq_getElem?_getD, hj]
      have hsp := fun X => e_s_l11Spread (pr := pr) (e := none) (c := c) (ls := ls) (z := spots ls) (cells_mono (by rw [spots_self]; exact h) X) K G
      have hes' : bfsAll (nxP (d : Int) a b s ls) (spots ls) = foundP (d : Int) a b s ls := rfl
      rw [hes'] at hsp
      rw [Int.toNat_natCast, hfar]
      have hpos : ∀ t v, mget (foundP (d : Int) a b s ls) t = some v → 0 ≤ v := fun t v hv => (T1.par _ _ hv).1
      obtain ⟨es, hes⟩ : ∃ es, es = foundP (d : Int) a b s ls := ⟨_, rfl⟩
      have hpw := pow_le hn3 hd12
      obtain ⟨N, hNe⟩ : ∃ N, N = (d + 1) ^ ls.length := ⟨_, rfl⟩
      rw [← hes] at hsp hpos ⊢
      rw [← hNe] at hsp hpw ⊢
      simp (maxSteps := 2000000) +contextual only [a_s_FarthestOut, c_s_FarthestOut, e_s_l11Party (cells_mono h _) hn, e_s_l1In, hwl, h1, h2, hsp, show ((j : Int) ≤ (ls.length : Int) - 1) by omega, decide_true, if_true, Wp_some, Wp_none, Wp_ite, Wc_some, Wc_none, Wc_ite, Wp_thenRun, seqQ_normal, seqQ_exit, seqQ_ret, Wp_inBlock, blkQ_normal, blkQ_ret, blkQ_same, blkQ_exit, Wp_opThen, opQ_at, Wp_guardP, retQ_normal, retQ_ret, loopQ_normal, loopQ_exit, loopQ_ret, go_sem, entry, joinEsc, if_pos, reduceIte, Nat.reduceAdd, Nat.reduceLeDiff, Nat.reduceLT, Nat.reduceEqDiff]
      obtain ⟨A, hA⟩ : ∃ A : Blk, A = .cells [.int .i64 d, .int .i64 a, .int .i64 b, slL q ls.length c, .int .i64 s] true := ⟨_, rfl⟩
      refine Wp_loop (fun k st => ∃ (i : Nat) (low high : Int) (L : List Blk) (w11 w12 : AV), i + k = N ∧ low = (farS d ls.length j es i).1 ∧ high = (farS d ls.length j es i).2 ∧ Grown (H ++ [A, .cells (encI (outF d ls.length es)) true]) L ∧
        st = ⟨[ptV (d : Int) a b (slL q ls.length c) s, .int .i64 j, .ptr (some (H.length, 0)), .int .i64 0, .int .i64 0, .bool false, .int .i64 low, .int .i64 high, .slice (some (H.length + 1, 0)) 1 N (some N), .int .i64 i, .bool false, w11, w12], ⟨L, none⟩⟩) ?_ N _ ?_
      rotate_left
      · exact ⟨0, _, _, _, _, _, by omega, rfl, rfl, ⟨[], by rw [hA, List.append_nil]⟩, rfl⟩
      rintro k _ ⟨i, low, high, L, w11, w12, hi, hlow, hhigh, hg, rfl⟩
      by_cases hk : k = 0
      · have he : i = N := by omega
        subst he
        obtain ⟨X, rfl⟩ := gr_H hg
        rw [← hlow, ← hhigh]
        simp (maxSteps := 2000000) +contextual only [w_s_FarthestOut_1, a_s_FarthestOut, Nat.lt_irrefl, decide_false, Wp_some, Wp_none, Wp_ite, Wc_some, Wc_none, Wc_ite, Wp_thenRun, seqQ_normal, seqQ_exit, seqQ_ret, Wp_inBlock, blkQ_normal, blkQ_ret, blkQ_same, blkQ_exit, Wp_opThen, opQ_at, Wp_guardP, retQ_normal, retQ_ret, loopQ_normal, loopQ_exit, loopQ_ret, go_sem, entry, joinEsc, if_pos, reduceIte, Nat.reduceAdd, Nat.reduceLeDiff, Nat.reduceLT, Nat.reduceEqDiff]
      · have hil : i < N := by omega
        have hw := wrap_succ (show i < 9223372036854775807 by omega)
        have hA0 : ∀ X, cellsAt (L ++ X) H.length = some [.int .i64 d, .int .i64 a, .int .i64 b, slL q ls.length c, .int .i64 s] := fun X => by
          have := gr_at 0 (by simp) hg
          rw [Nat.add_zero] at this
          rw [hA] at this
          exact cells_more this X
        have hA1 : cellsAt L H.length = some [.int .i64 d, .int .i64 a, .int .i64 b, slL q ls.length c, .int .i64 s] := by
          have := hA0 []
          rwa [List.append_nil] at this
        have hob : L[H.length + 1]? = some (.cells (encI (outF d ls.length es)) true) := gr_at 1 (by simp) hg
        have hob0 := cellsAt_of hob
        have hat := outF_at (d := d) (n := ls.length) es (k := i) (by omega)
        have hL0 := fun X => e_s_l11At (pr := pr) (H := L ++ X) (e := none) (c := c) (q := q) (ls := ls) (d := d) (k := i) (cells_mono (gr_cells h hg) X) hn3 hd12 (by omega) a b s
        have hL1 := e_s_l11At (pr := pr) (H := L) (e := none) (c := c) (q := q) (ls := ls) (d := d) (k := i) (gr_cells h hg) hn3 hd12 (by omega) a b s
        have hg1 := putL_get ls (ints (digs (d + 1) ls.length i).reverse) j hj
        have hsp1 : (ints (digs (d + 1) ls.length i).reverse).getD j 0 = (spotsN d ls.length i).getD j 0 := by
          unfold spotsN
          rw [getD_app_left]
          rw [ints_length, List.length_reverse, digs_length]
          exact hj
        rw [hsp1] at hg1
        have hns : farS d ls.length j es (i + 1) = if (mget es (spotsN d ls.length i)).isSome = true then (if (farS d ls.length j es i).1 < (spotsN d ls.length i).getD j 0 then (farS d ls.length j es i).1 else (spotsN d ls.length i).getD j 0, if (spotsN d ls.length i).getD j 0 < (farS d ls.length j es i).2 then (farS d ls.length j es i).2 else (spotsN d ls.length i).getD j 0) else farS d ls.length j es i := rfl
        rw [← hlow, ← hhigh] at hns
        cases hs : mget es (spotsN d ls.length i) with
        | none =>
          rw [hs] at hns hat
          simp only [Option.getD_none, Option.isSome_none, Bool.false_eq_true, if_false] at hns hat
          have hm1 : ¬ ((0 : Int) ≤ -1) := by omega
          simp (maxSteps := 2000000) +contextual only [w_s_FarthestOut_1, hil, hw, hob0, part_encI _ hat, hm1, decide_true, decide_false, Wp_some, Wp_none, Wp_ite, Wc_some, Wc_none, Wc_ite, Wp_thenRun, seqQ_normal, seqQ_exit, seqQ_ret, Wp_inBlock, blkQ_normal, blkQ_ret, blkQ_same, blkQ_exit, Wp_opThen, opQ_at, Wp_guardP, retQ_normal, retQ_ret, loopQ_normal, loopQ_exit, loopQ_ret, go_sem, entry, joinEsc, if_pos, reduceIte, Nat.reduceAdd, Nat.reduceLeDiff, Nat.reduceLT, Nat.reduceEqDiff]
          exact ⟨k - 1, by omega, i + 1, _, _, _, _, _, by omega, by rw [hns]; exact hlow, by rw [hns]; exact hhigh, hg, rfl⟩
        | some v =>
          have hv0 := hpos _ _ hs
          rw [hs] at hns hat
          simp only [Option.getD_some, Option.isSome_some, if_true] at hns hat
          generalize (spotsN d ls.length i).getD j 0 = y at *
          simp (maxSteps := 2000000) +contextual only [w_s_FarthestOut_1, hil, hw, hA0, hA1, hob0, part_encI _ hat, hv0, hL0, hL1, hj, part_encL0 _ hg1, e_s_l1Least, e_s_l1Most, decide_true, decide_false, Wp_some, Wp_none, Wp_ite, Wc_some, Wc_none, Wc_ite, Wp_thenRun, seqQ_normal, seqQ_exit, seqQ_ret, Wp_inBlock, blkQ_normal, blkQ_ret, blkQ_same, blkQ_exit, Wp_opThen, opQ_at, Wp_guardP, retQ_normal, retQ_ret, loopQ_normal, loopQ_exit, loopQ_ret, go_sem, entry, joinEsc, if_pos, reduceIte, Nat.reduceAdd, Nat.reduceLeDiff, Nat.reduceLT, Nat.reduceEqDiff]
          exact ⟨k - 1, by omega, i + 1, _, _, _, _, _, by omega, by rw [hns], by rw [hns], hg.more _, rfl⟩

end Go.Proofs.Ythkgpblohjpcdaa.Slim

/- Planks: the first one of the shortest walks, in the program. -/
namespace Go.Proofs.Ythkgpblohjpcdaa.Slim

open Go

set_option linter.unusedSimpArgs false

set_option linter.unusedVariables false

variable {pr : Prims} {H : List Blk} {e : Option Nat}

end Go.Proofs.Ythkgpblohjpcdaa.Slim

/- Planks: the first one of the shortest walks, in the other program; the law. -/
namespace Go.Proofs.Ythkgpblohjpcdaa.Slim

open Go

set_option linter.unusedSimpArgs false

set_option linter.unusedVariables false

variable {pr : Prims} {H : List Blk} {e : Option Nat}

theorem cells_same {L L' : List Blk} {q : Nat} (h : L'[q]? = L[q]?) : cellsAt L' q = cellsAt L q := by unfold cellsAt; rw [h]

/-- how the other program's walk lies in memory -/
structure FS (Bs L : List Blk) (d : Nat) (a b s : Int) (ls : List Ld) (sb nb nq ob : Nat) (nc oc : Option Nat) (es : Found) (z : List Int) (W : List Ld) : Prop where
  gr : Grown Bs L
  nbl : Bs.length ≤ nb
  obl : Bs.length ≤ ob
  n1 : ob ≠ sb
  n2 : ob ≠ nb
  n3 : ob ≠ nq
  n4 : nb ≠ sb
  n5 : nb ≠ nq
  sp : L[sb]? = some (.cells (encI (outF d ls.length es)) true)
  now : L[nb]? = some (.cells [.int .i64 d, .int .i64 a, .int .i64 b, slL nq ls.length nc, .int .i64 s] true)
  np : cellsAt L nq = some (encL (putL ls z))
  out : L[ob]? = some (.cells (encL W) true)
  cap : oc = some 0 → W.length = 0

theorem FS.more {Bs L : List Blk} {d : Nat} {a b s : Int} {ls : List Ld} {sb nb nq ob : Nat} {nc oc : Option Nat} {es : Found} {z : List Int} {W : List Ld} (S : FS Bs L d a b s ls sb nb nq ob nc oc es z W) (X : List Blk) : FS Bs (L ++ X) d a b s ls sb nb nq ob nc oc es z W :=
  ⟨S.gr.more _, S.nbl, S.obl, S.n1, S.n2, S.n3, S.n4, S.n5, get_more S.sp _, get_more S.now _, cells_mono S.np _, get_more S.out _, S.cap⟩

end Go.Proofs.Ythkgpblohjpcdaa.Slim

/- Beams: what is drawn. -/
namespace Go.Proofs.Ythkgpblohjpcdaa.Slim

open Go

set_option linter.unusedSimpArgs false

set_option linter.unusedVariables false

variable {pr : Prims} {H : List Blk} {e : Option Nat}

theorem leastZ (a b : Int) : call T pr f_s_l1Least [.int .i64 a, .int .i64 b] ⟨H, e⟩ = some (.int .i64 (if a < b then a else b), ⟨H, e⟩) := by
  rw [call_eq t_s_l1Least]
  by_cases h : a < b <;> simp +contextual only [a_s_l1Least, c_s_l1Least, h, decide_true, decide_false, go_sem, entry, joinEsc, if_pos, reduceIte, Nat.reduceAdd, Nat.reduceLeDiff, Nat.reduceLT, Nat.reduceEqDiff]

set_option maxHeartbeats 4000000 in
theorem wc_beam {q : Nat} {av : AV} {p : Int} (h : Cu H q av p) (hp : p ≤ 10000000000) : Wc (call T pr f_s_l1Cur_beam [.ptr (some (q, 0))] ⟨H, e⟩) (fun v m => ∃ x a b y z : Int, v = bmV x a b ∧ 0 ≤ y ∧ y ≤ p + 20 ∧ m = ⟨H.set q (curB av y z), e⟩) := by
  have hl := h.lt
  rw [call_wc t_s_l1Cur_beam]
  obtain ⟨R, hR⟩ : ∃ R, R = (seqTl (seqTl (seqTl (seqTl (seqTl c_s_l1Cur_beam))))) := ⟨_, rfl⟩
  obtain ⟨R1, hR1⟩ : ∃ R, R = (seqTl (seqTl (seqTl (seqTl c_s_l1Cur_beam)))) := ⟨_, rfl⟩
  have hc1 : R1 = .seq (seqHd R1) R := by rw [hR1, hR]; rfl
  have hc : c_s_l1Cur_beam = (.seq (seqHd c_s_l1Cur_beam) (.seq (seqHd (seqTl c_s_l1Cur_beam)) (.seq (seqHd (seqTl (seqTl c_s_l1Cur_beam))) (.seq (seqHd (seqTl (seqTl (seqTl c_s_l1Cur_beam)))) R1)))) := by rw [hR1]; rfl
  have r : ∀ (x a b y z : Int) (B1 : Blk) (G : List Blk) (w2 w4 w5 w6 w7 w8 : AV), 0 ≤ y → y ≤ p + 20 →
      Wp (run T pr R ⟨[.ptr (some (q, 0)), .ptr (some (H.length, 0)), w2, .ptr (some (H.length + 2, 0)), w4, w5, w6, w7, w8], ⟨H.set q (curB av y z) ++ (.cells [.int .i64 0, .int .i64 0, .int .i64 0] true :: B1 :: .cells [.int .i64 x, .int .i64 a, .int .i64 b] true :: G), none⟩⟩) (retQ a_s_l1Cur_beam ⟨H, e⟩ fun v m => ∃ x a b y z : Int, v = bmV x a b ∧ 0 ≤ y ∧ y ≤ p + 20 ∧ m = ⟨H.set q (curB av y z), e⟩) := by
    rintro x a b y z B1 G w2 w4 w5 w6 w7 w8 hy0 hy1
    rw [hR]
    simp (maxSteps := 2000000) +contextual only [a_s_l1Cur_beam, c_s_l1Cur_beam, seqTl, seqHd, hl, cellsAt_s0, cellsAt_sk, blkAt_s0, blkAt_sk, set_s0, set_sk, set_sapp, set_app, List.set_set, List.length_set, finish_one_setG, finish_one_set0, clean_none', Nat.add_assoc, Wp_some, Wp_none, Wp_ite, Wc_some, Wc_none, Wc_ite, Wp_thenRun, seqQ_normal, seqQ_exit, seqQ_ret, Wp_inBlock, blkQ_normal, blkQ_ret, blkQ_same, blkQ_exit, Wp_opThen, opQ_at, Wp_guardP, retQ_normal, retQ_ret, loopQ_normal, loopQ_exit, loopQ_ret, finish_one_eq, finish_one_eq0, finish_two_eq, finish_two_eq0, roots_slice_new, roots_slice_new0, roots_slice_none, roots_ptr_new, roots_ptr_new0, roots_int, roots_bool, roots_str, roots_agg, roots_tup, roots_cons, roots_nil, rename_slice, rename_slice_none, rename_ptr, rename_int, rename_bool, rename_str, rename_agg, rename_tup, rename_cons, rename_nil, keepBlks_nil, keepBlks_cons, flatAll_nil, flatAll_cons, flatBlk_cells, dedup_nil, dedup_one, dedup_two, renum_one, renum_one0, renum_two0, renum_two1, clean_none', clean_some, minEsc_none, minEsc_some, Nat.add_left_cancel_iff, Nat.le_add_right, Nat.le_refl, decide_true, go_sem, entry, joinEsc, if_pos, reduceIte, Nat.reduceAdd, Nat.reduceLeDiff, Nat.reduceLT, Nat.reduceEqDiff]
    exact ⟨x, a, b, y, z, rfl, hy0, hy1, rfl⟩
  have r1 : ∀ (x a b y z : Int) (B1 : Blk) (w2 w4 w5 w6 w7 w8 : AV), 0 ≤ y → y ≤ p + 12 →
      Wp (run T pr R1 ⟨[.ptr (some (q, 0)), .ptr (some (H.length, 0)), w2, .ptr (some (H.length + 2, 0)), w4, w5, w6, w7, w8], ⟨H.set q (curB av y z) ++ [.cells [.int .i64 0, .int .i64 0, .int .i64 0] true, B1, .cells [.int .i64 x, .int .i64 a, .int .i64 b] true], none⟩⟩) (retQ a_s_l1Cur_beam ⟨H, e⟩ fun v m => ∃ x a b y z : Int, v = bmV x a b ∧ 0 ≤ y ∧ y ≤ p + 20 ∧ m = ⟨H.set q (curB av y z), e⟩) := by
    rintro x a b y z B1 w2 w4 w5 w6 w7 w8 hy0 hy1
    have h1 := h.step hy0 z
    rw [hc1]
    simp (maxSteps := 2000000) +contextual only [hR1, c_s_l1Cur_beam, seqTl, seqHd, hl, cellsAt_s0, cellsAt_sk, blkAt_s0, blkAt_sk, set_s0, set_sk, set_sapp, set_app, List.set_set, List.length_set, finish_one_setG, finish_one_set0, clean_none', Nat.add_assoc, Wp_some, Wp_none, Wp_ite, Wc_some, Wc_none, Wc_ite, Wp_thenRun, seqQ_normal, seqQ_exit, seqQ_ret, Wp_inBlock, blkQ_normal, blkQ_ret, blkQ_same, blkQ_exit, Wp_opThen, opQ_at, Wp_guardP, retQ_normal, retQ_ret, loopQ_normal, loopQ_exit, loopQ_ret, go_sem, entry, joinEsc, if_pos, reduceIte, Nat.reduceAdd, Nat.reduceLeDiff, Nat.reduceLT, Nat.reduceEqDiff]
    refine (wc_pick 50 (h1.more _) (by omega) (by omega)).mono ?_
    rintro v m ⟨x5, y5, z5, rfl, hx50, hx51, hy50, hy51, rfl⟩
    have h5 := h1.step hy50 z5
    rw [List.set_set] at h5
    by_cases c0 : x5 = 0
    · subst c0
      simp (maxSteps := 2000000) +contextual only [fillParts, hl, decide_true, cellsAt_s0, cellsAt_sk, blkAt_s0, blkAt_sk, set_s0, set_sk, set_sapp, set_app, List.set_set, List.length_set, finish_one_setG, finish_one_set0, clean_none', Nat.add_assoc, Wp_some, Wp_none, Wp_ite, Wc_some, Wc_none, Wc_ite, Wp_thenRun, seqQ_normal, seqQ_exit, seqQ_ret, Wp_inBlock, blkQ_normal, blkQ_ret, blkQ_same, blkQ_exit, Wp_opThen, opQ_at, Wp_guardP, retQ_normal, retQ_ret, loopQ_normal, loopQ_exit, loopQ_ret, go_sem, entry, joinEsc, if_pos, reduceIte, Nat.reduceAdd, Nat.reduceLeDiff, Nat.reduceLT, Nat.reduceEqDiff]
      refine (amongZ (n := 3) [0, 61, -1] (h5.more _) (by omega) (by simp +contextual only [cellsAt_s0, cellsAt_sk, blkAt_s0, blkAt_sk, set_s0, set_sk, set_sapp, set_app, List.set_set, List.length_set, finish_one_setG, finish_one_set0, clean_none', Nat.add_assoc, go_sem, entry, joinEsc, if_pos, reduceIte, Nat.reduceAdd, Nat.reduceLeDiff, Nat.reduceLT, Nat.reduceEqDiff]) (by omega) rfl (by omega) (by omega)).mono ?_
      rintro v m ⟨x6, y6, z6, rfl, hx6, hy60, hy61, rfl⟩
      simp (maxSteps := 2000000) +contextual only [fillParts, hl, decide_true, cellsAt_s0, cellsAt_sk, blkAt_s0, blkAt_sk, set_s0, set_sk, set_sapp, set_app, List.set_set, List.length_set, finish_one_setG, finish_one_set0, clean_none', Nat.add_assoc, Wp_some, Wp_none, Wp_ite, Wc_some, Wc_none, Wc_ite, Wp_thenRun, seqQ_normal, seqQ_exit, seqQ_ret, Wp_inBlock, blkQ_normal, blkQ_ret, blkQ_same, blkQ_exit, Wp_opThen, opQ_at, Wp_guardP, retQ_normal, retQ_ret, loopQ_normal, loopQ_exit, loopQ_ret, go_sem, entry, joinEsc, if_pos, reduceIte, Nat.reduceAdd, Nat.reduceLeDiff, Nat.reduceLT, Nat.reduceEqDiff]
      exact r _ _ _ _ _ _ _ _ _ _ _ _ _ hy60 (by omega)
    · have c0' : decide (x5 = 0) = false := decide_eq_false c0
      by_cases c1 : x5 = 1
      · subst c1
        simp (maxSteps := 2000000) +contextual only [fillParts, hl, c0', decide_true, cellsAt_s0, cellsAt_sk, blkAt_s0, blkAt_sk, set_s0, set_sk, set_sapp, set_app, List.set_set, List.length_set, finish_one_setG, finish_one_set0, clean_none', Nat.add_assoc, Wp_some, Wp_none, Wp_ite, Wc_some, Wc_none, Wc_ite, Wp_thenRun, seqQ_normal, seqQ_exit, seqQ_ret, Wp_inBlock, blkQ_normal, blkQ_ret, blkQ_same, blkQ_exit, Wp_opThen, opQ_at, Wp_guardP, retQ_normal, retQ_ret, loopQ_normal, loopQ_exit, loopQ_ret, go_sem, entry, joinEsc, if_pos, reduceIte, Nat.reduceAdd, Nat.reduceLeDiff, Nat.reduceLT, Nat.reduceEqDiff]
        refine (amongZ (n := 3) [-1, b, IntKind.i64.wrap (b + 1)] (h5.more _) (by omega) (by simp +contextual only [cellsAt_s0, cellsAt_sk, blkAt_s0, blkAt_sk, set_s0, set_sk, set_sapp, set_app, List.set_set, List.length_set, finish_one_setG, finish_one_set0, clean_none', Nat.add_assoc, go_sem, entry, joinEsc, if_pos, reduceIte, Nat.reduceAdd, Nat.reduceLeDiff, Nat.reduceLT, Nat.reduceEqDiff]) (by omega) rfl (by omega) (by omega)).mono ?_
        rintro v m ⟨x6, y6, z6, rfl, hx6, hy60, hy61, rfl⟩
        simp (maxSteps := 2000000) +contextual only [fillParts, hl, decide_true, cellsAt_s0, cellsAt_sk, blkAt_s0, blkAt_sk, set_s0, set_sk, set_sapp, set_app, List.set_set, List.length_set, finish_one_setG, finish_one_set0, clean_none', Nat.add_assoc, Wp_some, Wp_none, Wp_ite, Wc_some, Wc_none, Wc_ite, Wp_thenRun, seqQ_normal, seqQ_exit, seqQ_ret, Wp_inBlock, blkQ_normal, blkQ_ret, blkQ_same, blkQ_exit, Wp_opThen, opQ_at, Wp_guardP, retQ_normal, retQ_ret, loopQ_normal, loopQ_exit, loopQ_ret, go_sem, entry, joinEsc, if_pos, reduceIte, Nat.reduceAdd, Nat.reduceLeDiff, Nat.reduceLT, Nat.reduceEqDiff]
        exact r _ _ _ _ _ _ _ _ _ _ _ _ _ hy60 (by omega)
      · have c1' : decide (x5 = 1) = false := decide_eq_false c1
        by_cases c2 : x5 = 2
        · subst c2
          simp (maxSteps := 2000000) +contextual only [fillParts, hl, c0', c1', decide_true, cellsAt_s0, cellsAt_sk, blkAt_s0, blkAt_sk, set_s0, set_sk, set_sapp, set_app, List.set_set, List.length_set, finish_one_setG, finish_one_set0, clean_none', Nat.add_assoc, Wp_some, Wp_none, Wp_ite, Wc_some, Wc_none, Wc_ite, Wp_thenRun, seqQ_normal, seqQ_exit, seqQ_ret, Wp_inBlock, blkQ_normal, blkQ_ret, blkQ_same, blkQ_exit, Wp_opThen, opQ_at, Wp_guardP, retQ_normal, retQ_ret, loopQ_normal, loopQ_exit, loopQ_ret, go_sem, entry, joinEsc, if_pos, reduceIte, Nat.reduceAdd, Nat.reduceLeDiff, Nat.reduceLT, Nat.reduceEqDiff]
          refine (amongZ (n := 3) [IntKind.i64.wrap (x + 1), 0, 4611686018427387904] (h5.more _) (by omega) (by simp +contextual only [cellsAt_s0, cellsAt_sk, blkAt_s0, blkAt_sk, set_s0, set_sk, set_sapp, set_app, List.set_set, List.length_set, finish_one_setG, finish_one_set0, clean_none', Nat.add_assoc, go_sem, entry, joinEsc, if_pos, reduceIte, Nat.reduceAdd, Nat.reduceLeDiff, Nat.reduceLT, Nat.reduceEqDiff]) (by omega) rfl (by omega) (by omega)).mono ?_
          rintro v m ⟨x6, y6, z6, rfl, hx6, hy60, hy61, rfl⟩
          simp (maxSteps := 2000000) +contextual only [fillParts, hl, decide_true, cellsAt_s0, cellsAt_sk, blkAt_s0, blkAt_sk, set_s0, set_sk, set_sapp, set_app, List.set_set, List.length_set, finish_one_setG, finish_one_set0, clean_none', Nat.add_assoc, Wp_some, Wp_none, Wp_ite, Wc_some, Wc_none, Wc_ite, Wp_thenRun, seqQ_normal, seqQ_exit, seqQ_ret, Wp_inBlock, blkQ_normal, blkQ_ret, blkQ_same, blkQ_exit, Wp_opThen, opQ_at, Wp_guardP, retQ_normal, retQ_ret, loopQ_normal, loopQ_exit, loopQ_ret, go_sem, entry, joinEsc, if_pos, reduceIte, Nat.reduceAdd, Nat.reduceLeDiff, Nat.reduceLT, Nat.reduceEqDiff]
          exact r _ _ _ _ _ _ _ _ _ _ _ _ _ hy60 (by omega)
        · have c2' : decide (x5 = 2) = false := decide_eq_false c2
          simp (maxSteps := 2000000) +contextual only [hl, c0', c1', c2', cellsAt_s0, cellsAt_sk, blkAt_s0, blkAt_sk, set_s0, set_sk, set_sapp, set_app, List.set_set, List.length_set, finish_one_setG, finish_one_set0, clean_none', Nat.add_assoc, Wp_some, Wp_none, Wp_ite, Wc_some, Wc_none, Wc_ite, Wp_thenRun, seqQ_normal, seqQ_exit, seqQ_ret, Wp_inBlock, blkQ_normal, blkQ_ret, blkQ_same, blkQ_exit, Wp_opThen, opQ_at, Wp_guardP, retQ_normal, retQ_ret, loopQ_normal, loopQ_exit, loopQ_ret, go_sem, entry, joinEsc, if_pos, reduceIte, Nat.reduceAdd, Nat.reduceLeDiff, Nat.reduceLT, Nat.reduceEqDiff]
          exact r _ _ _ _ _ _ _ _ _ _ _ _ _ hy50 (by omega)
  show Wp (run T pr c_s_l1Cur_beam _) _
  rw [hc]
  simp (maxSteps := 2000000) +contextual only [a_s_l1Cur_beam, c_s_l1Cur_beam, seqTl, seqHd, fillParts, cellsAt_s0, cellsAt_sk, blkAt_s0, blkAt_sk, set_s0, set_sk, set_sapp, set_app, List.set_set, List.length_set, finish_one_setG, finish_one_set0, clean_none', Nat.add_assoc, Wp_some, Wp_none, Wp_ite, Wc_some, Wc_none, Wc_ite, Wp_thenRun, seqQ_normal, seqQ_exit, seqQ_ret, Wp_inBlock, blkQ_normal, blkQ_ret, blkQ_same, blkQ_exit, Wp_opThen, opQ_at, Wp_guardP, retQ_normal, retQ_ret, loopQ_normal, loopQ_exit, loopQ_ret, go_sem, entry, joinEsc, if_pos, reduceIte, Nat.reduceAdd, Nat.reduceLeDiff, Nat.reduceLT, Nat.reduceEqDiff]
  refine (amongZ (n := 8) [8, 10, 6, 4, 12, 1, 20, 60] (h.more _) (by omega) (by simp +contextual only [cellsAt_s0, cellsAt_sk, blkAt_s0, blkAt_sk, set_s0, set_sk, set_sapp, set_app, List.set_set, List.length_set, finish_one_setG, finish_one_set0, clean_none', Nat.add_assoc, go_sem, entry, joinEsc, if_pos, reduceIte, Nat.reduceAdd, Nat.reduceLeDiff, Nat.reduceLT, Nat.reduceEqDiff]) (by omega) rfl (by omega) (by omega)).mono ?_
  rintro v m ⟨x1, y1, z1, rfl, hx1, hy10, hy11, rfl⟩
  have h1 := h.step hy10 z1
  have hx1' : 0 ≤ x1 ∧ x1 ≤ 60 := by
    simp at hx1
    omega
  simp (maxSteps := 2000000) +contextual only [fillParts, hl, cellsAt_s0, cellsAt_sk, blkAt_s0, blkAt_sk, set_s0, set_sk, set_sapp, set_app, List.set_set, List.length_set, finish_one_setG, finish_one_set0, clean_none', Nat.add_assoc, Wp_some, Wp_none, Wp_ite, Wc_some, Wc_none, Wc_ite, Wp_thenRun, seqQ_normal, seqQ_exit, seqQ_ret, Wp_inBlock, blkQ_normal, blkQ_ret, blkQ_same, blkQ_exit, Wp_opThen, opQ_at, Wp_guardP, retQ_normal, retQ_ret, loopQ_normal, loopQ_exit, loopQ_ret, go_sem, entry, joinEsc, if_pos, reduceIte, Nat.reduceAdd, Nat.reduceLeDiff, Nat.reduceLT, Nat.reduceEqDiff]
  refine (wc_one 2 (h1.more _) (by omega) (by omega)).mono ?_
  rintro v m ⟨x2, y2, z2, rfl, hy20, hy21, rfl⟩
  have h2 := h1.step hy20 z2
  rw [List.set_set] at h2
  cases x2 with
  | false =>
    simp (maxSteps := 2000000) +contextual only [hl, cellsAt_s0, cellsAt_sk, blkAt_s0, blkAt_sk, set_s0, set_sk, set_sapp, set_app, List.set_set, List.length_set, finish_one_setG, finish_one_set0, clean_none', Nat.add_assoc, Wp_some, Wp_none, Wp_ite, Wc_some, Wc_none, Wc_ite, Wp_thenRun, seqQ_normal, seqQ_exit, seqQ_ret, Wp_inBlock, blkQ_normal, blkQ_ret, blkQ_same, blkQ_exit, Wp_opThen, opQ_at, Wp_guardP, retQ_normal, retQ_ret, loopQ_normal, loopQ_exit, loopQ_ret, go_sem, entry, joinEsc, if_pos, reduceIte, Nat.reduceAdd, Nat.reduceLeDiff, Nat.reduceLT, Nat.reduceEqDiff]
    exact r1 _ _ _ _ _ _ _ _ _ _ _ _ hy20 (by omega)
  | true =>
    simp (maxSteps := 2000000) +contextual only [hl, cellsAt_s0, cellsAt_sk, blkAt_s0, blkAt_sk, set_s0, set_sk, set_sapp, set_app, List.set_set, List.length_set, finish_one_setG, finish_one_set0, clean_none', Nat.add_assoc, Wp_some, Wp_none, Wp_ite, Wc_some, Wc_none, Wc_ite, Wp_thenRun, seqQ_normal, seqQ_exit, seqQ_ret, Wp_inBlock, blkQ_normal, blkQ_ret, blkQ_same, blkQ_exit, Wp_opThen, opQ_at, Wp_guardP, retQ_normal, retQ_ret, loopQ_normal, loopQ_exit, loopQ_ret, go_sem, entry, joinEsc, if_pos, reduceIte, Nat.reduceAdd, Nat.reduceLeDiff, Nat.reduceLT, Nat.reduceEqDiff]
    refine (wc_pick x1 (h2.more _) (by omega) (by omega)).mono ?_
    rintro v m ⟨x3, y3, z3, rfl, hx30, hx31, hy30, hy31, rfl⟩
    have h3 := h2.step hy30 z3
    rw [List.set_set] at h3
    have hw : IntKind.i64.wrap (x1 - x3) = x1 - x3 := wrap64 (by omega) (by omega)
    simp (maxSteps := 2000000) +contextual only [hl, hw, cellsAt_s0, cellsAt_sk, blkAt_s0, blkAt_sk, set_s0, set_sk, set_sapp, set_app, List.set_set, List.length_set, finish_one_setG, finish_one_set0, clean_none', Nat.add_assoc, Wp_some, Wp_none, Wp_ite, Wc_some, Wc_none, Wc_ite, Wp_thenRun, seqQ_normal, seqQ_exit, seqQ_ret, Wp_inBlock, blkQ_normal, blkQ_ret, blkQ_same, blkQ_exit, Wp_opThen, opQ_at, Wp_guardP, retQ_normal, retQ_ret, loopQ_normal, loopQ_exit, loopQ_ret, go_sem, entry, joinEsc, if_pos, reduceIte, Nat.reduceAdd, Nat.reduceLeDiff, Nat.reduceLT, Nat.reduceEqDiff]
    refine (wc_pick (x1 - x3) (h3.more _) (by omega) (by omega)).mono ?_
    rintro v m ⟨x4, y4, z4, rfl, hx40, hx41, hy40, hy41, rfl⟩
    simp (maxSteps := 2000000) +contextual only [hl, hw, cellsAt_s0, cellsAt_sk, blkAt_s0, blkAt_sk, set_s0, set_sk, set_sapp, set_app, List.set_set, List.length_set, finish_one_setG, finish_one_set0, clean_none', Nat.add_assoc, Wp_some, Wp_none, Wp_ite, Wc_some, Wc_none, Wc_ite, Wp_thenRun, seqQ_normal, seqQ_exit, seqQ_ret, Wp_inBlock, blkQ_normal, blkQ_ret, blkQ_same, blkQ_exit, Wp_opThen, opQ_at, Wp_guardP, retQ_normal, retQ_ret, loopQ_normal, loopQ_exit, loopQ_ret, go_sem, entry, joinEsc, if_pos, reduceIte, Nat.reduceAdd, Nat.reduceLeDiff, Nat.reduceLT, Nat.reduceEqDiff]
    exact r1 _ _ _ _ _ _ _ _ _ _ _ _ hy40 (by omega)

end Go.Proofs.Ythkgpblohjpcdaa.Slim

/- Planks: what is drawn. -/
namespace Go.Proofs.Ythkgpblohjpcdaa.Slim

open Go

set_option linter.unusedSimpArgs false

set_option linter.unusedVariables false

variable {pr : Prims} {H : List Blk} {e : Option Nat}

set_option maxHeartbeats 4000000 in
theorem wc_plank {q : Nat} {av : AV} {p : Int} (h : Cu H q av p) (hp : p ≤ 1000000000) : Wc (call T pr f_s_l1Cur_plank [.ptr (some (q, 0))] ⟨H, e⟩) (fun v m => ∃ x a b y z : Int, v = bmV x a b ∧ 0 ≤ y ∧ y ≤ p + 40 ∧ m = ⟨H.set q (curB av y z), e⟩) := by
  have hl := h.lt
  rw [call_wc t_s_l1Cur_plank]
  obtain ⟨R1, hR1⟩ : ∃ R, R = (seqTl (seqTl (seqTl (seqTl c_s_l1Cur_plank)))) := ⟨_, rfl⟩
  have hc : c_s_l1Cur_plank = (.seq (seqHd c_s_l1Cur_plank) (.seq (seqHd (seqTl c_s_l1Cur_plank)) (.seq (seqHd (seqTl (seqTl c_s_l1Cur_plank))) (.seq (seqHd (seqTl (seqTl (seqTl c_s_l1Cur_plank)))) R1)))) := by rw [hR1]; rfl
  have r1 : ∀ (x a b y z : Int) (B1 : Blk) (w2 w4 w5 : AV), 0 ≤ y → y ≤ p + 12 →
      Wp (run T pr R1 ⟨[.ptr (some (q, 0)), .ptr (some (H.length, 0)), w2, .ptr (some (H.length + 2, 0)), w4, w5], ⟨H.set q (curB av y z) ++ [.cells [.int .i64 0, .int .i64 0, .int .i64 0] true, B1, .cells [.int .i64 x, .int .i64 a, .int .i64 b] true], none⟩⟩) (retQ a_s_l1Cur_plank ⟨H, e⟩ fun v m => ∃ x a b y z : Int, v = bmV x a b ∧ 0 ≤ y ∧ y ≤ p + 40 ∧ m = ⟨H.set q (curB av y z), e⟩) := by
    rintro x a b y z B1 w2 w4 w5 hy0 hy1
    have h1 := h.step hy0 z
    rw [hR1]
    simp (maxSteps := 2000000) +contextual only [c_s_l1Cur_plank, seqTl, seqHd, hl, cellsAt_s0, cellsAt_sk, blkAt_s0, blkAt_sk, set_s0, set_sk, set_sapp, set_app, List.set_set, List.length_set, finish_one_setG, finish_one_set0, clean_none', Nat.add_assoc, Wp_some, Wp_none, Wp_ite, Wc_some, Wc_none, Wc_ite, Wp_thenRun, seqQ_normal, seqQ_exit, seqQ_ret, Wp_inBlock, blkQ_normal, blkQ_ret, blkQ_same, blkQ_exit, Wp_opThen, opQ_at, Wp_guardP, retQ_normal, retQ_ret, loopQ_normal, loopQ_exit, loopQ_ret, go_sem, entry, joinEsc, if_pos, reduceIte, Nat.reduceAdd, Nat.reduceLeDiff, Nat.reduceLT, Nat.reduceEqDiff]
    refine (wc_one 40 (h1.more _) (by omega) (by omega)).mono ?_
    rintro v m ⟨x5, y5, z5, rfl, hy50, hy51, rfl⟩
    have h5 := h1.step hy50 z5
    rw [List.set_set] at h5
    cases x5 with
    | true =>
      simp (maxSteps := 2000000) +contextual only [hl, cellsAt_s0, cellsAt_sk, blkAt_s0, blkAt_sk, set_s0, set_sk, set_sapp, set_app, List.set_set, List.length_set, finish_one_setG, finish_one_set0, clean_none', Nat.add_assoc, Wp_some, Wp_none, Wp_ite, Wc_some, Wc_none, Wc_ite, Wp_thenRun, seqQ_normal, seqQ_exit, seqQ_ret, Wp_inBlock, blkQ_normal, blkQ_ret, blkQ_same, blkQ_exit, Wp_opThen, opQ_at, Wp_guardP, retQ_normal, retQ_ret, loopQ_normal, loopQ_exit, loopQ_ret, go_sem, entry, joinEsc, if_pos, reduceIte, Nat.reduceAdd, Nat.reduceLeDiff, Nat.reduceLT, Nat.reduceEqDiff]
      refine (wc_beam (h5.more _) (by omega)).mono ?_
      rintro v m ⟨x6, a6, b6, y6, z6, rfl, hy60, hy61, rfl⟩
      simp (maxSteps := 2000000) +contextual only [a_s_l1Cur_plank, fillParts, hl, cellsAt_s0, cellsAt_sk, blkAt_s0, blkAt_sk, set_s0, set_sk, set_sapp, set_app, List.set_set, List.length_set, finish_one_setG, finish_one_set0, clean_none', Nat.add_assoc, Wp_some, Wp_none, Wp_ite, Wc_some, Wc_none, Wc_ite, Wp_thenRun, seqQ_normal, seqQ_exit, seqQ_ret, Wp_inBlock, blkQ_normal, blkQ_ret, blkQ_same, blkQ_exit, Wp_opThen, opQ_at, Wp_guardP, retQ_normal, retQ_ret, loopQ_normal, loopQ_exit, loopQ_ret, finish_one_eq, finish_one_eq0, finish_two_eq, finish_two_eq0, roots_slice_new, roots_slice_new0, roots_slice_none, roots_ptr_new, roots_ptr_new0, roots_int, roots_bool, roots_str, roots_agg, roots_tup, roots_cons, roots_nil, rename_slice, rename_slice_none, rename_ptr, rename_int, rename_bool, rename_str, rename_agg, rename_tup, rename_cons, rename_nil, keepBlks_nil, keepBlks_cons, flatAll_nil, flatAll_cons, flatBlk_cells, dedup_nil, dedup_one, dedup_two, renum_one, renum_one0, renum_two0, renum_two1, clean_none', clean_some, minEsc_none, minEsc_some, Nat.add_left_cancel_iff, Nat.le_add_right, Nat.le_refl, decide_true, go_sem, entry, joinEsc, if_pos, reduceIte, Nat.reduceAdd, Nat.reduceLeDiff, Nat.reduceLT, Nat.reduceEqDiff]
      exact ⟨_, _, _, y6, z6, rfl, hy60, by omega, rfl⟩
    | false =>
      simp (maxSteps := 2000000) +contextual only [a_s_l1Cur_plank, fillParts, hl, cellsAt_s0, cellsAt_sk, blkAt_s0, blkAt_sk, set_s0, set_sk, set_sapp, set_app, List.set_set, List.length_set, finish_one_setG, finish_one_set0, clean_none', Nat.add_assoc, Wp_some, Wp_none, Wp_ite, Wc_some, Wc_none, Wc_ite, Wp_thenRun, seqQ_normal, seqQ_exit, seqQ_ret, Wp_inBlock, blkQ_normal, blkQ_ret, blkQ_same, blkQ_exit, Wp_opThen, opQ_at, Wp_guardP, retQ_normal, retQ_ret, loopQ_normal, loopQ_exit, loopQ_ret, finish_one_eq, finish_one_eq0, finish_two_eq, finish_two_eq0, roots_slice_new, roots_slice_new0, roots_slice_none, roots_ptr_new, roots_ptr_new0, roots_int, roots_bool, roots_str, roots_agg, roots_tup, roots_cons, roots_nil, rename_slice, rename_slice_none, rename_ptr, rename_int, rename_bool, rename_str, rename_agg, rename_tup, rename_cons, rename_nil, keepBlks_nil, keepBlks_cons, flatAll_nil, flatAll_cons, flatBlk_cells, dedup_nil, dedup_one, dedup_two, renum_one, renum_one0, renum_two0, renum_two1, clean_none', clean_some, minEsc_none, minEsc_some, Nat.add_left_cancel_iff, Nat.le_add_right, Nat.le_refl, decide_true, go_sem, entry, joinEsc, if_pos, reduceIte, Nat.reduceAdd, Nat.reduceLeDiff, Nat.reduceLT, Nat.reduceEqDiff]
      exact ⟨_, _, _, y5, z5, rfl, hy50, by omega, rfl⟩
  show Wp (run T pr c_s_l1Cur_plank _) _
  rw [hc]
  simp (maxSteps := 2000000) +contextual only [a_s_l1Cur_plank, c_s_l1Cur_plank, seqTl, seqHd, fillParts, cellsAt_s0, cellsAt_sk, blkAt_s0, blkAt_sk, set_s0, set_sk, set_sapp, set_app, List.set_set, List.length_set, finish_one_setG, finish_one_set0, clean_none', Nat.add_assoc, Wp_some, Wp_none, Wp_ite, Wc_some, Wc_none, Wc_ite, Wp_thenRun, seqQ_normal, seqQ_exit, seqQ_ret, Wp_inBlock, blkQ_normal, blkQ_ret, blkQ_same, blkQ_exit, Wp_opThen, opQ_at, Wp_guardP, retQ_normal, retQ_ret, loopQ_normal, loopQ_exit, loopQ_ret, go_sem, entry, joinEsc, if_pos, reduceIte, Nat.reduceAdd, Nat.reduceLeDiff, Nat.reduceLT, Nat.reduceEqDiff]
  refine (amongZ (n := 8) [6, 8, 5, 4, 10, 3, 12, 1] (h.more _) (by omega) (by simp +contextual only [cellsAt_s0, cellsAt_sk, blkAt_s0, blkAt_sk, set_s0, set_sk, set_sapp, set_app, List.set_set, List.length_set, finish_one_setG, finish_one_set0, clean_none', Nat.add_assoc, go_sem, entry, joinEsc, if_pos, reduceIte, Nat.reduceAdd, Nat.reduceLeDiff, Nat.reduceLT, Nat.reduceEqDiff]) (by omega) rfl (by omega) (by omega)).mono ?_
  rintro v m ⟨x1, y1, z1, rfl, hx1, hy10, hy11, rfl⟩
  have h1 := h.step hy10 z1
  have hx1' : 1 ≤ x1 ∧ x1 ≤ 12 := by
    simp at hx1
    omega
  simp (maxSteps := 2000000) +contextual only [fillParts, hl, cellsAt_s0, cellsAt_sk, blkAt_s0, blkAt_sk, set_s0, set_sk, set_sapp, set_app, List.set_set, List.length_set, finish_one_setG, finish_one_set0, clean_none', Nat.add_assoc, Wp_some, Wp_none, Wp_ite, Wc_some, Wc_none, Wc_ite, Wp_thenRun, seqQ_normal, seqQ_exit, seqQ_ret, Wp_inBlock, blkQ_normal, blkQ_ret, blkQ_same, blkQ_exit, Wp_opThen, opQ_at, Wp_guardP, retQ_normal, retQ_ret, loopQ_normal, loopQ_exit, loopQ_ret, go_sem, entry, joinEsc, if_pos, reduceIte, Nat.reduceAdd, Nat.reduceLeDiff, Nat.reduceLT, Nat.reduceEqDiff]
  refine (wc_one 4 (h1.more _) (by omega) (by omega)).mono ?_
  rintro v m ⟨x2, y2, z2, rfl, hy20, hy21, rfl⟩
  have h2 := h1.step hy20 z2
  rw [List.set_set] at h2
  cases x2 with
  | true =>
    simp (maxSteps := 2000000) +contextual only [fillParts, hl, cellsAt_s0, cellsAt_sk, blkAt_s0, blkAt_sk, set_s0, set_sk, set_sapp, set_app, List.set_set, List.length_set, finish_one_setG, finish_one_set0, clean_none', Nat.add_assoc, Wp_some, Wp_none, Wp_ite, Wc_some, Wc_none, Wc_ite, Wp_thenRun, seqQ_normal, seqQ_exit, seqQ_ret, Wp_inBlock, blkQ_normal, blkQ_ret, blkQ_same, blkQ_exit, Wp_opThen, opQ_at, Wp_guardP, retQ_normal, retQ_ret, loopQ_normal, loopQ_exit, loopQ_ret, go_sem, entry, joinEsc, if_pos, reduceIte, Nat.reduceAdd, Nat.reduceLeDiff, Nat.reduceLT, Nat.reduceEqDiff]
    exact r1 _ _ _ _ _ _ _ _ _ hy20 (by omega)
  | false =>
    simp (maxSteps := 2000000) +contextual only [fillParts, hl, cellsAt_s0, cellsAt_sk, blkAt_s0, blkAt_sk, set_s0, set_sk, set_sapp, set_app, List.set_set, List.length_set, finish_one_setG, finish_one_set0, clean_none', Nat.add_assoc, Wp_some, Wp_none, Wp_ite, Wc_some, Wc_none, Wc_ite, Wp_thenRun, seqQ_normal, seqQ_exit, seqQ_ret, Wp_inBlock, blkQ_normal, blkQ_ret, blkQ_same, blkQ_exit, Wp_opThen, opQ_at, Wp_guardP, retQ_normal, retQ_ret, loopQ_normal, loopQ_exit, loopQ_ret, go_sem, entry, joinEsc, if_pos, reduceIte, Nat.reduceAdd, Nat.reduceLeDiff, Nat.reduceLT, Nat.reduceEqDiff]
    refine (wc_pick x1 (h2.more _) (by omega) (by omega)).mono ?_
    rintro v m ⟨x3, y3, z3, rfl, hx30, hx31, hy30, hy31, rfl⟩
    have h3 := h2.step hy30 z3
    rw [List.set_set] at h3
    have hw : IntKind.i64.wrap (x1 - x3) = x1 - x3 := wrap64 (by omega) (by omega)
    have hw1 : IntKind.i64.wrap (x3 + 1) = x3 + 1 := wrap64 (by omega) (by omega)
    simp (maxSteps := 2000000) +contextual only [hl, hw, hw1, leastZ, cellsAt_s0, cellsAt_sk, blkAt_s0, blkAt_sk, set_s0, set_sk, set_sapp, set_app, List.set_set, List.length_set, finish_one_setG, finish_one_set0, clean_none', Nat.add_assoc, Wp_some, Wp_none, Wp_ite, Wc_some, Wc_none, Wc_ite, Wp_thenRun, seqQ_normal, seqQ_exit, seqQ_ret, Wp_inBlock, blkQ_normal, blkQ_ret, blkQ_same, blkQ_exit, Wp_opThen, opQ_at, Wp_guardP, retQ_normal, retQ_ret, loopQ_normal, loopQ_exit, loopQ_ret, go_sem, entry, joinEsc, if_pos, reduceIte, Nat.reduceAdd, Nat.reduceLeDiff, Nat.reduceLT, Nat.reduceEqDiff]
    refine (wc_pick _ (h3.more _) (by omega) (by split <;> omega)).mono ?_
    rintro v m ⟨x4, y4, z4, rfl, hx40, hx41, hy40, hy41, rfl⟩
    simp (maxSteps := 2000000) +contextual only [hl, hw, hw1, cellsAt_s0, cellsAt_sk, blkAt_s0, blkAt_sk, set_s0, set_sk, set_sapp, set_app, List.set_set, List.length_set, finish_one_setG, finish_one_set0, clean_none', Nat.add_assoc, Wp_some, Wp_none, Wp_ite, Wc_some, Wc_none, Wc_ite, Wp_thenRun, seqQ_normal, seqQ_exit, seqQ_ret, Wp_inBlock, blkQ_normal, blkQ_ret, blkQ_same, blkQ_exit, Wp_opThen, opQ_at, Wp_guardP, retQ_normal, retQ_ret, loopQ_normal, loopQ_exit, loopQ_ret, go_sem, entry, joinEsc, if_pos, reduceIte, Nat.reduceAdd, Nat.reduceLeDiff, Nat.reduceLT, Nat.reduceEqDiff]
    exact r1 _ _ _ _ _ _ _ _ _ hy40 (by omega)

theorem wc_moveOf {q b0 : Nat} {c : Option Nat} {ls : List Ld} {x a b s : Int} {av : AV} {p : Int} (h : Cu H q av p) (hp : p ≤ 1000000000) (hls : cellsAt H b0 = some (encL ls)) (hn : ls.length ≤ 100000) (hbq : b0 ≠ q) : Wc (call T pr f_s_l1Cur_moveOf [.ptr (some (q, 0)), ptV x a b (slL b0 ls.length c) s] ⟨H, e⟩) (fun v m => ∃ m1 m2 y z : Int, v = .agg [.int .i64 m1, .int .i64 m2] ∧ 0 ≤ y ∧ y ≤ p + 10 ∧ m = ⟨H.set q (curB av y z), e⟩) := by
  have hl := h.lt
  rw [call_wc t_s_l1Cur_moveOf]
  obtain ⟨R, hR⟩ : ∃ R, R = seqTl (seqTl c_s_l1Cur_moveOf) := ⟨_, rfl⟩
  have hc : c_s_l1Cur_moveOf = (.seq (seqHd c_s_l1Cur_moveOf) (.seq (seqHd (seqTl c_s_l1Cur_moveOf)) R)) := by rw [hR]; rfl
  have r : ∀ (y z : Int) (B0 : Blk) (G : List Blk) (w1 w4 w5 w6 : AV), 0 ≤ y → y ≤ p + 4 →
      Wp (run T pr R ⟨[.ptr (some (q, 0)), w1, .ptr (some (H.length, 0)), .ptr (some (H.length + 1, 0)), w4, w5, w6], ⟨H.set q (curB av y z) ++ (B0 :: .cells [.int .i64 0, .int .i64 0] true :: G), none⟩⟩) (retQ a_s_l1Cur_moveOf ⟨H, e⟩ fun v m => ∃ m1 m2 y z : Int, v = .agg [.int .i64 m1, .int .i64 m2] ∧ 0 ≤ y ∧ y ≤ p + 10 ∧ m = ⟨H.set q (curB av y z), e⟩) := by
    rintro y z B0 G w1 w4 w5 w6 hy0 hy1
    have h1 := h.step hy0 z
    rw [hR]
    simp (maxSteps := 2000000) +contextual only [c_s_l1Cur_moveOf, seqTl, seqHd, hl, cellsAt_s0, cellsAt_sk, blkAt_s0, blkAt_sk, set_s0, set_sk, set_sapp, set_app, List.set_set, List.length_set, finish_one_setG, finish_one_set0, clean_none', Nat.add_assoc, Wp_some, Wp_none, Wp_ite, Wc_some, Wc_none, Wc_ite, Wp_thenRun, seqQ_normal, seqQ_exit, seqQ_ret, Wp_inBlock, blkQ_normal, blkQ_ret, blkQ_same, blkQ_exit, Wp_opThen, opQ_at, Wp_guardP, retQ_normal, retQ_ret, loopQ_normal, loopQ_exit, loopQ_ret, go_sem, entry, joinEsc, if_pos, reduceIte, Nat.reduceAdd, Nat.reduceLeDiff, Nat.reduceLT, Nat.reduceEqDiff]
    refine (wc_pick 4 (h1.more _) (by omega) (by omega)).mono ?_
    rintro v m ⟨x5, y5, z5, rfl, hx50, hx51, hy50, hy51, rfl⟩
    have h5 := h1.step hy50 z5
    rw [List.set_set] at h5
    simp (maxSteps := 2000000) +contextual only [hl, cellsAt_s0, cellsAt_sk, blkAt_s0, blkAt_sk, set_s0, set_sk, set_sapp, set_app, List.set_set, List.length_set, finish_one_setG, finish_one_set0, clean_none', Nat.add_assoc, Wp_some, Wp_none, Wp_ite, Wc_some, Wc_none, Wc_ite, Wp_thenRun, seqQ_normal, seqQ_exit, seqQ_ret, Wp_inBlock, blkQ_normal, blkQ_ret, blkQ_same, blkQ_exit, Wp_opThen, opQ_at, Wp_guardP, retQ_normal, retQ_ret, loopQ_normal, loopQ_exit, loopQ_ret, go_sem, entry, joinEsc, if_pos, reduceIte, Nat.reduceAdd, Nat.reduceLeDiff, Nat.reduceLT, Nat.reduceEqDiff]
    refine (wc_pick 24 (h5.more _) (by omega) (by omega)).mono ?_
    rintro v m ⟨x6, y6, z6, rfl, hx60, hx61, hy60, hy61, rfl⟩
    have h6 := h5.step hy60 z6
    rw [List.set_set] at h6
    simp (maxSteps := 2000000) +contextual only [hl, show ¬ ((23 : Int) = 0) by omega, decide_false, cellsAt_s0, cellsAt_sk, blkAt_s0, blkAt_sk, set_s0, set_sk, set_sapp, set_app, List.set_set, List.length_set, finish_one_setG, finish_one_set0, clean_none', Nat.add_assoc, Wp_some, Wp_none, Wp_ite, Wc_some, Wc_none, Wc_ite, Wp_thenRun, seqQ_normal, seqQ_exit, seqQ_ret, Wp_inBlock, blkQ_normal, blkQ_ret, blkQ_same, blkQ_exit, Wp_opThen, opQ_at, Wp_guardP, retQ_normal, retQ_ret, loopQ_normal, loopQ_exit, loopQ_ret, go_sem, entry, joinEsc, if_pos, reduceIte, Nat.reduceAdd, Nat.reduceLeDiff, Nat.reduceLT, Nat.reduceEqDiff]
    refine (wc_pick 13 (h6.more _) (by omega) (by omega)).mono ?_
    rintro v m ⟨x7, y7, z7, rfl, hx70, hx71, hy70, hy71, rfl⟩
    simp (maxSteps := 2000000) +contextual only [a_s_l1Cur_moveOf, fillParts, hl, cellsAt_s0, cellsAt_sk, blkAt_s0, blkAt_sk, set_s0, set_sk, set_sapp, set_app, List.set_set, List.length_set, finish_one_setG, finish_one_set0, clean_none', Nat.add_assoc, Wp_some, Wp_none, Wp_ite, Wc_some, Wc_none, Wc_ite, Wp_thenRun, seqQ_normal, seqQ_exit, seqQ_ret, Wp_inBlock, blkQ_normal, blkQ_ret, blkQ_same, blkQ_exit, Wp_opThen, opQ_at, Wp_guardP, retQ_normal, retQ_ret, loopQ_normal, loopQ_exit, loopQ_ret, finish_one_eq, finish_one_eq0, finish_two_eq, finish_two_eq0, roots_slice_new, roots_slice_new0, roots_slice_none, roots_ptr_new, roots_ptr_new0, roots_int, roots_bool, roots_str, roots_agg, roots_tup, roots_cons, roots_nil, rename_slice, rename_slice_none, rename_ptr, rename_int, rename_bool, rename_str, rename_agg, rename_tup, rename_cons, rename_nil, keepBlks_nil, keepBlks_cons, flatAll_nil, flatAll_cons, flatBlk_cells, dedup_nil, dedup_one, dedup_two, renum_one, renum_one0, renum_two0, renum_two1, clean_none', clean_some, minEsc_none, minEsc_some, Nat.add_left_cancel_iff, Nat.le_add_right, Nat.le_refl, decide_true, go_sem, entry, joinEsc, if_pos, reduceIte, Nat.reduceAdd, Nat.reduceLeDiff, Nat.reduceLT, Nat.reduceEqDiff]
    exact ⟨_, _, y7, z7, rfl, hy70, by omega, rfl⟩
  show Wp (run T pr c_s_l1Cur_moveOf _) _
  rw [hc]
  have hpa := fun X => e_s_l11Party (pr := pr) (e := none) (c := c) (cells_mono hls X) (show ls.length ≤ 9223372036854775806 by omega) x a b s
  obtain ⟨w, hw, hwc⟩ := h.cells
  have hsame : H = H.set q (curB av p w) := (set_self_at hw).symm
  cases h1 : partyOk x a b ls s with
  | false =>
    simp (maxSteps := 2000000) +contextual only [a_s_l1Cur_moveOf, c_s_l1Cur_moveOf, seqTl, seqHd, fillParts, hpa, h1, Wp_some, Wp_none, Wp_ite, Wc_some, Wc_none, Wc_ite, Wp_thenRun, seqQ_normal, seqQ_exit, seqQ_ret, Wp_inBlock, blkQ_normal, blkQ_ret, blkQ_same, blkQ_exit, Wp_opThen, opQ_at, Wp_guardP, retQ_normal, retQ_ret, loopQ_normal, loopQ_exit, loopQ_ret, go_sem, entry, joinEsc, if_pos, reduceIte, Nat.reduceAdd, Nat.reduceLeDiff, Nat.reduceLT, Nat.reduceEqDiff]
    have := r p w (.cells [.int .i64 x, .int .i64 a, .int .i64 b, slL b0 ls.length c, .int .i64 s] true) [] (ptV x a b (slL b0 ls.length c) s) .undef (.bool false) .undef h.2.2 (by omega)
    rw [← hsame] at this
    exact this
  | true =>
    simp (maxSteps := 2000000) +contextual only [a_s_l1Cur_moveOf, c_s_l1Cur_moveOf, seqTl, seqHd, fillParts, hpa, h1, Wp_some, Wp_none, Wp_ite, Wc_some, Wc_none, Wc_ite, Wp_thenRun, seqQ_normal, seqQ_exit, seqQ_ret, Wp_inBlock, blkQ_normal, blkQ_ret, blkQ_same, blkQ_exit, Wp_opThen, opQ_at, Wp_guardP, retQ_normal, retQ_ret, loopQ_normal, loopQ_exit, loopQ_ret, go_sem, entry, joinEsc, if_pos, reduceIte, Nat.reduceAdd, Nat.reduceLeDiff, Nat.reduceLT, Nat.reduceEqDiff]
    refine (wc_one 6 (h.more _) (by omega) (by omega)).mono ?_
    rintro v m ⟨x2, y2, z2, rfl, hy20, hy21, rfl⟩
    have h2 := h.step hy20 z2
    obtain ⟨f1, f2, f3⟩ := party_facts h1
    cases x2 with
    | true =>
      simp (maxSteps := 2000000) +contextual only [hl, cellsAt_s0, cellsAt_sk, blkAt_s0, blkAt_sk, set_s0, set_sk, set_sapp, set_app, List.set_set, List.length_set, finish_one_setG, finish_one_set0, clean_none', Nat.add_assoc, Wp_some, Wp_none, Wp_ite, Wc_some, Wc_none, Wc_ite, Wp_thenRun, seqQ_normal, seqQ_exit, seqQ_ret, Wp_inBlock, blkQ_normal, blkQ_ret, blkQ_same, blkQ_exit, Wp_opThen, opQ_at, Wp_guardP, retQ_normal, retQ_ret, loopQ_normal, loopQ_exit, loopQ_ret, go_sem, entry, joinEsc, if_pos, reduceIte, Nat.reduceAdd, Nat.reduceLeDiff, Nat.reduceLT, Nat.reduceEqDiff]
      exact r _ _ _ _ _ _ _ _ hy20 (by omega)
    | false =>
      have hls2 : cellsAt (H.set q (curB av y2 z2)) b0 = some (encL ls) := by
        rw [cells_same (List.getElem?_set_ne (fun e => hbq e.symm))]
        exact hls
      obtain ⟨cap, hmv⟩ := e_s_l11Moves (pr := pr) (H := H.set q (curB av y2 z2) ++ [.cells [.int .i64 x, .int .i64 a, .int .i64 b, slL b0 ls.length c, .int .i64 s] true, .cells [.int .i64 0, .int .i64 0] true]) (e := none) (c := c) (q := b0) (ls := ls) (cells_mono hls2 _) f1 f2 x a b s f3
      simp only [List.length_append, List.length_set, List.append_assoc, List.cons_append, List.nil_append, List.length_cons, List.length_nil, Nat.zero_add, Nat.reduceAdd] at hmv
      obtain ⟨M, hM⟩ : ∃ M, M = mvs x a b s ls := ⟨_, rfl⟩
      have hMn : M.length ≤ 6 := by rw [hM]; exact Nat.le_trans (mvs_le x a b s ls _ _) (by omega)
      rw [← hM] at hmv
      by_cases h0 : (0 : Int) < (M.length : Int)
      · simp (maxSteps := 2000000) +contextual only [hl, hmv, gt_iff_lt, h0, decide_true, cellsAt_s0, cellsAt_sk, blkAt_s0, blkAt_sk, set_s0, set_sk, set_sapp, set_app, List.set_set, List.length_set, finish_one_setG, finish_one_set0, clean_none', Nat.add_assoc, Wp_some, Wp_none, Wp_ite, Wc_some, Wc_none, Wc_ite, Wp_thenRun, seqQ_normal, seqQ_exit, seqQ_ret, Wp_inBlock, blkQ_normal, blkQ_ret, blkQ_same, blkQ_exit, Wp_opThen, opQ_at, Wp_guardP, retQ_normal, retQ_ret, loopQ_normal, loopQ_exit, loopQ_ret, go_sem, entry, joinEsc, if_pos, reduceIte, Nat.reduceAdd, Nat.reduceLeDiff, Nat.reduceLT, Nat.reduceEqDiff]
        refine (wc_pick (M.length : Int) (h2.more _) (by omega) (by omega)).mono ?_
        rintro v m ⟨x6, y6, z6, rfl, hx60, hx61, hy60, hy61, rfl⟩
        obtain ⟨i, rfl⟩ : ∃ i : Nat, x6 = (i : Int) := ⟨x6.toNat, by omega⟩
        have hi : i < M.length := by omega
        have hl6 : M[i]? = some M[i] := List.getElem?_eq_getElem hi
        simp (maxSteps := 2000000) +contextual only [a_s_l1Cur_moveOf, fillParts, hi, part_encL hl6, hl, cellsAt_s0, cellsAt_sk, blkAt_s0, blkAt_sk, set_s0, set_sk, set_sapp, set_app, List.set_set, List.length_set, finish_one_setG, finish_one_set0, clean_none', Nat.add_assoc, Wp_some, Wp_none, Wp_ite, Wc_some, Wc_none, Wc_ite, Wp_thenRun, seqQ_normal, seqQ_exit, seqQ_ret, Wp_inBlock, blkQ_normal, blkQ_ret, blkQ_same, blkQ_exit, Wp_opThen, opQ_at, Wp_guardP, retQ_normal, retQ_ret, loopQ_normal, loopQ_exit, loopQ_ret, finish_one_eq, finish_one_eq0, finish_two_eq, finish_two_eq0, roots_slice_new, roots_slice_new0, roots_slice_none, roots_ptr_new, roots_ptr_new0, roots_int, roots_bool, roots_str, roots_agg, roots_tup, roots_cons, roots_nil, rename_slice, rename_slice_none, rename_ptr, rename_int, rename_bool, rename_str, rename_agg, rename_tup, rename_cons, rename_nil, keepBlks_nil, keepBlks_cons, flatAll_nil, flatAll_cons, flatBlk_cells, dedup_nil, dedup_one, dedup_two, renum_one, renum_one0, renum_two0, renum_two1, clean_none', clean_some, minEsc_none, minEsc_some, Nat.add_left_cancel_iff, Nat.le_add_right, Nat.le_refl, decide_true, go_sem, entry, joinEsc, if_pos, reduceIte, Nat.reduceAdd, Nat.reduceLeDiff, Nat.reduceLT, Nat.reduceEqDiff]
        exact ⟨_, _, y6, z6, rfl, hy60, by omega, rfl⟩
      · simp (maxSteps := 2000000) +contextual only [hl, hmv, gt_iff_lt, h0, decide_false, cellsAt_s0, cellsAt_sk, blkAt_s0, blkAt_sk, set_s0, set_sk, set_sapp, set_app, List.set_set, List.length_set, finish_one_setG, finish_one_set0, clean_none', Nat.add_assoc, Wp_some, Wp_none, Wp_ite, Wc_some, Wc_none, Wc_ite, Wp_thenRun, seqQ_normal, seqQ_exit, seqQ_ret, Wp_inBlock, blkQ_normal, blkQ_ret, blkQ_same, blkQ_exit, Wp_opThen, opQ_at, Wp_guardP, retQ_normal, retQ_ret, loopQ_normal, loopQ_exit, loopQ_ret, go_sem, entry, joinEsc, if_pos, reduceIte, Nat.reduceAdd, Nat.reduceLeDiff, Nat.reduceLT, Nat.reduceEqDiff]
        exact r _ _ _ _ _ _ _ _ hy20 (by omega)

end Go.Proofs.Ythkgpblohjpcdaa.Slim

/- Rafts: the drawn arguments. -/
namespace Go.Proofs.Ythkgpblohjpcdaa.Slim

open Go

set_option linter.unusedSimpArgs false

set_option linter.unusedVariables false

variable {pr : Prims} {H : List Blk} {e : Option Nat}

theorem set_ld0 {ls : List Ld} {i : Nat} (h : i < ls.length) (a : Int) : ∃ ls' : List Ld, ls'.length = ls.length ∧ setRange (encL ls) (i * 2) [.int .i64 a] = encL ls' := by
  have hl : ls = ls.take i ++ ls[i] :: ls.drop (i + 1) := by rw [← List.drop_eq_getElem_cons h, List.take_append_drop]
  have ht : (ls.take i).length = i := by rw [List.length_take]; omega
  have := setRange_midL0 (ls.take i) (ls.drop (i + 1)) ls[i] a
  rw [← hl, ht] at this
  refine ⟨_, ?_, this⟩
  rw [List.length_append, List.length_cons, List.length_drop, ht]
  omega

end Go.Proofs.Ythkgpblohjpcdaa.Slim

/- Planks: a party, drawn. -/
namespace Go.Proofs.Ythkgpblohjpcdaa.Slim

open Go

set_option linter.unusedSimpArgs false

set_option linter.unusedVariables false

variable {pr : Prims} {H : List Blk} {e : Option Nat}

/-- people in memory, behind some block -/
def Ppl (k0 : Nat) (L : List Blk) (pv : AV) (ls : List Ld) : Prop := (pv = .slice none 0 0 none ∧ ls = []) ∨ ∃ b c, pv = slL b ls.length c ∧ L[b]? = some (.cells (encL ls) true) ∧ k0 < b ∧ (c = some 0 → ls.length = 0)

theorem Ppl.same {k0 : Nat} {L L' : List Blk} {pv : AV} {ls : List Ld} (h : Ppl k0 L pv ls) (hs : ∀ b, k0 < b → b < L.length → L'[b]? = L[b]?) : Ppl k0 L' pv ls := by
  rcases h with h | ⟨b, c, h1, h2, h3, h4⟩
  · exact .inl h
  · exact .inr ⟨b, c, h1, by rw [hs b h3 (get_lt h2)]; exact h2, h3, h4⟩

/-- some people more -/
theorem wc_ppl {k0 k : Nat} {L : List Blk} {pv src : AV} {ls new : List Ld} {Q : AV → Mem → Prop} (pp : Ppl k0 L pv ls) (hk0 : k0 < L.length) (hk : 0 < k) (hs : srcCells false L src = some (k, encL new)) (hl : new.length = k) (hn : ls.length + k ≤ 100000)
    (hQ : ∀ L' : List Blk, L'.length = L.length + 1 → (∀ i, i ≤ k0 → L'[i]? = L[i]?) → L'[L.length]? = some (.cells (encL (ls ++ new)) true) → (∀ H0, Grown H0 L → H0.length ≤ k0 + 1 → Grown H0 L') → Q (slL L.length (ls ++ new).length none) ⟨L', e⟩) :
    Wc (appendV L e false 2 16 pv src) Q := by
  have hen : encL (ls ++ new) = encL ls ++ encL new := encL_append _ _
  have hll : (ls ++ new).length = ls.length + k := by rw [List.length_append, hl]
  rcases pp with ⟨rfl, rfl⟩ | ⟨b, c, rfl, h2, h3, h4⟩
  · have key : appendV L e false 2 16 (.slice none 0 0 none) src = some (.slice (some (L.length, 0)) 2 k none, ⟨L ++ [.cells (encL new) true], e⟩) := by
      unfold appendV
      simp only [hs]
      rw [if_neg (by omega), if_pos ⟨by unfold maxBytes; omega, by rw [encL_length, hl]⟩]
    refine Wc.of_eq key ?_
    have := hQ (L ++ [.cells (encL new) true]) (by rw [List.length_append]; rfl) (fun i hi => List.getElem?_append_left (by omega)) (by rw [List.getElem?_append_right (Nat.le_refl _), Nat.sub_self]; rfl) (fun H0 hg _ => hg.more _)
    rw [hll] at this
    simpa using this
  · refine wc_ap (n := ls.length) (k := k) (new := encL new) h2 hs (by rw [encL_length]) (by rw [encL_length, hl]) (by unfold maxBytes; omega) h4 ?_
    intro L' g1 g2 g3 g4
    rw [← hll]
    exact hQ L' g1 (fun i hi => g2 i (by omega) (by omega)) (by rw [hen]; exact g3) (fun H0 hg hb => g4 H0 hg (by omega))

/-- how a party lies in memory while it is drawn -/
structure PY (H : List Blk) (q : Nat) (av : AV) (L : List Blk) (e : Option Nat) (ls : List Ld) (pv : AV) (x a b s y z : Int) : Prop where
  gr : Grown (H.set q (curB av y z)) L
  y0 : 0 ≤ y
  cl : clean H.length e = true
  res : L[H.length]? = some (.cells [.int .i64 0, .int .i64 0, .int .i64 0, .slice none 0 0 none, .int .i64 0] true)
  box : L[H.length + 2]? = some (.cells [.int .i64 x, .int .i64 a, .int .i64 b, pv, .int .i64 s] true)
  pp : Ppl (H.length + 2) L pv ls

theorem PY.more {q : Nat} {av pv : AV} {L : List Blk} {ls : List Ld} {x a b s y z : Int} (P : PY H q av L e ls pv x a b s y z) (X : List Blk) : PY H q av (L ++ X) e ls pv x a b s y z :=
  ⟨P.gr.more _, P.y0, P.cl, get_more P.res _, get_more P.box _, P.pp.same fun b _ hb => List.getElem?_append_left hb⟩

theorem PY.cur {q : Nat} {av pv : AV} {L : List Blk} {ls : List Ld} {x a b s y z : Int} (P : PY H q av L e ls pv x a b s y z) (hq : q < H.length) {y' : Int} (hy : 0 ≤ y') (z' : Int) : PY H q av (L.set q (curB av y' z')) e ls pv x a b s y' z' :=
  ⟨P.gr.cur hq _, hy, P.cl, by rw [List.getElem?_set_ne (by omega)]; exact P.res, by rw [List.getElem?_set_ne (by omega)]; exact P.box, P.pp.same fun b hb _ => List.getElem?_set_ne (by omega)⟩

theorem PY.put {q : Nat} {av pv pv' : AV} {L : List Blk} {ls ls' : List Ld} {x a b s s' y z : Int} {e' : Option Nat} (P : PY H q av L e ls pv x a b s y z) (hc : clean H.length e' = true) (hpp : Ppl (H.length + 2) L pv' ls') : PY H q av (L.set (H.length + 2) (.cells [.int .i64 x, .int .i64 a, .int .i64 b, pv', .int .i64 s'] true)) e' ls' pv' x a b s' y z :=
  ⟨P.gr.put (by rw [List.length_set]; omega) _, P.y0, hc, by rw [List.getElem?_set_ne (by omega)]; exact P.res, List.getElem?_set_self (get_lt P.box), hpp.same fun b hb _ => List.getElem?_set_ne (by omega)⟩

theorem PY.app {q : Nat} {av pv pv' : AV} {L L' : List Blk} {ls ls' : List Ld} {x a b s s' y z : Int} {e' : Option Nat} (P : PY H q av L e ls pv x a b s y z) (g2 : ∀ i, i ≤ H.length + 2 → L'[i]? = L[i]?) (g4 : ∀ H0, Grown H0 L → H0.length ≤ H.length + 2 + 1 → Grown H0 L') (hc : clean H.length e' = true) (hpp : Ppl (H.length + 2) L' pv' ls') : PY H q av (L'.set (H.length + 2) (.cells [.int .i64 x, .int .i64 a, .int .i64 b, pv', .int .i64 s'] true)) e' ls' pv' x a b s' y z :=
  ⟨(g4 _ P.gr (by rw [List.length_set]; omega)).put (by rw [List.length_set]; omega) _, P.y0, hc, by rw [List.getElem?_set_ne (by omega), g2 _ (by omega)]; exact P.res, List.getElem?_set_self (get_lt ((g2 _ (Nat.le_refl _)).trans P.box)), hpp.same fun b hb _ => List.getElem?_set_ne (by omega)⟩

theorem PY.curs {q : Nat} {av pv : AV} {L : List Blk} {ls : List Ld} {x a b s y z p : Int} (P : PY H q av L e ls pv x a b s y z) (h : Cu H q av p) : Cu L q av y := P.gr.curs h P.y0

theorem PY.bxs {q : Nat} {av pv : AV} {L : List Blk} {ls : List Ld} {x a b s y z : Int} (P : PY H q av L e ls pv x a b s y z) (hq : q < H.length) : ∀ (y' z' : Int) (X : List Blk), cellsAt (L.set q (curB av y' z') ++ X) (H.length + 2) = some [.int .i64 x, .int .i64 a, .int .i64 b, pv, .int .i64 s] := fun y' z' X => by
  have : (L.set q (curB av y' z'))[H.length + 2]? = some (.cells [.int .i64 x, .int .i64 a, .int .i64 b, pv, .int .i64 s] true) := by
    rw [List.getElem?_set_ne (by omega)]
    exact P.box
  exact cells_more this X

theorem PY.some_pv {q : Nat} {av pv : AV} {L : List Blk} {ls : List Ld} {x a b s y z : Int} (P : PY H q av L e ls pv x a b s y z) (h : 1 ≤ ls.length) : ∃ pb c, pv = slL pb ls.length c ∧ L[pb]? = some (.cells (encL ls) true) ∧ H.length + 2 < pb := by
  rcases P.pp with ⟨_, rfl⟩ | ⟨b, c, h1, h2, h3, _⟩
  · simp at h
  · exact ⟨b, c, h1, h2, h3⟩

theorem finish_party_set {q : Nat} {X : Blk} {L : List Blk} {pb n : Nat} {c : Option Nat} {cs : List AV} {w : Bool} (hL : Grown (H.set q X) L) (x a b s : Int) (e0 e1 : Option Nat) (hc : clean H.length e1 = true) (hb : H.length ≤ pb) (hG : L[pb]? = some (.cells cs w)) (hu : (cs.all fun c => c.under H.length) = true) :
    finish 2 H.length e0 (ptV x a b (slL pb n c) s) ⟨L, e1⟩ = some (ptV x a b (slL H.length n c) s, ⟨H.set q X ++ [.cells cs w], e0⟩) := by
  have hl : (H.set q X).length = H.length := List.length_set
  obtain ⟨G, rfl⟩ := hL
  obtain ⟨j, rfl⟩ : ∃ j, pb = H.length + j := ⟨pb - H.length, by omega⟩
  have hG' : G[j]? = some (.cells cs w) := by
    rw [List.getElem?_append_right (by omega), hl, Nat.add_sub_cancel_left] at hG
    exact hG
  have := finish_party (H := H.set q X) (G := G) (j := j) (n := n) (c := c) x a b s e0 e1 (by rw [hl]; exact hc) hG' (by rw [hl]; exact hu)
  rw [hl] at this
  exact this

/-- what is drawn -/
def ptQ (H : List Blk) (e : Option Nat) (q : Nat) (av : AV) (p : Int) : AV → Mem → Prop := fun v m => ∃ (ls : List Ld) (c : Option Nat) (x a b s y z : Int), v = ptV x a b (slL H.length ls.length c) s ∧ ls.length ≤ 6 ∧ 0 ≤ y ∧ y ≤ p + 300 ∧ m = ⟨H.set q (curB av y z) ++ [.cells (encL ls) true], e⟩

set_option maxHeartbeats 4000000 in
theorem wc_party_5 {q : Nat} {av : AV} {p : Int} (h : Cu H q av p) {L : List Blk} {e' : Option Nat} {ls : List Ld} {pb : Nat} {c : Option Nat} {x a b s y z : Int} {w3 w4 w5 w6 w7 w8 w9 w10 w11 w12 w13 : AV} (P : PY H q av L e' ls (slL pb ls.length c) x a b s y z) (hpb : L[pb]? = some (.cells (encL ls) true)) (hpb2 : H.length + 2 < pb) (hn : ls.length ≤ 6) (hy : y ≤ p + 300) :
    Wp (run T pr (seqTl (seqTl (seqTl (seqTl (seqTl c_s_l1Cur_party))))) ⟨[.ptr (some (q, 0)), .ptr (some (H.length, 0)), .ptr (some (H.length + 2, 0)), w3, w4, w5, w6, w7, w8, w9, w10, w11, w12, w13], ⟨L, e'⟩⟩) (retQ a_s_l1Cur_party ⟨H, e⟩ (ptQ H e q av p)) := by
  have hl := h.lt
  have hbx := cellsAt_of P.box
  have hcl2 : clean H.length (minEsc e' H.length) = true := by rw [clean_minEsc, P.cl]; simp
  have hres := P.res
  have hlt : ¬ (pb < H.length + 1) := by omega
  have hrs : (L.set H.length (.cells [.int .i64 x, .int .i64 a, .int .i64 b, slL pb ls.length c, .int .i64 s] true))[H.length]? = some (.cells [.int .i64 x, .int .i64 a, .int .i64 b, slL pb ls.length c, .int .i64 s] true) := List.getElem?_set_self (get_lt hres)
  have hrc := cellsAt_of hrs
  have hpb3 : (L.set H.length (.cells [.int .i64 x, .int .i64 a, .int .i64 b, slL pb ls.length c, .int .i64 s] true))[pb]? = some (.cells (encL ls) true) := by rw [List.getElem?_set_ne (by omega)]; exact hpb
  have hf := finish_party_set (H := H) (q := q) (n := ls.length) (c := c) (P.gr.put (b := H.length) (by rw [List.length_set]; exact Nat.le_refl _) (.cells [.int .i64 x, .int .i64 a, .int .i64 b, slL pb ls.length c, .int .i64 s] true)) x a b s e (minEsc e' H.length) hcl2 (by omega) hpb3 (under_encL _ _)
  simp (maxSteps := 2000000) +contextual only [a_s_l1Cur_party, c_s_l1Cur_party, seqTl, fillParts, hbx, hres, hrs, hrc, under_slice, hlt, hf, decide_false, Wp_some, Wp_none, Wp_ite, Wc_some, Wc_none, Wc_ite, Wp_thenRun, seqQ_normal, seqQ_exit, seqQ_ret, Wp_inBlock, blkQ_normal, blkQ_ret, blkQ_same, blkQ_exit, Wp_opThen, opQ_at, Wp_guardP, retQ_normal, retQ_ret, loopQ_normal, loopQ_exit, loopQ_ret, go_sem, entry, joinEsc, if_pos, reduceIte, Nat.reduceAdd, Nat.reduceLeDiff, Nat.reduceLT, Nat.reduceEqDiff]
  exact ⟨ls, c, x, a, b, s, y, z, rfl, hn, P.y0, hy, rfl⟩

set_option maxHeartbeats 4000000 in
theorem wc_party_4 {q : Nat} {av : AV} {p : Int} (h : Cu H q av p) (hp : p ≤ 100000000) {L : List Blk} {e' : Option Nat} {ls : List Ld} {pv : AV} {x a b s y z : Int} {w3 w4 w5 w6 w7 w8 w9 w10 w11 w12 w13 : AV} (P : PY H q av L e' ls pv x a b s y z) (hn1 : 1 ≤ ls.length) (hn : ls.length ≤ 3) (hy : y ≤ p + 290) :
    Wp (run T pr (seqTl (seqTl (seqTl (seqTl c_s_l1Cur_party)))) ⟨[.ptr (some (q, 0)), .ptr (some (H.length, 0)), .ptr (some (H.length + 2, 0)), w3, w4, w5, w6, w7, w8, w9, w10, w11, w12, w13], ⟨L, e'⟩⟩) (retQ a_s_l1Cur_party ⟨H, e⟩ (ptQ H e q av p)) := by
  have hl := h.lt
  obtain ⟨R, hR⟩ : ∃ R, R = (seqTl (seqTl (seqTl (seqTl (seqTl c_s_l1Cur_party))))) := ⟨_, rfl⟩
  have hc : (seqTl (seqTl (seqTl (seqTl c_s_l1Cur_party)))) = .seq (seqHd (seqTl (seqTl (seqTl (seqTl c_s_l1Cur_party))))) R := by rw [hR]; rfl
  have r := @wc_party_5 pr H e q av p h
  rw [← hR] at r
  rw [hc]
  simp (maxSteps := 2000000) +contextual only [c_s_l1Cur_party, seqTl, seqHd, hl, cellsAt_s0, cellsAt_sk, blkAt_s0, blkAt_sk, set_s0, set_sk, set_sapp, set_app, List.set_set, List.length_set, finish_one_setG, finish_one_set0, clean_none', Nat.add_assoc, Wp_some, Wp_none, Wp_ite, Wc_some, Wc_none, Wc_ite, Wp_thenRun, seqQ_normal, seqQ_exit, seqQ_ret, Wp_inBlock, blkQ_normal, blkQ_ret, blkQ_same, blkQ_exit, Wp_opThen, opQ_at, Wp_guardP, retQ_normal, retQ_ret, loopQ_normal, loopQ_exit, loopQ_ret, go_sem, entry, joinEsc, if_pos, reduceIte, Nat.reduceAdd, Nat.reduceLeDiff, Nat.reduceLT, Nat.reduceEqDiff]
  refine (wc_pick 40 (P.curs h) (by omega) (by omega)).mono ?_
  rintro v m ⟨x5, y5, z5, rfl, hx50, hx51, hy50, hy51, rfl⟩
  have P5 := P.cur hl hy50 z5
  have hqL : q < (L.set q (curB av y5 z5)).length := (P5.curs h).lt
  generalize L.set q (curB av y5 z5) = L5 at *
  obtain ⟨pb, c, rfl, hpb, hpb2⟩ := P5.some_pv hn1
  have hbx := cellsAt_of P5.box
  have hbm := cells_more P5.box
  have hbs := P5.bxs hl
  have hC5 := P5.curs h
  have hbox := P5.box
  have hbl := get_lt hbox
  have hlp : (0 : Nat) < ls.length := by omega
  have hlp' : (0 : Int) < (ls.length : Int) := by omega
  have hl0 : ls[0]? = some (ls[0]'hlp) := List.getElem?_eq_getElem hlp
  have hpt0 := part_encL hl0
  rw [Nat.zero_mul] at hpt0
  have hpbm : ∀ (Y : List Blk) , (L5 ++ Y)[pb]? = some (.cells (encL ls) true) := fun Y => get_more hpb Y
  have hpbc := cellsAt_of hpb
  have hboxm : ∀ (Y : List Blk) , (L5 ++ Y)[H.length + 2]? = some (.cells [.int .i64 x, .int .i64 a, .int .i64 b, slL pb ls.length c, .int .i64 s] true) := fun Y => get_more hbox Y
  by_cases c0 : x5 = 0
  · have c0' : decide (x5 = 0) = true := decide_eq_true c0
    simp (maxSteps := 2000000) only [fillParts, c0', Wp_some, Wp_none, Wp_ite, Wc_some, Wc_none, Wc_ite, Wp_thenRun, seqQ_normal, seqQ_exit, seqQ_ret, Wp_inBlock, blkQ_normal, blkQ_ret, blkQ_same, blkQ_exit, Wp_opThen, opQ_at, Wp_guardP, retQ_normal, retQ_ret, loopQ_normal, loopQ_exit, loopQ_ret, go_sem, entry, joinEsc, if_pos, reduceIte, Nat.reduceAdd, Nat.reduceLeDiff, Nat.reduceLT, Nat.reduceEqDiff]
    refine (amongZ (n := 3) [0, 5, -1] (hC5.more _) (by omega) (by simp +contextual only [cellsAt_s0, cellsAt_sk, blkAt_s0, blkAt_sk, set_s0, set_sk, set_sapp, set_app, List.set_set, List.length_set, finish_one_setG, finish_one_set0, clean_none', Nat.add_assoc, go_sem, entry, joinEsc, if_pos, reduceIte, Nat.reduceAdd, Nat.reduceLeDiff, Nat.reduceLT, Nat.reduceEqDiff]) (by omega) rfl (by omega) (by omega)).mono ?_
    rintro v m ⟨x6, y6, z6, rfl, hx6, hy60, hy61, rfl⟩
    have P6 := P5.cur hl hy60 z6
    have hpb6 : (L5.set q (curB av y6 z6))[pb]? = some (.cells (encL ls) true) := by rw [List.getElem?_set_ne (by omega)]; exact hpb
    rw [set_app hqL]
    generalize L5.set q (curB av y6 z6) = L6 at *
    have hb6 := fun Y => get_more P6.box Y
    simp (maxSteps := 2000000) +contextual only [fillParts, hb6, decide_true, Wp_some, Wp_none, Wp_ite, Wc_some, Wc_none, Wc_ite, Wp_thenRun, seqQ_normal, seqQ_exit, seqQ_ret, Wp_inBlock, blkQ_normal, blkQ_ret, blkQ_same, blkQ_exit, Wp_opThen, opQ_at, Wp_guardP, retQ_normal, retQ_ret, loopQ_normal, loopQ_exit, loopQ_ret, go_sem, entry, joinEsc, if_pos, reduceIte, Nat.reduceAdd, Nat.reduceLeDiff, Nat.reduceLT, Nat.reduceEqDiff]
    exact r ((P6.more _).put P6.cl (P6.more _).pp) (by rw [List.getElem?_set_ne (by omega)]; exact get_more hpb6 _) hpb2 (by omega) (by omega)
  · have c0' : decide (x5 = 0) = false := decide_eq_false c0
    by_cases c1 : x5 = 1
    · subst c1
      simp (maxSteps := 2000000) +contextual only [fillParts, hbx, hbm, c0', decide_true, cellsAt_s0, cellsAt_sk, blkAt_s0, blkAt_sk, set_s0, set_sk, set_sapp, set_app, List.set_set, List.length_set, finish_one_setG, finish_one_set0, clean_none', Nat.add_assoc, Wp_some, Wp_none, Wp_ite, Wc_some, Wc_none, Wc_ite, Wp_thenRun, seqQ_normal, seqQ_exit, seqQ_ret, Wp_inBlock, blkQ_normal, blkQ_ret, blkQ_same, blkQ_exit, Wp_opThen, opQ_at, Wp_guardP, retQ_normal, retQ_ret, loopQ_normal, loopQ_exit, loopQ_ret, go_sem, entry, joinEsc, if_pos, reduceIte, Nat.reduceAdd, Nat.reduceLeDiff, Nat.reduceLT, Nat.reduceEqDiff]
      refine (amongZ (n := 4) [0, x, IntKind.i64.wrap (x + 1), -1] (hC5.more _) (by omega) (by simp +contextual only [cellsAt_s0, cellsAt_sk, blkAt_s0, blkAt_sk, set_s0, set_sk, set_sapp, set_app, List.set_set, List.length_set, finish_one_setG, finish_one_set0, clean_none', Nat.add_assoc, go_sem, entry, joinEsc, if_pos, reduceIte, Nat.reduceAdd, Nat.reduceLeDiff, Nat.reduceLT, Nat.reduceEqDiff]) (by omega) rfl (by omega) (by omega)).mono ?_
      rintro v m ⟨x6, y6, z6, rfl, hx6, hy60, hy61, rfl⟩
      have P6 := P5.cur hl hy60 z6
      have hpb6 : (L5.set q (curB av y6 z6))[pb]? = some (.cells (encL ls) true) := by rw [List.getElem?_set_ne (by omega)]; exact hpb
      rw [set_app hqL]
      generalize L5.set q (curB av y6 z6) = L6 at *
      have hb6 := cells_more P6.box
      have hpb6m := fun Y => get_more hpb6 Y
      obtain ⟨ls', e1, e2⟩ := set_ld0 (ls := ls) (i := 0) (by omega) x6
      rw [Nat.zero_mul] at e2
      have hll : ((2 : Nat) ≤ ls.length * 2) := by omega
      have hll1 : ((1 : Nat) ≤ ls.length * 2) := by omega
      simp (maxSteps := 2000000) +contextual only [fillParts, hb6, hpb6m, e2, encL_length, hll, hll1, hlp, hlp', toNat0, Int.le_refl, Nat.zero_mul, decide_true, Wp_some, Wp_none, Wp_ite, Wc_some, Wc_none, Wc_ite, Wp_thenRun, seqQ_normal, seqQ_exit, seqQ_ret, Wp_inBlock, blkQ_normal, blkQ_ret, blkQ_same, blkQ_exit, Wp_opThen, opQ_at, Wp_guardP, retQ_normal, retQ_ret, loopQ_normal, loopQ_exit, loopQ_ret, go_sem, entry, joinEsc, if_pos, reduceIte, Nat.reduceAdd, Nat.reduceLeDiff, Nat.reduceLT, Nat.reduceEqDiff]
      have e1' : slL pb ls.length c = slL pb ls'.length c := by rw [e1]
      have P7 : PY H q av ((L6 ++ [Blk.cells [.int .i64 0, .int .i64 x, .int .i64 (IntKind.i64.wrap (x + 1)), .int .i64 (-1)] true]).set pb (.cells (encL ls') true)) e' ls' (slL pb ls'.length c) x a b s y6 z6 := by
        have P8 := P6.more [Blk.cells [AV.int .i64 0, .int .i64 x, .int .i64 (IntKind.i64.wrap (x + 1)), .int .i64 (-1)] true]
        refine ⟨P8.gr.put (b := pb) (by rw [List.length_set]; omega) _, P8.y0, P8.cl, ?_, ?_, .inr ⟨pb, c, rfl, ?_, hpb2, ?_⟩⟩
        · rw [List.getElem?_set_ne (by omega)]
          exact P8.res
        · rw [List.getElem?_set_ne (by omega), ← e1']
          exact P8.box
        · rw [List.getElem?_set_self (by rw [List.length_append]; have := get_lt hpb6; omega)]
        · intro hc0
          rcases P6.pp with ⟨h1, _⟩ | ⟨b', c', h1, _, _, h4⟩
          · cases h1
          · injection h1 with _ _ _ h1
            rw [e1]
            exact h4 (h1 ▸ hc0)
      exact r P7 (by rw [List.getElem?_set_self (by rw [List.length_append]; have := get_lt hpb6; omega)]) hpb2 (by omega) (by omega)
    · have c1' : decide (x5 = 1) = false := decide_eq_false c1
      by_cases c2 : x5 = 2
      · subst c2
        simp (maxSteps := 2000000) +contextual only [fillParts, hbx, hbm, hpbc, hpt0, hlp, hlp', toNat0, Int.le_refl, Nat.zero_mul, c0', c1', decide_true, Wp_some, Wp_none, Wp_ite, Wc_some, Wc_none, Wc_ite, Wp_thenRun, seqQ_normal, seqQ_exit, seqQ_ret, Wp_inBlock, blkQ_normal, blkQ_ret, blkQ_same, blkQ_exit, Wp_opThen, opQ_at, Wp_guardP, retQ_normal, retQ_ret, loopQ_normal, loopQ_exit, loopQ_ret, go_sem, entry, joinEsc, if_pos, reduceIte, Nat.reduceAdd, Nat.reduceLeDiff, Nat.reduceLT, Nat.reduceEqDiff]
        refine wc_ppl (k := 3) (new := [ls[0], ls[0], ls[0]]) (P5.more _).pp (by rw [List.length_append]; omega) (by omega) (src_new _ 3 2 _ _ L5.length (by simp +contextual only [encL, go_sem, entry, joinEsc, if_pos, reduceIte, Nat.reduceAdd, Nat.reduceLeDiff, Nat.reduceLT, Nat.reduceEqDiff]) rfl) rfl (by omega) ?_
        intro L' g1 g2 g3 g4
        have hlt : ¬ (L5.length + 1 < H.length + 2 + 1) := by omega
        have hbox' : L'[H.length + 2]? = some (.cells [.int .i64 x, .int .i64 a, .int .i64 b, slL pb ls.length c, .int .i64 s] true) := (g2 _ (Nat.le_refl _)).trans (hboxm _)
        have hres' := (g2 H.length (by omega)).trans ((P5.more _).res)
        have hbc' := cellsAt_of hbox'
        simp only [List.length_append, List.length_cons, List.length_nil, Nat.zero_add] at g1 g3
        simp (maxSteps := 2000000) +contextual only [fillParts, hbc', hbox', hlt, under_slice, decide_true, decide_false, Bool.false_eq_true, if_false, Wp_some, Wp_none, Wp_ite, Wc_some, Wc_none, Wc_ite, Wp_thenRun, seqQ_normal, seqQ_exit, seqQ_ret, Wp_inBlock, blkQ_normal, blkQ_ret, blkQ_same, blkQ_exit, Wp_opThen, opQ_at, Wp_guardP, retQ_normal, retQ_ret, loopQ_normal, loopQ_exit, loopQ_ret, go_sem, entry, joinEsc, if_pos, reduceIte, Nat.reduceAdd, Nat.reduceLeDiff, Nat.reduceLT, Nat.reduceEqDiff]
        have hln : (ls ++ [ls[0], ls[0], ls[0]]).length = ls.length + 3 := by rw [List.length_append]; rfl
        have hpp : Ppl (H.length + 2) L' (slL (L5.length + 1) (ls ++ [ls[0], ls[0], ls[0]]).length none) (ls ++ [ls[0], ls[0], ls[0]]) := .inr ⟨_, _, rfl, g3, by omega, fun h => by cases h⟩
        have P8 := (P5.more _).app (s' := s) (e' := minEsc e' (H.length + 2)) g2 g4 (by rw [clean_minEsc, P5.cl]; simp) hpp
        rw [hln] at P8
        exact r (by rw [hln]; exact P8) (by rw [List.getElem?_set_ne (by omega)]; exact g3) (by omega) (by omega) (by omega)
      · have c2' : decide (x5 = 2) = false := decide_eq_false c2
        by_cases c3 : x5 = 3
        · subst c3
          have hlt : ¬ (L5.length < H.length + 2 + 1) := by omega
          simp (maxSteps := 2000000) +contextual only [fillParts, hboxm, hlt, under_slice, c0', c1', c2', decide_true, decide_false, Bool.false_eq_true, if_false, Wp_some, Wp_none, Wp_ite, Wc_some, Wc_none, Wc_ite, Wp_thenRun, seqQ_normal, seqQ_exit, seqQ_ret, Wp_inBlock, blkQ_normal, blkQ_ret, blkQ_same, blkQ_exit, Wp_opThen, opQ_at, Wp_guardP, retQ_normal, retQ_ret, loopQ_normal, loopQ_exit, loopQ_ret, go_sem, entry, joinEsc, if_pos, reduceIte, Nat.reduceAdd, Nat.reduceLeDiff, Nat.reduceLT, Nat.reduceEqDiff]
          refine r (ls := []) (c := some 0) ((P5.more _).put (by rw [clean_minEsc, P5.cl]; simp) ?_) ?_ (by omega) (by simp) (by omega)
          · exact .inr ⟨L5.length, some 0, rfl, by rw [List.getElem?_append_right (Nat.le_refl _), Nat.sub_self]; rfl, by omega, fun _ => rfl⟩
          · rw [List.getElem?_set_ne (by omega), List.getElem?_append_right (Nat.le_refl _), Nat.sub_self]
            rfl
        · have c3' : decide (x5 = 3) = false := decide_eq_false c3
          simp (maxSteps := 2000000) +contextual only [fillParts, c0', c1', c2', c3', decide_true, cellsAt_s0, cellsAt_sk, blkAt_s0, blkAt_sk, set_s0, set_sk, set_sapp, set_app, List.set_set, List.length_set, finish_one_setG, finish_one_set0, clean_none', Nat.add_assoc, Wp_some, Wp_none, Wp_ite, Wc_some, Wc_none, Wc_ite, Wp_thenRun, seqQ_normal, seqQ_exit, seqQ_ret, Wp_inBlock, blkQ_normal, blkQ_ret, blkQ_same, blkQ_exit, Wp_opThen, opQ_at, Wp_guardP, retQ_normal, retQ_ret, loopQ_normal, loopQ_exit, loopQ_ret, go_sem, entry, joinEsc, if_pos, reduceIte, Nat.reduceAdd, Nat.reduceLeDiff, Nat.reduceLT, Nat.reduceEqDiff]
          exact r P5 hpb hpb2 (by omega) (by omega)

set_option maxHeartbeats 4000000 in
theorem wc_party_3 {q : Nat} {av : AV} {p : Int} (h : Cu H q av p) (hp : p ≤ 100000000) {L : List Blk} {e' : Option Nat} {ls : List Ld} {pv : AV} {x a b s y z : Int} {w3 w4 w5 w6 w7 w8 w9 w10 w11 w12 w13 : AV} (P : PY H q av L e' ls pv x a b s y z) (hn1 : 1 ≤ ls.length) (hn : ls.length ≤ 3) (hy : y ≤ p + 120) :
    Wp (run T pr (seqTl (seqTl (seqTl c_s_l1Cur_party))) ⟨[.ptr (some (q, 0)), .ptr (some (H.length, 0)), .ptr (some (H.length + 2, 0)), w3, w4, w5, w6, w7, w8, w9, w10, w11, w12, w13], ⟨L, e'⟩⟩) (retQ a_s_l1Cur_party ⟨H, e⟩ (ptQ H e q av p)) := by
  have hl := h.lt
  obtain ⟨R, hR⟩ : ∃ R, R = (seqTl (seqTl (seqTl (seqTl c_s_l1Cur_party)))) := ⟨_, rfl⟩
  have hc : (seqTl (seqTl (seqTl c_s_l1Cur_party))) = .seq (seqHd (seqTl (seqTl (seqTl c_s_l1Cur_party)))) R := by rw [hR]; rfl
  have r := @wc_party_4 pr H e q av p h hp
  rw [← hR] at r
  rw [hc]
  simp (maxSteps := 2000000) +contextual only [c_s_l1Cur_party, seqTl, seqHd, hl, cellsAt_s0, cellsAt_sk, blkAt_s0, blkAt_sk, set_s0, set_sk, set_sapp, set_app, List.set_set, List.length_set, finish_one_setG, finish_one_set0, clean_none', Nat.add_assoc, Wp_some, Wp_none, Wp_ite, Wc_some, Wc_none, Wc_ite, Wp_thenRun, seqQ_normal, seqQ_exit, seqQ_ret, Wp_inBlock, blkQ_normal, blkQ_ret, blkQ_same, blkQ_exit, Wp_opThen, opQ_at, Wp_guardP, retQ_normal, retQ_ret, loopQ_normal, loopQ_exit, loopQ_ret, go_sem, entry, joinEsc, if_pos, reduceIte, Nat.reduceAdd, Nat.reduceLeDiff, Nat.reduceLT, Nat.reduceEqDiff]
  refine (wc_pick 12 (P.curs h) (by omega) (by omega)).mono ?_
  rintro v m ⟨x5, y5, z5, rfl, hx50, hx51, hy50, hy51, rfl⟩
  have P5 := P.cur hl hy50 z5
  generalize L.set q (curB av y5 z5) = L5 at *
  obtain ⟨n, rfl⟩ : ∃ n : Nat, x5 = (n : Int) := ⟨x5.toNat, by omega⟩
  simp (maxSteps := 2000000) only [Wp_some, Wp_none, Wp_ite, Wc_some, Wc_none, Wc_ite, Wp_thenRun, seqQ_normal, seqQ_exit, seqQ_ret, Wp_inBlock, blkQ_normal, blkQ_ret, blkQ_same, blkQ_exit, Wp_opThen, opQ_at, Wp_guardP, retQ_normal, retQ_ret, loopQ_normal, loopQ_exit, loopQ_ret, go_sem, entry, joinEsc, if_pos, reduceIte, Nat.reduceAdd, Nat.reduceLeDiff, Nat.reduceLT, Nat.reduceEqDiff]
  refine Wp_loop (fun k st => ∃ (L : List Blk) (e' : Option Nat) (ls : List Ld) (pv : AV) (y z : Int) (w5 w6 w7 w8 : AV), PY H q av L e' ls pv x a b s y z ∧ 1 ≤ ls.length ∧ ls.length ≤ 3 ∧ y + (k : Int) * 12 ≤ p + 260 ∧
    st = ⟨[.ptr (some (q, 0)), .ptr (some (H.length, 0)), .ptr (some (H.length + 2, 0)), w3, .int .i64 k, w5, w6, w7, w8, w9, w10, w11, w12, w13], ⟨L, e'⟩⟩) ?_ n _ ⟨L5, e', ls, pv, y5, z5, _, _, _, _, P5, hn1, hn, by omega, rfl⟩
  rintro k _ ⟨L, e', ls, pv, y, z, w5, w6, w7, w8, P, hn1, hn, hyk, rfl⟩
  by_cases hk : k = 0
  · subst hk
    have hd : ¬ (((0 : Nat) : Int) > 0) := by omega
    have hd' : ¬ ((0 : Int) < ((0 : Nat) : Int)) := by omega
    simp (maxSteps := 2000000) only [w_s_l1Cur_party_2, gt_iff_lt, hd, hd', decide_false, Wp_some, Wp_none, Wp_ite, Wc_some, Wc_none, Wc_ite, Wp_thenRun, seqQ_normal, seqQ_exit, seqQ_ret, Wp_inBlock, blkQ_normal, blkQ_ret, blkQ_same, blkQ_exit, Wp_opThen, opQ_at, Wp_guardP, retQ_normal, retQ_ret, loopQ_normal, loopQ_exit, loopQ_ret, go_sem, entry, joinEsc, if_pos, reduceIte, Nat.reduceAdd, Nat.reduceLeDiff, Nat.reduceLT, Nat.reduceEqDiff]
    exact r P hn1 hn (by omega)
  · have hd' : ((0 : Int) < (k : Int)) := by omega
    have hwk : IntKind.i64.wrap ((k : Int) - 1) = ((k - 1 : Nat) : Int) := by
      have := P.y0
      rw [show ((k : Int) - 1) = ((k - 1 : Nat) : Int) by omega]; exact wrap64 (by omega) (by omega)
    obtain ⟨pb, c, rfl, hpb, hpb2⟩ := P.some_pv hn1
    have hbx := cellsAt_of P.box
    simp (maxSteps := 2000000) only [w_s_l1Cur_party_2, gt_iff_lt, hd', hbx, decide_true, Wp_some, Wp_none, Wp_ite, Wc_some, Wc_none, Wc_ite, Wp_thenRun, seqQ_normal, seqQ_exit, seqQ_ret, Wp_inBlock, blkQ_normal, blkQ_ret, blkQ_same, blkQ_exit, Wp_opThen, opQ_at, Wp_guardP, retQ_normal, retQ_ret, loopQ_normal, loopQ_exit, loopQ_ret, go_sem, entry, joinEsc, if_pos, reduceIte, Nat.reduceAdd, Nat.reduceLeDiff, Nat.reduceLT, Nat.reduceEqDiff]
    refine (wc_moveOf (P.curs h) (by omega) (cellsAt_of hpb) (by omega) (by omega)).mono ?_
    rintro v m ⟨m1, m2, y6, z6, rfl, hy60, hy61, rfl⟩
    have P6 := P.cur hl hy60 z6
    have hpb6 : (L.set q (curB av y6 z6))[pb]? = some (.cells (encL ls) true) := by rw [List.getElem?_set_ne (by omega)]; exact hpb
    generalize L.set q (curB av y6 z6) = L6 at *
    have hbm := cells_more P6.box
    have hpbm := cells_more hpb6
    have hboxm : ∀ (Y : List Blk) , (L6 ++ Y)[H.length + 2]? = some (.cells [.int .i64 x, .int .i64 a, .int .i64 b, slL pb ls.length c, .int .i64 s] true) := fun Y => get_more P6.box Y
    have hpa := fun X => e_s_l11Party (pr := pr) (e := e') (c := c) (hpbm X) (show ls.length ≤ 9223372036854775806 by omega) x a b s
    cases hok : partyOk x a b ls s with
    | false =>
      simp (maxSteps := 2000000) only [fillParts, hbm, hpa, hok, hwk, Bool.false_eq_true, Wp_some, Wp_none, Wp_ite, Wc_some, Wc_none, Wc_ite, Wp_thenRun, seqQ_normal, seqQ_exit, seqQ_ret, Wp_inBlock, blkQ_normal, blkQ_ret, blkQ_same, blkQ_exit, Wp_opThen, opQ_at, Wp_guardP, retQ_normal, retQ_ret, loopQ_normal, loopQ_exit, loopQ_ret, go_sem, entry, joinEsc, if_pos, reduceIte, Nat.reduceAdd, Nat.reduceLeDiff, Nat.reduceLT, Nat.reduceEqDiff]
      exact ⟨k - 1, by omega, _, _, ls, _, y6, z6, _, _, _, _, P6.more _, hn1, hn, by omega, rfl⟩
    | true =>
      have hsf := fun X => e_s_l11Safe (pr := pr) (e := e') (c := c) (hpbm X) hn x a b s m1 m2
      cases hsafe : safeMv x a b ls s m1 m2 with
      | false =>
        rw [hsafe] at hsf
        simp (maxSteps := 2000000) only [fillParts, hbm, hpa, hok, hsf, hwk, Bool.false_eq_true, Wp_some, Wp_none, Wp_ite, Wc_some, Wc_none, Wc_ite, Wp_thenRun, seqQ_normal, seqQ_exit, seqQ_ret, Wp_inBlock, blkQ_normal, blkQ_ret, blkQ_same, blkQ_exit, Wp_opThen, opQ_at, Wp_guardP, retQ_normal, retQ_ret, loopQ_normal, loopQ_exit, loopQ_ret, go_sem, entry, joinEsc, if_pos, reduceIte, Nat.reduceAdd, Nat.reduceLeDiff, Nat.reduceLT, Nat.reduceEqDiff]
        exact ⟨k - 1, by omega, _, _, ls, _, y6, z6, _, _, _, _, P6.more _, hn1, hn, by omega, rfl⟩
      | true =>
        rw [hsafe] at hsf
        obtain ⟨r1, r2⟩ := safe_range hsafe
        obtain ⟨j, rfl⟩ : ∃ j : Nat, m1 = j := ⟨m1.toNat, by omega⟩
        rw [Int.toNat_natCast] at r2
        have hmv := e_s_l11Moved (pr := pr) (H := L6 ++ [.cells [.int .i64 j, .int .i64 m2] true]) (e := e') (c := c) (hpbm _) hn x a b s m2 r2
        simp only [List.length_append, List.append_assoc, List.cons_append, List.nil_append, List.length_cons, List.length_nil, Nat.zero_add] at hmv
        have hlt : ¬ (L6.length + 1 < H.length + 2 + 1) := by have := get_lt P6.box; omega
        simp (maxSteps := 2000000) only [fillParts, hbm, hboxm, hpa, hok, hsf, hmv, hwk, under_slice, hlt, decide_false, Bool.false_eq_true, Wp_some, Wp_none, Wp_ite, Wc_some, Wc_none, Wc_ite, Wp_thenRun, seqQ_normal, seqQ_exit, seqQ_ret, Wp_inBlock, blkQ_normal, blkQ_ret, blkQ_same, blkQ_exit, Wp_opThen, opQ_at, Wp_guardP, retQ_normal, retQ_ret, loopQ_normal, loopQ_exit, loopQ_ret, go_sem, entry, joinEsc, if_pos, reduceIte, Nat.reduceAdd, Nat.reduceLeDiff, Nat.reduceLT, Nat.reduceEqDiff]
        have hml : (movd ls j m2).length = ls.length := movd_length _ _ _
        have hpp : Ppl (H.length + 2) (L6 ++ [Blk.cells [AV.int IntKind.i64 j, AV.int IntKind.i64 m2] true, Blk.cells (encL (movd ls j m2)) true]) (slL (L6.length + 1) (movd ls j m2).length none) (movd ls j m2) := .inr ⟨_, _, rfl, by rw [List.getElem?_append_right (by omega), Nat.add_sub_cancel_left]; rfl, by omega, fun h => by cases h⟩
        have P7 := (P6.more _).put (s' := s) (e' := minEsc e' (H.length + 2)) (by rw [clean_minEsc, P6.cl]; simp) hpp
        rw [hml] at P7
        exact ⟨k - 1, by omega, _, _, _, _, y6, z6, _, _, _, _, P7, by omega, by omega, by omega, rfl⟩

set_option maxHeartbeats 4000000 in
theorem wc_party_2 {q : Nat} {av : AV} {p : Int} (h : Cu H q av p) (hp : p ≤ 100000000) {L : List Blk} {e' : Option Nat} {pv : AV} {x a b s y z : Int} {w3 w4 w5 w6 w7 w8 w9 w10 w11 w12 w13 : AV} (P : PY H q av L e' [] pv x a b s y z) (hy : y ≤ p + 50) :
    Wp (run T pr (seqTl (seqTl c_s_l1Cur_party)) ⟨[.ptr (some (q, 0)), .ptr (some (H.length, 0)), .ptr (some (H.length + 2, 0)), w3, w4, w5, w6, w7, w8, w9, w10, w11, w12, w13], ⟨L, e'⟩⟩) (retQ a_s_l1Cur_party ⟨H, e⟩ (ptQ H e q av p)) := by
  have hl := h.lt
  obtain ⟨R, hR⟩ : ∃ R, R = (seqTl (seqTl (seqTl c_s_l1Cur_party))) := ⟨_, rfl⟩
  have hc : (seqTl (seqTl c_s_l1Cur_party)) = .seq (seqHd (seqTl (seqTl c_s_l1Cur_party))) R := by rw [hR]; rfl
  have r := @wc_party_3 pr H e q av p h hp
  rw [← hR] at r
  rw [hc]
  have hC := P.curs h
  have hbl := get_lt P.box
  have hqL := hC.lt
  simp (maxSteps := 2000000) +contextual only [c_s_l1Cur_party, seqTl, seqHd, hl, fillParts, cellsAt_s0, cellsAt_sk, blkAt_s0, blkAt_sk, set_s0, set_sk, set_sapp, set_app, List.set_set, List.length_set, finish_one_setG, finish_one_set0, clean_none', Nat.add_assoc, Wp_some, Wp_none, Wp_ite, Wc_some, Wc_none, Wc_ite, Wp_thenRun, seqQ_normal, seqQ_exit, seqQ_ret, Wp_inBlock, blkQ_normal, blkQ_ret, blkQ_same, blkQ_exit, Wp_opThen, opQ_at, Wp_guardP, retQ_normal, retQ_ret, loopQ_normal, loopQ_exit, loopQ_ret, go_sem, entry, joinEsc, if_pos, reduceIte, Nat.reduceAdd, Nat.reduceLeDiff, Nat.reduceLT, Nat.reduceEqDiff]
  refine (amongZ (n := 5) [2, 3, 2, 1, 3] (hC.more _) (by omega) (by simp +contextual only [cellsAt_s0, cellsAt_sk, blkAt_s0, blkAt_sk, set_s0, set_sk, set_sapp, set_app, List.set_set, List.length_set, finish_one_setG, finish_one_set0, clean_none', Nat.add_assoc, go_sem, entry, joinEsc, if_pos, reduceIte, Nat.reduceAdd, Nat.reduceLeDiff, Nat.reduceLT, Nat.reduceEqDiff]) (by omega) rfl (by omega) (by omega)).mono ?_
  rintro v m ⟨x5, y5, z5, rfl, hx5, hy50, hy51, rfl⟩
  have hx5' : 1 ≤ x5 ∧ x5 ≤ 3 := by
    simp at hx5
    omega
  rw [set_app hqL]
  have P5 := (P.cur hl hy50 z5).more [.cells [.int .i64 2, .int .i64 3, .int .i64 2, .int .i64 1, .int .i64 3] true]
  generalize L.set q (curB av y5 z5) ++ [.cells [.int .i64 2, .int .i64 3, .int .i64 2, .int .i64 1, .int .i64 3] true] = L5 at *
  obtain ⟨n, rfl⟩ : ∃ n : Nat, x5 = (n : Int) := ⟨x5.toNat, by omega⟩
  simp (maxSteps := 2000000) only [Wp_some, Wp_none, Wp_ite, Wc_some, Wc_none, Wc_ite, Wp_thenRun, seqQ_normal, seqQ_exit, seqQ_ret, Wp_inBlock, blkQ_normal, blkQ_ret, blkQ_same, blkQ_exit, Wp_opThen, opQ_at, Wp_guardP, retQ_normal, retQ_ret, loopQ_normal, loopQ_exit, loopQ_ret, go_sem, entry, joinEsc, if_pos, reduceIte, Nat.reduceAdd, Nat.reduceLeDiff, Nat.reduceLT, Nat.reduceEqDiff]
  refine Wp_loop (fun k st => ∃ (L : List Blk) (e' : Option Nat) (ls : List Ld) (pv : AV) (y z : Int) (w6 : AV), PY H q av L e' ls pv x a b s y z ∧ ls.length + k = n ∧ y + (k : Int) * 8 ≤ p + 110 ∧
    st = ⟨[.ptr (some (q, 0)), .ptr (some (H.length, 0)), .ptr (some (H.length + 2, 0)), .int .i64 k, w4, w5, w6, w7, w8, w9, w10, w11, w12, w13], ⟨L, e'⟩⟩) ?_ n _ ⟨L5, e', [], pv, y5, z5, _, P5, by simp, by omega, rfl⟩
  rintro k _ ⟨L, e', ls, pv, y, z, w6, P, hnk, hyk, rfl⟩
  by_cases hk : k = 0
  · subst hk
    have hd : ¬ (((0 : Nat) : Int) > 0) := by omega
    have hd' : ¬ ((0 : Int) < ((0 : Nat) : Int)) := by omega
    simp (maxSteps := 2000000) only [w_s_l1Cur_party_1, gt_iff_lt, hd, hd', decide_false, Wp_some, Wp_none, Wp_ite, Wc_some, Wc_none, Wc_ite, Wp_thenRun, seqQ_normal, seqQ_exit, seqQ_ret, Wp_inBlock, blkQ_normal, blkQ_ret, blkQ_same, blkQ_exit, Wp_opThen, opQ_at, Wp_guardP, retQ_normal, retQ_ret, loopQ_normal, loopQ_exit, loopQ_ret, go_sem, entry, joinEsc, if_pos, reduceIte, Nat.reduceAdd, Nat.reduceLeDiff, Nat.reduceLT, Nat.reduceEqDiff]
    exact r P (by omega) (by omega) (by omega)
  · have hd' : ((0 : Int) < (k : Int)) := by omega
    have hwk : IntKind.i64.wrap ((k : Int) - 1) = ((k - 1 : Nat) : Int) := by
      rw [show ((k : Int) - 1) = ((k - 1 : Nat) : Int) by omega]; exact wrap64 (by omega) (by omega)
    have hbx := cellsAt_of P.box
    have hbx' := fun y' z' => by
      have := P.bxs hl y' z' []
      rwa [List.append_nil] at this
    have hbs := P.bxs hl
    have hbl := get_lt P.box
    have hC := P.curs h
    simp (maxSteps := 2000000) only [w_s_l1Cur_party_1, gt_iff_lt, hd', hbx, decide_true, Wp_some, Wp_none, Wp_ite, Wc_some, Wc_none, Wc_ite, Wp_thenRun, seqQ_normal, seqQ_exit, seqQ_ret, Wp_inBlock, blkQ_normal, blkQ_ret, blkQ_same, blkQ_exit, Wp_opThen, opQ_at, Wp_guardP, retQ_normal, retQ_ret, loopQ_normal, loopQ_exit, loopQ_ret, go_sem, entry, joinEsc, if_pos, reduceIte, Nat.reduceAdd, Nat.reduceLeDiff, Nat.reduceLT, Nat.reduceEqDiff]
    refine (wc_pick 2 hC (by omega) (by omega)).mono ?_
    rintro v m ⟨x6, y6, z6, rfl, hx60, hx61, hy60, hy61, rfl⟩
    have hC6 := hC.step hy60 z6
    have hqL := hC.lt
    simp (maxSteps := 2000000) only [fillParts, hbx', hbs, hqL, cellsAt_s0, cellsAt_sk, blkAt_s0, blkAt_sk, set_s0, set_sk, set_sapp, set_app, List.set_set, List.length_set, finish_one_setG, finish_one_set0, clean_none', Nat.add_assoc, Wp_some, Wp_none, Wp_ite, Wc_some, Wc_none, Wc_ite, Wp_thenRun, seqQ_normal, seqQ_exit, seqQ_ret, Wp_inBlock, blkQ_normal, blkQ_ret, blkQ_same, blkQ_exit, Wp_opThen, opQ_at, Wp_guardP, retQ_normal, retQ_ret, loopQ_normal, loopQ_exit, loopQ_ret, go_sem, entry, joinEsc, if_pos, reduceIte, Nat.reduceAdd, Nat.reduceLeDiff, Nat.reduceLT, Nat.reduceEqDiff]
    refine (amongZ (n := 3) [2, 3, 6] (hC6.more _) (by omega) (by simp +contextual only [cellsAt_s0, cellsAt_sk, blkAt_s0, blkAt_sk, set_s0, set_sk, set_sapp, set_app, List.set_set, List.length_set, finish_one_setG, finish_one_set0, clean_none', Nat.add_assoc, go_sem, entry, joinEsc, if_pos, reduceIte, Nat.reduceAdd, Nat.reduceLeDiff, Nat.reduceLT, Nat.reduceEqDiff]) (by omega) rfl (by omega) (by omega)).mono ?_
    rintro v m ⟨x7, y7, z7, rfl, hx7, hy70, hy71, rfl⟩
    have hC7 := hC6.step hy70 z7
    rw [List.set_set] at hC7
    have hx7' : 2 ≤ x7 ∧ x7 ≤ 6 := by
      simp at hx7
      omega
    simp (maxSteps := 2000000) only [fillParts, hbx', hbs, hqL, cellsAt_s0, cellsAt_sk, blkAt_s0, blkAt_sk, set_s0, set_sk, set_sapp, set_app, List.set_set, List.length_set, finish_one_setG, finish_one_set0, clean_none', Nat.add_assoc, Wp_some, Wp_none, Wp_ite, Wc_some, Wc_none, Wc_ite, Wp_thenRun, seqQ_normal, seqQ_exit, seqQ_ret, Wp_inBlock, blkQ_normal, blkQ_ret, blkQ_same, blkQ_exit, Wp_opThen, opQ_at, Wp_guardP, retQ_normal, retQ_ret, loopQ_normal, loopQ_exit, loopQ_ret, go_sem, entry, joinEsc, if_pos, reduceIte, Nat.reduceAdd, Nat.reduceLeDiff, Nat.reduceLT, Nat.reduceEqDiff]
    refine (wc_pick x7 (hC7.more _) (by omega) (by omega)).mono ?_
    rintro v m ⟨x8, y8, z8, rfl, hx80, hx81, hy80, hy81, rfl⟩
    have P8 := P.cur hl hy80 z8
    simp (maxSteps := 2000000) only [fillParts, hbx', hbs, hqL, cellsAt_s0, cellsAt_sk, blkAt_s0, blkAt_sk, set_s0, set_sk, set_sapp, set_app, List.set_set, List.length_set, finish_one_setG, finish_one_set0, clean_none', Nat.add_assoc, Wp_some, Wp_none, Wp_ite, Wc_some, Wc_none, Wc_ite, Wp_thenRun, seqQ_normal, seqQ_exit, seqQ_ret, Wp_inBlock, blkQ_normal, blkQ_ret, blkQ_same, blkQ_exit, Wp_opThen, opQ_at, Wp_guardP, retQ_normal, retQ_ret, loopQ_normal, loopQ_exit, loopQ_ret, go_sem, entry, joinEsc, if_pos, reduceIte, Nat.reduceAdd, Nat.reduceLeDiff, Nat.reduceLT, Nat.reduceEqDiff]
    have hl8 : (L.set q (curB av y8 z8)).length = L.length := List.length_set
    clear hbx' hbs hbx
    generalize L.set q (curB av y8 z8) = L8 at *
    generalize IntKind.i64.wrap (a + x6) = u1
    generalize IntKind.i64.wrap (1 + x8) = u2
    refine wc_ppl (k := 1) (new := [(u1, u2)]) (P8.more _).pp (by rw [List.length_append]; omega) (by omega) (src_new _ 1 2 _ _ (L.length + 1) (by rw [← hl8]; simp +contextual only [encL, go_sem, entry, joinEsc, if_pos, reduceIte, Nat.reduceAdd, Nat.reduceLeDiff, Nat.reduceLT, Nat.reduceEqDiff]) rfl) rfl (by omega) ?_
    intro L' g1 g2 g3 g4
    have hbox' := (g2 _ (Nat.le_refl _)).trans ((P8.more _).box)
    have hbc' := cellsAt_of hbox'
    simp only [List.length_append, List.length_cons, List.length_nil, Nat.zero_add, hl8] at g1 g3
    have hlt : ¬ (L8.length + 2 < H.length + 2 + 1) := by omega
    have hlt2 : ¬ (L8.length + (1 + 1) < H.length + 2 + 1) := by omega
    simp (maxSteps := 2000000) only [fillParts, hbc', hbox', hlt, hlt2, under_slice, hwk, decide_true, decide_false, Bool.false_eq_true, if_false, Wp_some, Wp_none, Wp_ite, Wc_some, Wc_none, Wc_ite, Wp_thenRun, seqQ_normal, seqQ_exit, seqQ_ret, Wp_inBlock, blkQ_normal, blkQ_ret, blkQ_same, blkQ_exit, Wp_opThen, opQ_at, Wp_guardP, retQ_normal, retQ_ret, loopQ_normal, loopQ_exit, loopQ_ret, go_sem, entry, joinEsc, if_pos, reduceIte, Nat.reduceAdd, Nat.reduceLeDiff, Nat.reduceLT, Nat.reduceEqDiff]
    have hln : (ls ++ [(u1, u2)]).length = ls.length + 1 := by rw [List.length_append]; rfl
    have hpp : Ppl (H.length + 2) L' (slL (L.length + (1 + 1)) (ls ++ [(u1, u2)]).length none) (ls ++ [(u1, u2)]) := .inr ⟨_, _, rfl, g3, by omega, fun h => by cases h⟩
    have P9 := (P8.more _).app (s' := s) (e' := minEsc e' (H.length + 2)) g2 g4 (by rw [clean_minEsc, P8.cl]; simp) hpp
    rw [hln] at P9
    rw [← hl8] at P9
    exact ⟨k - 1, by omega, _, _, _, _, y8, z8, _, P9, by omega, by omega, rfl⟩

set_option maxHeartbeats 4000000 in
theorem wc_party {q : Nat} {av : AV} {p : Int} (h : Cu H q av p) (hp : p ≤ 100000000) : Wc (call T pr f_s_l1Cur_party [.ptr (some (q, 0))] ⟨H, e⟩) (ptQ H e q av p) := by
  have hl := h.lt
  rw [call_wc t_s_l1Cur_party]
  obtain ⟨R, hR⟩ : ∃ R, R = seqTl (seqTl c_s_l1Cur_party) := ⟨_, rfl⟩
  have hc : c_s_l1Cur_party = .seq (seqHd c_s_l1Cur_party) (.seq (seqHd (seqTl c_s_l1Cur_party)) R) := by rw [hR]; rfl
  have r := @wc_party_2 pr H e q av p h hp
  rw [← hR] at r
  show Wp (run T pr c_s_l1Cur_party _) _
  rw [hc]
  simp (maxSteps := 2000000) only [a_s_l1Cur_party, c_s_l1Cur_party, seqTl, seqHd, fillParts, cellsAt_s0, cellsAt_sk, blkAt_s0, blkAt_sk, set_s0, set_sk, set_sapp, set_app, List.set_set, List.length_set, finish_one_setG, finish_one_set0, clean_none', Nat.add_assoc, Wp_some, Wp_none, Wp_ite, Wc_some, Wc_none, Wc_ite, Wp_thenRun, seqQ_normal, seqQ_exit, seqQ_ret, Wp_inBlock, blkQ_normal, blkQ_ret, blkQ_same, blkQ_exit, Wp_opThen, opQ_at, Wp_guardP, retQ_normal, retQ_ret, loopQ_normal, loopQ_exit, loopQ_ret, go_sem, entry, joinEsc, if_pos, reduceIte, Nat.reduceAdd, Nat.reduceLeDiff, Nat.reduceLT, Nat.reduceEqDiff]
  refine (wc_plank (h.more _) (by omega)).mono ?_
  rintro v m ⟨x1, a1, b1, y1, z1, rfl, hy10, hy11, rfl⟩
  have h1 := h.step hy10 z1
  simp (maxSteps := 2000000) only [hl, fillParts, cellsAt_s0, cellsAt_sk, blkAt_s0, blkAt_sk, set_s0, set_sk, set_sapp, set_app, List.set_set, List.length_set, finish_one_setG, finish_one_set0, clean_none', Nat.add_assoc, Wp_some, Wp_none, Wp_ite, Wc_some, Wc_none, Wc_ite, Wp_thenRun, seqQ_normal, seqQ_exit, seqQ_ret, Wp_inBlock, blkQ_normal, blkQ_ret, blkQ_same, blkQ_exit, Wp_opThen, opQ_at, Wp_guardP, retQ_normal, retQ_ret, loopQ_normal, loopQ_exit, loopQ_ret, go_sem, entry, joinEsc, if_pos, reduceIte, Nat.reduceAdd, Nat.reduceLeDiff, Nat.reduceLT, Nat.reduceEqDiff]
  refine (amongZ (n := 6) [1, 2, 2, 3, 1, 4] (h1.more _) (by omega) (by simp +contextual only [cellsAt_s0, cellsAt_sk, blkAt_s0, blkAt_sk, set_s0, set_sk, set_sapp, set_app, List.set_set, List.length_set, finish_one_setG, finish_one_set0, clean_none', Nat.add_assoc, go_sem, entry, joinEsc, if_pos, reduceIte, Nat.reduceAdd, Nat.reduceLeDiff, Nat.reduceLT, Nat.reduceEqDiff]) (by omega) rfl (by omega) (by omega)).mono ?_
  rintro v m ⟨x2, y2, z2, rfl, hx2, hy20, hy21, rfl⟩
  simp (maxSteps := 2000000) only [hl, fillParts, under_sliceN, cellsAt_s0, cellsAt_sk, blkAt_s0, blkAt_sk, set_s0, set_sk, set_sapp, set_app, List.set_set, List.length_set, finish_one_setG, finish_one_set0, clean_none', Nat.add_assoc, Wp_some, Wp_none, Wp_ite, Wc_some, Wc_none, Wc_ite, Wp_thenRun, seqQ_normal, seqQ_exit, seqQ_ret, Wp_inBlock, blkQ_normal, blkQ_ret, blkQ_same, blkQ_exit, Wp_opThen, opQ_at, Wp_guardP, retQ_normal, retQ_ret, loopQ_normal, loopQ_exit, loopQ_ret, go_sem, entry, joinEsc, if_pos, reduceIte, Nat.reduceAdd, Nat.reduceLeDiff, Nat.reduceLT, Nat.reduceEqDiff]
  refine r (x := x1) (a := a1) (b := b1) (s := x2) ⟨⟨_, rfl⟩, hy20, rfl, ?_, ?_, .inl ⟨rfl, rfl⟩⟩ (by omega)
  · rw [blkAt_s0]
    rfl
  · rw [blkAt_sk]
    rfl

end Go.Proofs.Ythkgpblohjpcdaa.Slim

/- Planks: the Draw functions. -/
namespace Go.Proofs.Ythkgpblohjpcdaa.Slim

open Go

set_option linter.unusedSimpArgs false

set_option linter.unusedVariables false

variable {pr : Prims} {H : List Blk} {e : Option Nat}

theorem wc_DrawIsParty {av : AV} (hc : CodeAt H av) : Wc (call T pr f_s_DrawIsParty [av] ⟨H, e⟩) (fun v m => ∃ (ls : List Ld) (c : Option Nat) (x a b s : Int), v = ptV x a b (slL H.length ls.length c) s ∧ ls.length ≤ 6 ∧ m = ⟨H ++ [.cells (encL ls) true], e⟩) := by
  obtain ⟨p0, s0, n0, c0, rfl⟩ := hc.form
  rw [call_wc t_s_DrawIsParty]
  simp (maxSteps := 2000000) only [a_s_DrawIsParty, c_s_DrawIsParty, fillParts, Nat.add_assoc, Wp_some, Wp_none, Wp_ite, Wc_some, Wc_none, Wc_ite, Wp_thenRun, seqQ_normal, seqQ_exit, seqQ_ret, Wp_inBlock, blkQ_normal, blkQ_ret, blkQ_same, blkQ_exit, Wp_opThen, opQ_at, Wp_guardP, retQ_normal, retQ_ret, loopQ_normal, loopQ_exit, loopQ_ret, go_sem, entry, joinEsc, if_pos, reduceIte, Nat.reduceAdd, Nat.reduceLeDiff, Nat.reduceLT, Nat.reduceEqDiff]
  refine (wc_party (Cu.new (k := 1) (G := [.cells [.int .i64 0, .int .i64 0, .int .i64 0, .slice none 0 0 none, .int .i64 0] true, curB _ 0 0]) rfl hc (Int.le_refl 0)) (by omega)).mono ?_
  rintro v m ⟨ls, c, x, a, b, s, y, z, rfl, hn, hy0, hy1, rfl⟩
  have hlt : ¬ (H.length + 2 < H.length + 1) := by omega
  have hf := fun B0 B1 => finish_party (H := H) (G := [B0, B1, .cells (encL ls) true]) (j := 2) (n := ls.length) (c := c) x a b s e (minEsc none H.length) (by rw [clean_minEsc]; simp [clean]) rfl (under_encL _ _)
  simp (maxSteps := 2000000) only [a_s_DrawIsParty, fillParts, Nat.add_zero, Nat.add_assoc, under_slice, hlt, hf, decide_false, Bool.false_eq_true, if_false, Wp_some, Wp_none, Wp_ite, Wc_some, Wc_none, Wc_ite, Wp_thenRun, seqQ_normal, seqQ_exit, seqQ_ret, Wp_inBlock, blkQ_normal, blkQ_ret, blkQ_same, blkQ_exit, Wp_opThen, opQ_at, Wp_guardP, retQ_normal, retQ_ret, loopQ_normal, loopQ_exit, loopQ_ret, go_sem, entry, joinEsc, if_pos, reduceIte, Nat.reduceAdd, Nat.reduceLeDiff, Nat.reduceLT, Nat.reduceEqDiff]
  exact ⟨ls, c, x, a, b, s, rfl, hn, rfl⟩

theorem wc_DrawCountPlaces {av : AV} (hc : CodeAt H av) : Wc (call T pr f_s_DrawCountPlaces [av] ⟨H, e⟩) (fun v m => ∃ (ls : List Ld) (c : Option Nat) (x a b s : Int), v = ptV x a b (slL H.length ls.length c) s ∧ ls.length ≤ 6 ∧ m = ⟨H ++ [.cells (encL ls) true], e⟩) := by
  rw [call_wc t_s_DrawCountPlaces]
  simp (maxSteps := 2000000) only [a_s_DrawCountPlaces, c_s_DrawCountPlaces, fillParts, Nat.add_assoc, Wp_some, Wp_none, Wp_ite, Wc_some, Wc_none, Wc_ite, Wp_thenRun, seqQ_normal, seqQ_exit, seqQ_ret, Wp_inBlock, blkQ_normal, blkQ_ret, blkQ_same, blkQ_exit, Wp_opThen, opQ_at, Wp_guardP, retQ_normal, retQ_ret, loopQ_normal, loopQ_exit, loopQ_ret, go_sem, entry, joinEsc, if_pos, reduceIte, Nat.reduceAdd, Nat.reduceLeDiff, Nat.reduceLT, Nat.reduceEqDiff]
  refine (wc_DrawIsParty (hc.more _)).mono ?_
  rintro v m ⟨ls, c, x, a, b, s, rfl, hn, rfl⟩
  have hlt : ¬ (H.length + 1 < H.length + 1) := by omega
  have hf := fun B0 => finish_party (H := H) (G := [B0, .cells (encL ls) true]) (j := 1) (n := ls.length) (c := c) x a b s e (minEsc none H.length) (by rw [clean_minEsc]; simp [clean]) rfl (under_encL _ _)
  simp (maxSteps := 2000000) only [a_s_DrawCountPlaces, fillParts, Nat.add_zero, Nat.add_assoc, under_slice, hlt, hf, decide_false, Bool.false_eq_true, if_false, Wp_some, Wp_none, Wp_ite, Wc_some, Wc_none, Wc_ite, Wp_thenRun, seqQ_normal, seqQ_exit, seqQ_ret, Wp_inBlock, blkQ_normal, blkQ_ret, blkQ_same, blkQ_exit, Wp_opThen, opQ_at, Wp_guardP, retQ_normal, retQ_ret, loopQ_normal, loopQ_exit, loopQ_ret, go_sem, entry, joinEsc, if_pos, reduceIte, Nat.reduceAdd, Nat.reduceLeDiff, Nat.reduceLT, Nat.reduceEqDiff]
  exact ⟨ls, c, x, a, b, s, rfl, hn, rfl⟩

theorem finish_partyI {G : List Blk} {j n : Nat} {c : Option Nat} {cs : List AV} {wr : Bool} (x a b s : Int) (y : Int) (e0 e1 : Option Nat) (hc : clean H.length e1 = true) (h1 : G[j]? = some (.cells cs wr)) (u1 : (cs.all fun c => c.under H.length) = true) :
    finish 2 H.length e0 (.tup [ptV x a b (slL (H.length + j) n c) s, .int .i64 y]) ⟨H ++ G, e1⟩ = some (.tup [ptV x a b (slL H.length n c) s, .int .i64 y], ⟨H ++ [.cells cs wr], e0⟩) := by
  have hlt1 : ¬ H.length + j < H.length := by omega
  have hr : dedup (AV.roots H.length (.tup [ptV x a b (slL (H.length + j) n c) s, .int .i64 y])) = [H.length + j] := by
    simp only [AV.roots, AV.roots.go, if_neg hlt1, List.nil_append, List.cons_append, List.append_nil]
    simp [dedup]
  have hg : (H ++ G)[H.length + j]? = some (.cells cs wr) := by rw [List.getElem?_append_right (by omega), Nat.add_sub_cancel_left, h1]
  unfold finish
  simp only [hr]
  have h2 : ([H.length + j].all fun b => flatBlk H.length (H ++ G)[b]?) = true := by
    simp only [List.all_cons, List.all_nil, Bool.and_true, hg, flatBlk, u1]
  simp only [hc, h2, and_self, if_true]
  simp [AV.rename, AV.rename.go, renum, hlt1, hg]

theorem wc_DrawFarthestOut {av : AV} (hc : CodeAt H av) : Wc (call T pr f_s_DrawFarthestOut [av] ⟨H, e⟩) (fun v m => ∃ (ls : List Ld) (c : Option Nat) (x a b s i : Int), v = .tup [ptV x a b (slL H.length ls.length c) s, .int .i64 i] ∧ ls.length ≤ 6 ∧ m = ⟨H ++ [.cells (encL ls) true], e⟩) := by
  obtain ⟨p0, s0, n0, c0, rfl⟩ := hc.form
  rw [call_wc t_s_DrawFarthestOut]
  simp (maxSteps := 2000000) only [a_s_DrawFarthestOut, c_s_DrawFarthestOut, fillParts, Nat.add_assoc, Wp_some, Wp_none, Wp_ite, Wc_some, Wc_none, Wc_ite, Wp_thenRun, seqQ_normal, seqQ_exit, seqQ_ret, Wp_inBlock, blkQ_normal, blkQ_ret, blkQ_same, blkQ_exit, Wp_opThen, opQ_at, Wp_guardP, retQ_normal, retQ_ret, loopQ_normal, loopQ_exit, loopQ_ret, go_sem, entry, joinEsc, if_pos, reduceIte, Nat.reduceAdd, Nat.reduceLeDiff, Nat.reduceLT, Nat.reduceEqDiff]
  refine (wc_party (Cu.new (k := 1) (G := [.cells [.int .i64 0, .int .i64 0, .int .i64 0, .slice none 0 0 none, .int .i64 0] true, curB _ 0 0]) rfl hc (Int.le_refl 0)) (by omega)).mono ?_
  rintro v m ⟨ls, c, x, a, b, s, y, z, rfl, hn, hy0, hy1, rfl⟩
  have hlt3 : (H.length + 2 < H.length + 4) := by omega
  have hw := wrap_succ (show ls.length < 9223372036854775807 by omega)
  simp (maxSteps := 2000000) only [fillParts, Nat.add_zero, Nat.add_assoc, under_slice, hlt3, hw, Nat.reduceAdd, decide_true, if_true, Wp_some, Wp_none, Wp_ite, Wc_some, Wc_none, Wc_ite, Wp_thenRun, seqQ_normal, seqQ_exit, seqQ_ret, Wp_inBlock, blkQ_normal, blkQ_ret, blkQ_same, blkQ_exit, Wp_opThen, opQ_at, Wp_guardP, retQ_normal, retQ_ret, loopQ_normal, loopQ_exit, loopQ_ret, go_sem, entry, joinEsc, if_pos, reduceIte, Nat.reduceAdd, Nat.reduceLeDiff, Nat.reduceLT, Nat.reduceEqDiff]
  refine (wc_pick _ (Cu.new (H := H) (k := 1) (y := y) (z := z) rfl hc hy0) (by omega) (by omega)).mono ?_
  rintro v m ⟨x5, y5, z5, rfl, hx50, hx51, hy50, hy51, rfl⟩
  simp (maxSteps := 2000000) only [fillParts, Nat.add_zero, Nat.add_assoc, under_slice, hlt3, hw, Nat.reduceAdd, decide_true, if_true, Wp_some, Wp_none, Wp_ite, Wc_some, Wc_none, Wc_ite, Wp_thenRun, seqQ_normal, seqQ_exit, seqQ_ret, Wp_inBlock, blkQ_normal, blkQ_ret, blkQ_same, blkQ_exit, Wp_opThen, opQ_at, Wp_guardP, retQ_normal, retQ_ret, loopQ_normal, loopQ_exit, loopQ_ret, go_sem, entry, joinEsc, if_pos, reduceIte, Nat.reduceAdd, Nat.reduceLeDiff, Nat.reduceLT, Nat.reduceEqDiff]
  refine (wc_pick 24 (Cu.new (H := H) (k := 1) (y := y5) (z := z5) rfl hc hy50) (by omega) (by omega)).mono ?_
  rintro v m ⟨x6, y6, z6, rfl, hx60, hx61, hy60, hy61, rfl⟩
  have hlt : ¬ (H.length + 2 < H.length + 1) := by omega
  generalize hu : IntKind.i64.wrap (x5 - IntKind.i64.wrap (x6.tdiv 23)) = u
  have hf := fun B0 B1 B3 => finish_partyI (H := H) (G := [B0, B1, .cells (encL ls) true, B3]) (j := 2) (n := ls.length) (c := c) x a b s u e (minEsc none H.length) (by rw [clean_minEsc]; simp [clean]) rfl (under_encL _ _)
  simp (maxSteps := 2000000) only [a_s_DrawFarthestOut, fillParts, Nat.add_zero, Nat.add_assoc, under_slice, hlt, hlt3, hf, hu, show ¬ ((23 : Int) = 0) by omega, Nat.reduceAdd, decide_true, decide_false, Bool.false_eq_true, if_true, if_false, Wp_some, Wp_none, Wp_ite, Wc_some, Wc_none, Wc_ite, Wp_thenRun, seqQ_normal, seqQ_exit, seqQ_ret, Wp_inBlock, blkQ_normal, blkQ_ret, blkQ_same, blkQ_exit, Wp_opThen, opQ_at, Wp_guardP, retQ_normal, retQ_ret, loopQ_normal, loopQ_exit, loopQ_ret, go_sem, entry, joinEsc, if_pos, reduceIte, Nat.reduceAdd, Nat.reduceLeDiff, Nat.reduceLT, Nat.reduceEqDiff]
  exact ⟨ls, c, x, a, b, s, u, rfl, hn, rfl⟩

end Go.Proofs.Ythkgpblohjpcdaa.Slim
