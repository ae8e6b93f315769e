/- The contract of slices.Delete at one element, walked off its own text. -/
import Derived.Test.YtlocjmbfcdfjfaaSlimDel
import Derived.Test.YtlocjmbfcdfjfaaSlimOk
import Derived.Test.YtlocjmbfcdfjfaaSlimDelE
namespace Go.Proofs.Ytlocjmbfcdfjfaa.Slim
open Go Go.Lib Go.RowKit
set_option linter.unusedVariables false
set_option linter.unusedSimpArgs false

set_option maxHeartbeats 4000000 in
set_option maxRecDepth 1000000 in
theorem del_walkLoad (blk off n k i j : Nat) (w : World) (hij : i < j) (hjn : j ≤ n) (hj1 : n - (i + (n - j)) = 1) (hnk : n ≤ k) (news : List Value) (hlen : news.length = (n - j) * 2)
    (hsrc : ∀ t u, news[t]? = some u → w.drew.cell? ⟨blk, off + j * 2 + t, none⟩ = some u) (hone : ∀ u ∈ news, u.oneCell' = true)
    (hsp : ∀ t, t < (n - j) * 2 → (w.drew.cell? ⟨blk, off + i * 2 + t, none⟩).isSome = true ∧ w.drew.frozen? ⟨blk, off + i * 2 + t, none⟩ = false)
    (hsp2 : ∀ t, t < 2 → ((w.drew.setCells blk (off + i * 2) news).cell? ⟨blk, off + (i + (n - j)) * 2 + t, none⟩).isSome = true ∧ (w.drew.setCells blk (off + i * 2) news).frozen? ⟨blk, off + (i + (n - j)) * 2 + t, none⟩ = false) :
    Calls Try.prog 72 #[.slice (some ⟨blk, off, none⟩) n k, .int .i64 i, .int .i64 j] w fun e w' =>
      e = .returned (.slice (some ⟨blk, off, none⟩) (i + (n - j)) k) ∧ w' = (w.drew.setCells blk (off + i * 2) news).setCells blk (off + (i + (n - j)) * 2) [.int .i64 0, .int .i64 0] := by
  have mixed : Try.prog.follows .mixedOrders = true := by kernel_rfl
  have ts : Try.prog.underlying 22 = some (.slice 95) := by kernel_rfl
  obtain ⟨i0, hi0, hz0, hz1, hz2⟩ := info_parts (show (Try.prog.info? 95).map (fun i => (i.zero, i.size, i.bytes)) = some (some (.agg #[.int .i64 0, .int .i64 0]), 2, 16) by kernel_rfl)
  obtain ⟨A, hA, hsrc'⟩ : ∃ A : Addr, (if k = j then some (⟨blk, off, none⟩ : Addr) else some ⟨blk, off + j * 2, none⟩) = some A ∧ Hid (∀ t u, news[t]? = some u → w.drew.cell? (A.add t) = some u) := by
    by_cases h : k = j
    · refine ⟨⟨blk, off, none⟩, by simp [h], fun t u hu => ?_⟩
      have h0 : news.length = 0 := by rw [hlen]; omega
      rw [List.length_eq_zero_iff.1 h0] at hu
      simp at hu
    · refine ⟨⟨blk, off + j * 2, none⟩, by simp [h], fun t u hu => ?_⟩
      rw [Addr.add_lit]
      exact hsrc t u hu
  have s1 : Hid (news.length = (n - j) * 2) := hlen
  have s2 : Hid (∀ u ∈ news, u.oneCell' = true) := hone
  have s3 : Hid (∀ t, t < news.length → (w.drew.cell? ⟨blk, off + i * 2 + t, none⟩).isSome = true ∧ w.drew.frozen? ⟨blk, off + i * 2 + t, none⟩ = false) := fun t ht => hsp t (by omega)
  obtain ⟨W1, hW1⟩ : ∃ W1, W1 = w.drew.setCells blk (off + i * 2) news := ⟨_, rfl⟩
  have hW : Hid (W1 = w.drew.setCells blk (off + i * 2) news) := hW1
  rw [← hW1] at hsp2 ⊢
  have hcl : ∀ ty, (Builtin.clear_ #[22] ty #[.slice (some ⟨blk, off + (i + (n - j)) * 2, none⟩) (n - (i + (n - j))) (k - (i + (n - j)))]).run Try.prog W1 = .ok (.tuple #[]) (W1.setCells blk (off + (i + (n - j)) * 2) [.int .i64 0, .int .i64 0]) := by
    intro ty
    rw [hj1]
    exact clear_one W1 22 95 ty (.agg #[.int .i64 0, .int .i64 0]) (by kernel_rfl) (fun w => by kernel_rfl) (by intro v hv; simp [Value.cells] at hv; subst hv; rfl) blk _ _ (fun t ht => (hsp2 t ht).1) (fun t ht => (hsp2 t ht).2)
  have hic : i ≤ k := by omega
  have hjc : j ≤ k := by omega
  have hne : ¬ i = j := by omega
  clear hW1 hsp2 hsp hlen hsrc hone hj1
  go_enter Try.func72, Try.ntmps72
  go_wp2_with fail
  go_region_law_o (refine step_append_room rfl (.tmp 22) (.tmp 25) 22 rfl 95 i0 2 ts hi0 hz1 blk off i k (by simp [Act.eval, Act.put]) A (n - j) (k - j) news (by simp [Act.eval, Act.put]) s1.out hsrc'.out s2.out (by omega) s3.out ?_; rw [← hW.out])
  go_wp2
  go_ret
  exact ⟨rfl, rfl⟩

set_option maxHeartbeats 4000000 in
set_option maxRecDepth 1000000 in
theorem del_walkStage (blk off n k i j : Nat) (w : World) (hij : i < j) (hjn : j ≤ n) (hj1 : n - (i + (n - j)) = 1) (hnk : n ≤ k) (news : List Value) (hlen : news.length = (n - j) * 3)
    (hsrc : ∀ t u, news[t]? = some u → w.drew.cell? ⟨blk, off + j * 3 + t, none⟩ = some u) (hone : ∀ u ∈ news, u.oneCell' = true)
    (hsp : ∀ t, t < (n - j) * 3 → (w.drew.cell? ⟨blk, off + i * 3 + t, none⟩).isSome = true ∧ w.drew.frozen? ⟨blk, off + i * 3 + t, none⟩ = false)
    (hsp2 : ∀ t, t < 3 → ((w.drew.setCells blk (off + i * 3) news).cell? ⟨blk, off + (i + (n - j)) * 3 + t, none⟩).isSome = true ∧ (w.drew.setCells blk (off + i * 3) news).frozen? ⟨blk, off + (i + (n - j)) * 3 + t, none⟩ = false) :
    Calls Try.prog 73 #[.slice (some ⟨blk, off, none⟩) n k, .int .i64 i, .int .i64 j] w fun e w' =>
      e = .returned (.slice (some ⟨blk, off, none⟩) (i + (n - j)) k) ∧ w' = (w.drew.setCells blk (off + i * 3) news).setCells blk (off + (i + (n - j)) * 3) [.int .i64 0, .int .i64 0, .int .i64 0] := by
  have mixed : Try.prog.follows .mixedOrders = true := by kernel_rfl
  have ts : Try.prog.underlying 23 = some (.slice 98) := by kernel_rfl
  obtain ⟨i0, hi0, hz0, hz1, hz2⟩ := info_parts (show (Try.prog.info? 98).map (fun i => (i.zero, i.size, i.bytes)) = some (some (.agg #[.int .i64 0, .int .i64 0, .int .i64 0]), 3, 24) by kernel_rfl)
  obtain ⟨A, hA, hsrc'⟩ : ∃ A : Addr, (if k = j then some (⟨blk, off, none⟩ : Addr) else some ⟨blk, off + j * 3, none⟩) = some A ∧ Hid (∀ t u, news[t]? = some u → w.drew.cell? (A.add t) = some u) := by
    by_cases h : k = j
    · refine ⟨⟨blk, off, none⟩, by simp [h], fun t u hu => ?_⟩
      have h0 : news.length = 0 := by rw [hlen]; omega
      rw [List.length_eq_zero_iff.1 h0] at hu
      simp at hu
    · refine ⟨⟨blk, off + j * 3, none⟩, by simp [h], fun t u hu => ?_⟩
      rw [Addr.add_lit]
      exact hsrc t u hu
  have s1 : Hid (news.length = (n - j) * 3) := hlen
  have s2 : Hid (∀ u ∈ news, u.oneCell' = true) := hone
  have s3 : Hid (∀ t, t < news.length → (w.drew.cell? ⟨blk, off + i * 3 + t, none⟩).isSome = true ∧ w.drew.frozen? ⟨blk, off + i * 3 + t, none⟩ = false) := fun t ht => hsp t (by omega)
  obtain ⟨W1, hW1⟩ : ∃ W1, W1 = w.drew.setCells blk (off + i * 3) news := ⟨_, rfl⟩
  have hW : Hid (W1 = w.drew.setCells blk (off + i * 3) news) := hW1
  rw [← hW1] at hsp2 ⊢
  have hcl : ∀ ty, (Builtin.clear_ #[23] ty #[.slice (some ⟨blk, off + (i + (n - j)) * 3, none⟩) (n - (i + (n - j))) (k - (i + (n - j)))]).run Try.prog W1 = .ok (.tuple #[]) (W1.setCells blk (off + (i + (n - j)) * 3) [.int .i64 0, .int .i64 0, .int .i64 0]) := by
    intro ty
    rw [hj1]
    exact clear_one W1 23 98 ty (.agg #[.int .i64 0, .int .i64 0, .int .i64 0]) (by kernel_rfl) (fun w => by kernel_rfl) (by intro v hv; simp [Value.cells] at hv; subst hv; rfl) blk _ _ (fun t ht => (hsp2 t ht).1) (fun t ht => (hsp2 t ht).2)
  have hic : i ≤ k := by omega
  have hjc : j ≤ k := by omega
  have hne : ¬ i = j := by omega
  clear hW1 hsp2 hsp hlen hsrc hone hj1
  go_enter Try.func73, Try.ntmps73
  go_wp2_with fail
  go_region_law_o (refine step_append_room rfl (.tmp 22) (.tmp 25) 23 rfl 98 i0 3 ts hi0 hz1 blk off i k (by simp [Act.eval, Act.put]) A (n - j) (k - j) news (by simp [Act.eval, Act.put]) s1.out hsrc'.out s2.out (by omega) s3.out ?_; rw [← hW.out])
  go_wp2
  go_ret
  exact ⟨rfl, rfl⟩

def prC : Prims := fun f args m => if f = f_slices_Delete_Si_Load_i_Load then prDel 2 args m else if f = f_slices_Delete_Si_Stage_i_Stage then prDel 3 args m else none

theorem fnLoad : ∃ fn, Try.prog.funcs[f_slices_Delete_Si_Load_i_Load]? = some fn ∧ fn.body.isSome = true ∧ fn.name ≠ "runtime.NumGoroutine" := by
  have h : ((Try.prog.funcs[f_slices_Delete_Si_Load_i_Load]?).map fun fn => fn.body.isSome && decide (fn.name ≠ "runtime.NumGoroutine")) = some true := by kernel_rfl
  obtain ⟨fn, h1, h2⟩ := Option.map_eq_some_iff.mp h
  simp only [Bool.and_eq_true, decide_eq_true_eq] at h2
  exact ⟨fn, h1, h2.1, h2.2⟩

theorem callLoad {ι : Emb} {m m' : Mem} {w : World} {args : List AV} {vs : List Value} {v : AV} (h : prDel 2 args m = some (v, m')) (R : Rel ι m w) (hv : VL ι w args vs) :
    Calls Try.prog f_slices_Delete_Si_Load_i_Load vs.toArray w fun e w' => ∃ (ι' : Emb) (v' : Value), e = .returned v' ∧ V ι' w' v v' ∧ Rel ι' m' w' ∧ Ext ι m w ι' m' w' := by
  obtain ⟨b, n, i, cap, cs, rfl, hb, hcs, hi, rfl, rfl⟩ := prDel_told h
  obtain ⟨v1, vs1, rfl, h1, v2, vs2, rfl, rfl, v3, vs3, rfl, rfl, rfl⟩ := hv
  obtain ⟨c, x, k, news, rfl, h2, h3, h4, h5, h6, h7, ι', h8, h9, h10⟩ := del_rel (P := Try.prog) R hb hcs hi h1
  refine (del_walkLoad c x n k i (i + 1) w (by omega) (by omega) (by omega) h2 news h3 h4 h5 h6 h7).mono ?_
  rintro e w' ⟨rfl, rfl⟩
  exact ⟨ι', _, rfl, h8, h9, h10⟩

theorem fnStage : ∃ fn, Try.prog.funcs[f_slices_Delete_Si_Stage_i_Stage]? = some fn ∧ fn.body.isSome = true ∧ fn.name ≠ "runtime.NumGoroutine" := by
  have h : ((Try.prog.funcs[f_slices_Delete_Si_Stage_i_Stage]?).map fun fn => fn.body.isSome && decide (fn.name ≠ "runtime.NumGoroutine")) = some true := by kernel_rfl
  obtain ⟨fn, h1, h2⟩ := Option.map_eq_some_iff.mp h
  simp only [Bool.and_eq_true, decide_eq_true_eq] at h2
  exact ⟨fn, h1, h2.1, h2.2⟩

theorem callStage {ι : Emb} {m m' : Mem} {w : World} {args : List AV} {vs : List Value} {v : AV} (h : prDel 3 args m = some (v, m')) (R : Rel ι m w) (hv : VL ι w args vs) :
    Calls Try.prog f_slices_Delete_Si_Stage_i_Stage vs.toArray w fun e w' => ∃ (ι' : Emb) (v' : Value), e = .returned v' ∧ V ι' w' v v' ∧ Rel ι' m' w' ∧ Ext ι m w ι' m' w' := by
  obtain ⟨b, n, i, cap, cs, rfl, hb, hcs, hi, rfl, rfl⟩ := prDel_told h
  obtain ⟨v1, vs1, rfl, h1, v2, vs2, rfl, rfl, v3, vs3, rfl, rfl, rfl⟩ := hv
  obtain ⟨c, x, k, news, rfl, h2, h3, h4, h5, h6, h7, ι', h8, h9, h10⟩ := del_rel (P := Try.prog) R hb hcs hi h1
  refine (del_walkStage c x n k i (i + 1) w (by omega) (by omega) (by omega) h2 news h3 h4 h5 h6 h7).mono ?_
  rintro e w' ⟨rfl, rfl⟩
  exact ⟨ι', _, rfl, h8, h9, h10⟩

theorem prC_ok : PrimsOk Try.prog prC := by
  refine ⟨fun f args m v m' ι w vs h R hv => ?_, fun f args m v m' h => ?_⟩
  · unfold prC at h
    split at h
    · rename_i hf
      subst hf
      exact ⟨fnLoad, callLoad h R hv⟩
    rename_i hfLoad
    split at h
    · rename_i hf
      subst hf
      exact ⟨fnStage, callStage h R hv⟩
    rename_i hfStage
    cases h
  · unfold prC at h
    split at h
    · exact prDel_grow h
    split at h
    · exact prDel_grow h
    cases h

theorem prC_has : HasDelete prC := by
  refine ⟨fun L e b n i cap cs h1 h2 h3 => ?_, fun L e b n i cap cs h1 h2 h3 => ?_⟩
  · rw [call_prim rfl]
    exact prDel_at (cap := cap) h1 h2 h3
  · rw [call_prim rfl]
    exact prDel_at (cap := cap) h1 h2 h3

end Go.Proofs.Ytlocjmbfcdfjfaa.Slim
