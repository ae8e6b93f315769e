/- The slim machine: what slices.Delete does to the memory. -/
import Derived.Test.YtlocjmbfcdfjfaaSlimW
import Derived.Deep.RegionLaw
import Derived.WalkKit
import Derived.OwnWalk
import Derived.Lib.Walk
import Derived.Lib.SliceRun
import Derived.Lib.Slices
import Derived.Shelf.RegionOpenPlain
import Derived.Deep.LoopGhost
import Derived.Below
namespace Go.Proofs.Ytlocjmbfcdfjfaa.Slim
open Go Go.Lib Go.RowKit
set_option linter.unusedVariables false
set_option linter.unusedSimpArgs false

theorem clear_one {P : Program} (w : World) (t e ty : TypeId) (z : Value) (ht : P.underlying t = some (.slice e)) (hv : ∀ w, (zeroValue e).run P w = .ok z w) (h1 : ∀ v ∈ z.cells.toList, v.oneCell' = true) (b o c : Nat)
    (hc : ∀ j, j < z.cells.size → (w.cell? ⟨b, o + j, none⟩).isSome = true) (hf : ∀ j, j < z.cells.size → w.frozen? ⟨b, o + j, none⟩ = false) :
    (Builtin.clear_ #[t] ty #[.slice (some ⟨b, o, none⟩) 1 c]).run P w = .ok (.tuple #[]) (w.setCells b o z.cells.toList) := by
  have hzc : (Builtin.zeroCells z.cells 1).toList = z.cells.toList := by
    simp [Builtin.zeroCells]
    apply List.ext_getElem
    · simp
    · intro i h1 h2
      simp at h2
      simp [Nat.mod_eq_of_lt h2, getElem!_pos z.cells i h2]
  have hst := run_storeCells_cells (P := P) b o z.cells.toList 0 w (by simpa using hc) (by simpa using hf) h1
  simp only [Nat.add_zero] at hst
  simp [Builtin.clear_, run_underlying ht, hv, hzc, hst]

section
variable {ι : Emb} {m : Mem} {w : World}

/-- of a block an end is no longer told -/
theorem Rel.trim (R : Rel ι m w) {b : Nat} {cs : List AV} {wr : Bool} (hb : m.H[b]? = some (.cells cs wr)) (k : Nat) :
    Rel ι { m with H := m.H.set b (.cells (cs.take k) wr) } w ∧ Ext ι m w ι { m with H := m.H.set b (.cells (cs.take k) wr) } w := by
  have hbl : b < m.H.length := (List.getElem?_eq_some_iff.mp hb).1
  have hset : ∀ (b' : Nat) cs' wr', (m.H.set b (.cells (cs.take k) wr))[b']? = some (Blk.cells cs' wr') → ∃ cs'', m.H[b']? = some (Blk.cells cs'' wr') ∧ cs' = if b = b' then cs''.take k else cs'' := by
    intro b' cs' wr' h
    rw [List.getElem?_set] at h
    split at h
    · rename_i hbb
      subst hbb
      cases h
      exact ⟨cs, hb, by simp⟩
    · rename_i hbb
      exact ⟨cs', h, by simp [hbb]⟩
  refine ⟨⟨by simp [R.len], R.low, fun b' cs' wr' h => ?_, fun b1 b2 cs1 cs2 wr' c d c' d' hne h1 h2 h3 h4 => ?_⟩, ⟨Emb.le_refl _, Nat.le_refl _, Nat.le_refl _, Shapes.refl _, fun r hr => ?_, fun _ _ _ => rfl, rfl, rfl, rfl⟩⟩
  · obtain ⟨cs'', h1, rfl⟩ := hset _ _ _ h
    obtain ⟨c, d, h2, hC⟩ := R.at' b' cs'' wr' h1
    refine ⟨c, d, h2, ?_⟩
    split
    · obtain ⟨us, h3, h4⟩ := hC.vals
      refine ⟨⟨us.take k, h3.take k, fun j v hj => h4 j v ?_⟩, ?_, hC.free⟩
      · rw [List.getElem?_take] at hj
        split at hj
        · exact hj
        · cases hj
      · have := all_sub hC.cell 0 k
        rwa [List.drop_zero] at this
    · exact hC
  · obtain ⟨e1, g1, _⟩ := hset _ _ _ h1
    obtain ⟨e2, g2, _⟩ := hset _ _ _ h2
    exact R.inj b1 b2 e1 e2 wr' c d c' d' hne g1 g2 h3 h4
  · obtain ⟨b', cs', d', h1, h2⟩ := hr
    obtain ⟨e1, g1, _⟩ := hset _ _ _ h1
    exact .inl ⟨b', e1, d', g1, h2⟩

theorem del_rel {P : Program} (R : Rel ι m w) {b n sz i : Nat} {cap : Option Nat} {cs : List AV} {v : Value} (hb : m.H[b]? = some (.cells cs true)) (hcs : cs.length = n * sz) (hi : i < n) (hv : V ι w (.slice (some (b, 0)) sz n cap) v) :
    ∃ (c x k : Nat) (news : List Value), v = .slice (some ⟨c, x, none⟩) n k ∧ n ≤ k ∧ news.length = (n - (i + 1)) * sz ∧
      (∀ t u, news[t]? = some u → w.drew.cell? ⟨c, x + (i + 1) * sz + t, none⟩ = some u) ∧ (∀ u ∈ news, u.oneCell' = true) ∧
      (∀ t, t < (n - (i + 1)) * sz → (w.drew.cell? ⟨c, x + i * sz + t, none⟩).isSome = true ∧ w.drew.frozen? ⟨c, x + i * sz + t, none⟩ = false) ∧
      (∀ t, t < sz → ((w.drew.setCells c (x + i * sz) news).cell? ⟨c, x + (i + (n - (i + 1))) * sz + t, none⟩).isSome = true ∧ (w.drew.setCells c (x + i * sz) news).frozen? ⟨c, x + (i + (n - (i + 1))) * sz + t, none⟩ = false) ∧
      ∃ ι', V ι' ((w.drew.setCells c (x + i * sz) news).setCells c (x + (i + (n - (i + 1))) * sz) (List.replicate sz (.int .i64 0))) (.slice (some (m.H.length + 1, 0)) sz (n - 1) none) (.slice (some ⟨c, x, none⟩) (i + (n - (i + 1))) k) ∧
        Rel ι' ⟨m.H.set b .dead ++ [.dead, .cells (cs.take (i * sz) ++ cs.drop ((i + 1) * sz)) true], m.esc⟩ ((w.drew.setCells c (x + i * sz) news).setCells c (x + (i + (n - (i + 1))) * sz) (List.replicate sz (.int .i64 0))) ∧
        Ext ι m w ι' ⟨m.H.set b .dead ++ [.dead, .cells (cs.take (i * sz) ++ cs.drop ((i + 1) * sz)) true], m.esc⟩ ((w.drew.setCells c (x + i * sz) news).setCells c (x + (i + (n - (i + 1))) * sz) (List.replicate sz (.int .i64 0))) := by
  obtain ⟨c, d, x, k, e, M, g1, rfl, g3, g4, g5, g6, g7⟩ := hv
  obtain ⟨c', d', g1', hC⟩ := R.at' b cs true hb
  rw [g1] at g1'
  cases g1'
  have hx : x = d := by rcases g4 with h | ⟨h, _⟩ <;> omega
  subst hx
  obtain ⟨us, hu, hcell⟩ := hC.vals
  obtain ⟨e', M', g5', hfree⟩ := hC.free rfl
  rw [g5] at g5'
  cases g5'
  have hul : us.length = n * sz := hu.length.trans hcs
  have hkM : x + k * sz ≤ M := by rcases g6 with h | h <;> omega
  have hnk : n * sz ≤ k * sz := Nat.mul_le_mul_right _ g3
  have e1 : (i + 1) * sz + (n - (i + 1)) * sz = n * sz := by rw [← Nat.add_mul]; congr 1; omega
  have e2 : (i + 1) * sz = i * sz + sz := by rw [Nat.add_mul, Nat.one_mul]
  have e3 : (i + (n - (i + 1))) * sz = i * sz + (n - (i + 1)) * sz := Nat.add_mul _ _ _
  have hbl : b < m.H.length := (List.getElem?_eq_some_iff.mp hb).1
  have R0 := R.drew
  have hu0 : VL ι w.drew cs us := VL.mono (w := w) (w' := w.drew) (Emb.le_refl _) (fun _ _ h => h) _ _ hu
  have hM : w.drew.shape? c = some (e, M) := g5
  obtain ⟨_, r1, r2⟩ := Rel.inplace (P := P) (b := b) (old := cs) (cs := cs.take (i * sz)) (new := cs.drop ((i + 1) * sz)) (us := us.take (i * sz)) (vs := us.drop ((i + 1) * sz)) R0 hb g1 hM (hu0.take _)
    (fun j v hj => by
      rw [List.getElem?_take] at hj
      split at hj
      · exact hcell j v hj
      · cases hj) (by have := all_sub hC.cell 0 (i * sz); rwa [List.drop_zero] at this)
    (hu0.drop _) (by have := all_sub hC.cell ((i + 1) * sz) cs.length; rwa [List.take_of_length_le (by simp)] at this) (by simp; omega)
  have htl : (us.take (i * sz)).length = i * sz := by rw [List.length_take]; omega
  rw [htl] at r1 r2
  have hH1 : (m.H.set b .dead ++ [Blk.cells (cs.take (i * sz) ++ cs.drop ((i + 1) * sz)) true])[m.H.length]? = some (.cells (cs.take (i * sz) ++ cs.drop ((i + 1) * sz)) true) := by
    rw [List.getElem?_append_right (by simp)]; simp
  have hι1 : (ι ++ [some (c, x)])[m.H.length]? = some (some (c, x)) := by rw [← R.len]; exact emb_last _ _
  obtain ⟨c', d', q1, hC1⟩ := r1.at' m.H.length _ true hH1
  rw [hι1] at q1
  cases q1
  obtain ⟨us1, hu1, hcell1⟩ := hC1.vals
  obtain ⟨e', M', g5', hfree1⟩ := hC1.free rfl
  have hM1 := r2.shapes _ _ hM
  rw [hM1] at g5'
  cases g5'
  have hal : (cs.take (i * sz) ++ cs.drop ((i + 1) * sz)).length = (i + (n - (i + 1))) * sz := by
    rw [List.length_append, List.length_take, List.length_drop]; omega
  have hu1l : us1.length = (i + (n - (i + 1))) * sz := hu1.length.trans hal
  obtain ⟨_, r3, r4⟩ := Rel.inplace (P := P) (b := m.H.length) (old := cs.take (i * sz) ++ cs.drop ((i + 1) * sz)) (cs := cs.take (i * sz) ++ cs.drop ((i + 1) * sz)) (new := List.replicate sz (AV.int .i64 0)) (us := us1) (vs := List.replicate sz (.int .i64 0)) r1 hH1 hι1 hM1 hu1 hcell1 hC1.cell
    (VL.replicate (c := .int .i64 0) (y := .int .i64 0) rfl sz) (by simp [AV.isCell]) (by right; simp; omega)
  rw [hu1l] at r3 r4
  have hH2 : (m.H.set b .dead ++ [Blk.cells (cs.take (i * sz) ++ cs.drop ((i + 1) * sz)) true]).set m.H.length .dead ++ [Blk.cells (cs.take (i * sz) ++ cs.drop ((i + 1) * sz) ++ List.replicate sz (AV.int .i64 0)) true] =
      m.H.set b .dead ++ [.dead, .cells (cs.take (i * sz) ++ cs.drop ((i + 1) * sz) ++ List.replicate sz (AV.int .i64 0)) true] := by
    rw [List.set_append_right _ _ (by simp)]
    simp
  simp only [hH2] at r3 r4
  obtain ⟨r5, r6⟩ := r3.trim (b := m.H.length + 1) (cs := cs.take (i * sz) ++ cs.drop ((i + 1) * sz) ++ List.replicate sz (AV.int .i64 0)) (wr := true) (by
    show (m.H.set b .dead ++ [.dead, _])[m.H.length + 1]? = _
    rw [List.getElem?_append_right (by simp)]; simp) ((i + (n - (i + 1))) * sz)
  have hH3 : (m.H.set b .dead ++ [.dead, Blk.cells (cs.take (i * sz) ++ cs.drop ((i + 1) * sz) ++ List.replicate sz (AV.int .i64 0)) true]).set (m.H.length + 1) (.cells ((cs.take (i * sz) ++ cs.drop ((i + 1) * sz) ++ List.replicate sz (AV.int .i64 0)).take ((i + (n - (i + 1))) * sz)) true) =
      m.H.set b .dead ++ [.dead, .cells (cs.take (i * sz) ++ cs.drop ((i + 1) * sz)) true] := by
    rw [List.set_append_right _ _ (by simp), List.take_left' hal]
    simp
  simp only [hH3] at r5 r6
  refine ⟨c, x, k, us.drop ((i + 1) * sz), rfl, g3, by rw [List.length_drop]; omega, fun t u ht => ?_, fun u hu' => ?_, fun t ht => ?_, fun t ht => ?_, _, ?_, r5, ((Ext.drew ι m w).trans r2).trans (r4.trans r6)⟩
  · rw [List.getElem?_drop] at ht
    have := hcell _ _ ht
    rw [← Nat.add_assoc] at this
    exact this
  · exact oneCells hu hC.cell u (List.mem_of_mem_drop hu')
  · obtain ⟨y, hy⟩ := shape_cell hM (show x + i * sz + t < M by omega)
    exact ⟨by rw [hy]; rfl, hfree _ (by omega)⟩
  · obtain ⟨y, hy⟩ := shape_cell hM1 (show x + (i + (n - (i + 1))) * sz + t < M by omega)
    exact ⟨by rw [hy]; rfl, hfree1 _ (by omega)⟩
  · refine ⟨c, x, x, k, e, M, ?_, ?_, by omega, .inl rfl, r6.shapes _ _ (r4.shapes _ _ hM1), .inr hkM, fun q hq => by cases hq⟩
    · rw [show m.H.length + 1 = (ι ++ [some (c, x)]).length by simp [R.len]]
      exact emb_last _ _
    · rw [show i + (n - (i + 1)) = n - 1 by omega]

end

end Go.Proofs.Ytlocjmbfcdfjfaa.Slim
