/- The slim machine: what slices.Delete does to the memory. -/
import Derived.Test.YtlcklonakjhoiaaSlimZ9
import Derived.Deep.RegionLaw
import Derived.WalkKit
import Derived.OwnWalk
import Derived.Lib.Walk
import Derived.Lib.SliceRun
import Derived.Lib.Slices
import Derived.Shelf.RegionOpenPlain
import Derived.Deep.LoopGhost
import Derived.Below
/- The slim machine: what slices.Delete does to the memory. -/
namespace Go.Proofs.Ytlcklonakjhoiaa.Slim
open Go Go.Lib Go.RowKit
set_option linter.unusedVariables false
set_option linter.unusedSimpArgs false

theorem clear_one {P : Program} (w : World) (t e ty : TypeId) (z : Value) (ht : P.underlying t = some (.slice e)) (hv : ∀ w, (zeroValue e).run P w = .ok z w) (h1 : ∀ v ∈ z.cells.toList, v.oneCell' = true) (b o c : Nat)
    (hc : ∀ j, j < z.cells.size → (w.cell? ⟨b, o + j, none⟩).isSome = true) (hf : ∀ j, j < z.cells.size → w.frozen? ⟨b, o + j, none⟩ = false) :
    (Builtin.clear_ #[t] ty #[.slice (some ⟨b, o, none⟩) 1 c]).run P w = .ok (.tuple #[]) (w.setCells b o z.cells.toList) := by
  have hzc : (Builtin.zeroCells z.cells 1).toList = z.cells.toList := by
    simp [Builtin.zeroCells]
    apply List.ext_getElem
    · simp
    · intro i h1 h2
      simp at h2
      simp [Nat.mod_eq_of_lt h2, getElem!_pos z.cells i h2]
  have hst := run_storeCells_cells (P := P) b o z.cells.toList 0 w (by simpa using hc) (by simpa using hf) h1
  simp only [Nat.add_zero] at hst
  simp [Builtin.clear_, run_underlying ht, hv, hzc, hst]

section
variable {ι : Emb} {m : Mem} {w : World}

/-- of a block an end is no longer told -/
theorem Rel.trim (R : Rel ι m w) {b : Nat} {cs : List AV} {wr : Bool} (hb : m.H[b]? = some (.cells cs wr)) (k : Nat) :
    Rel ι { m with H := m.H.set b (.cells (cs.take k) wr) } w ∧ Ext ι m w ι { m with H := m.H.set b (.cells (cs.take k) wr) } w := by
  have hbl : b < m.H.length := (List.getElem?_eq_some_iff.mp hb).1
  have hset : ∀ (b' : Nat) cs' wr', (m.H.set b (.cells (cs.take k) wr))[b']? = some (Blk.cells cs' wr') → ∃ cs'', m.H[b']? = some (Blk.cells cs'' wr') ∧ cs' = if b = b' then cs''.take k else cs'' := by
    intro b' cs' wr' h
    rw [List.getElem?_set] at h
    split at h
    · rename_i hbb
      subst hbb
      cases h
      exact ⟨cs, hb, by simp⟩
    · rename_i hbb
      exact ⟨cs', h, by simp [hbb]⟩
  refine R.of0 ⟨⟨by simp [R.len], R.low, fun b' cs' wr' h => ?_, fun b1 b2 cs1 cs2 wr' c d c' d' hne h1 h2 h3 h4 => ?_⟩, ⟨Emb.le_refl _, Nat.le_refl _, Nat.le_refl _, Shapes.refl _, fun r hr => ?_, fun _ _ _ => rfl, rfl, rfl, rfl⟩⟩
  · obtain ⟨cs'', h1, rfl⟩ := hset _ _ _ h
    obtain ⟨c, d, h2, hC⟩ := R.at' b' cs'' wr' h1
    refine ⟨c, d, h2, ?_⟩
    split
    · obtain ⟨us, h3, h4⟩ := hC.vals
      refine ⟨⟨us.take k, h3.take k, fun j v hj => h4 j v ?_⟩, ?_, hC.free⟩
      · rw [List.getElem?_take] at hj
        split at hj
        · exact hj
        · cases hj
      · have := all_sub hC.cell 0 k
        rwa [List.drop_zero] at this
    · exact hC
  · obtain ⟨e1, g1, _⟩ := hset _ _ _ h1
    obtain ⟨e2, g2, _⟩ := hset _ _ _ h2
    exact R.inj b1 b2 e1 e2 wr' c d c' d' hne g1 g2 h3 h4
  · obtain ⟨b', cs', d', h1, h2⟩ := hr
    obtain ⟨e1, g1, _⟩ := hset _ _ _ h1
    exact .inl ⟨b', e1, d', g1, h2⟩

theorem del_rel {P : Program} (R : Rel ι m w) {b n sz i : Nat} {cap : Option Nat} {cs : List AV} {v : Value} (hb : m.H[b]? = some (.cells cs true)) (hcs : cs.length = n * sz) (hi : i < n) (hv : V ι w (.slice (some (b, 0)) sz n cap) v) :
    ∃ (c x k : Nat) (news : List Value), v = .slice (some ⟨c, x, none⟩) n k ∧ n ≤ k ∧ news.length = (n - (i + 1)) * sz ∧
      (∀ t u, news[t]? = some u → w.drew.cell? ⟨c, x + (i + 1) * sz + t, none⟩ = some u) ∧ (∀ u ∈ news, u.oneCell' = true) ∧
      (∀ t, t < (n - (i + 1)) * sz → (w.drew.cell? ⟨c, x + i * sz + t, none⟩).isSome = true ∧ w.drew.frozen? ⟨c, x + i * sz + t, none⟩ = false) ∧
      (∀ t, t < sz → ((w.drew.setCells c (x + i * sz) news).cell? ⟨c, x + (i + (n - (i + 1))) * sz + t, none⟩).isSome = true ∧ (w.drew.setCells c (x + i * sz) news).frozen? ⟨c, x + (i + (n - (i + 1))) * sz + t, none⟩ = false) ∧
      ∃ ι', V ι' ((w.drew.setCells c (x + i * sz) news).setCells c (x + (i + (n - (i + 1))) * sz) (List.replicate sz (.int .i64 0))) (.slice (some (m.H.length + 1, 0)) sz (n - 1) none) (.slice (some ⟨c, x, none⟩) (i + (n - (i + 1))) k) ∧
        Rel ι' ⟨m.H.set b .dead ++ [.dead, .cells (cs.take (i * sz) ++ cs.drop ((i + 1) * sz)) true], m.esc⟩ ((w.drew.setCells c (x + i * sz) news).setCells c (x + (i + (n - (i + 1))) * sz) (List.replicate sz (.int .i64 0))) ∧
        Ext ι m w ι' ⟨m.H.set b .dead ++ [.dead, .cells (cs.take (i * sz) ++ cs.drop ((i + 1) * sz)) true], m.esc⟩ ((w.drew.setCells c (x + i * sz) news).setCells c (x + (i + (n - (i + 1))) * sz) (List.replicate sz (.int .i64 0))) := by
  obtain ⟨c, d, x, k, e, M, g1, rfl, g3, g4, g5, g6, g7⟩ := hv
  obtain ⟨c', d', g1', hC⟩ := R.at' b cs true hb
  rw [g1] at g1'
  cases g1'
  have hx : x = d := by rcases g4 with h | ⟨h, _⟩ <;> omega
  subst hx
  obtain ⟨us, hu, hcell⟩ := hC.vals
  obtain ⟨e', M', g5', hfree⟩ := hC.free rfl
  rw [g5] at g5'
  cases g5'
  have hul : us.length = n * sz := hu.length.trans hcs
  have hkM : x + k * sz ≤ M := by rcases g6 with h | h <;> omega
  have hnk : n * sz ≤ k * sz := Nat.mul_le_mul_right _ g3
  have e1 : (i + 1) * sz + (n - (i + 1)) * sz = n * sz := by rw [← Nat.add_mul]; congr 1; omega
  have e2 : (i + 1) * sz = i * sz + sz := by rw [Nat.add_mul, Nat.one_mul]
  have e3 : (i + (n - (i + 1))) * sz = i * sz + (n - (i + 1)) * sz := Nat.add_mul _ _ _
  have hbl : b < m.H.length := (List.getElem?_eq_some_iff.mp hb).1
  have R0 := R.drew
  have hu0 : VL ι w.drew cs us := VL.mono (w := w) (w' := w.drew) (Emb.le_refl _) (fun _ _ h => h) _ _ hu
  have hM : w.drew.shape? c = some (e, M) := g5
  obtain ⟨_, r1, r2⟩ := Rel.inplace (P := P) (b := b) (old := cs) (cs := cs.take (i * sz)) (new := cs.drop ((i + 1) * sz)) (us := us.take (i * sz)) (vs := us.drop ((i + 1) * sz)) R0 hb g1 hM (hu0.take _)
    (fun j v hj => by
      rw [List.getElem?_take] at hj
      split at hj
      · exact hcell j v hj
      · cases hj) (by have := all_sub hC.cell 0 (i * sz); rwa [List.drop_zero] at this)
    (hu0.drop _) (by have := all_sub hC.cell ((i + 1) * sz) cs.length; rwa [List.take_of_length_le (by simp)] at this) (by simp; omega)
  have htl : (us.take (i * sz)).length = i * sz := by rw [List.length_take]; omega
  rw [htl] at r1 r2
  have hH1 : (m.H.set b .dead ++ [Blk.cells (cs.take (i * sz) ++ cs.drop ((i + 1) * sz)) true])[m.H.length]? = some (.cells (cs.take (i * sz) ++ cs.drop ((i + 1) * sz)) true) := by
    rw [List.getElem?_append_right (by simp)]; simp
  have hι1 : (ι ++ [some (c, x)])[m.H.length]? = some (some (c, x)) := by rw [← R.len]; exact emb_last _ _
  obtain ⟨c', d', q1, hC1⟩ := r1.at' m.H.length _ true hH1
  rw [hι1] at q1
  cases q1
  obtain ⟨us1, hu1, hcell1⟩ := hC1.vals
  obtain ⟨e', M', g5', hfree1⟩ := hC1.free rfl
  have hM1 := r2.shapes _ _ hM
  rw [hM1] at g5'
  cases g5'
  have hal : (cs.take (i * sz) ++ cs.drop ((i + 1) * sz)).length = (i + (n - (i + 1))) * sz := by
    rw [List.length_append, List.length_take, List.length_drop]; omega
  have hu1l : us1.length = (i + (n - (i + 1))) * sz := hu1.length.trans hal
  obtain ⟨_, r3, r4⟩ := Rel.inplace (P := P) (b := m.H.length) (old := cs.take (i * sz) ++ cs.drop ((i + 1) * sz)) (cs := cs.take (i * sz) ++ cs.drop ((i + 1) * sz)) (new := List.replicate sz (AV.int .i64 0)) (us := us1) (vs := List.replicate sz (.int .i64 0)) r1 hH1 hι1 hM1 hu1 hcell1 hC1.cell
    (VL.replicate (c := .int .i64 0) (y := .int .i64 0) rfl sz) (by simp [AV.isCell]) (by right; simp; omega)
  rw [hu1l] at r3 r4
  have hH2 : (m.H.set b .dead ++ [Blk.cells (cs.take (i * sz) ++ cs.drop ((i + 1) * sz)) true]).set m.H.length .dead ++ [Blk.cells (cs.take (i * sz) ++ cs.drop ((i + 1) * sz) ++ List.replicate sz (AV.int .i64 0)) true] =
      m.H.set b .dead ++ [.dead, .cells (cs.take (i * sz) ++ cs.drop ((i + 1) * sz) ++ List.replicate sz (AV.int .i64 0)) true] := by
    rw [List.set_append_right _ _ (by simp)]
    simp
  simp only [hH2] at r3 r4
  obtain ⟨r5, r6⟩ := r3.trim (b := m.H.length + 1) (cs := cs.take (i * sz) ++ cs.drop ((i + 1) * sz) ++ List.replicate sz (AV.int .i64 0)) (wr := true) (by
    show (m.H.set b .dead ++ [.dead, _])[m.H.length + 1]? = _
    rw [List.getElem?_append_right (by simp)]; simp) ((i + (n - (i + 1))) * sz)
  have hH3 : (m.H.set b .dead ++ [.dead, Blk.cells (cs.take (i * sz) ++ cs.drop ((i + 1) * sz) ++ List.replicate sz (AV.int .i64 0)) true]).set (m.H.length + 1) (.cells ((cs.take (i * sz) ++ cs.drop ((i + 1) * sz) ++ List.replicate sz (AV.int .i64 0)).take ((i + (n - (i + 1))) * sz)) true) =
      m.H.set b .dead ++ [.dead, .cells (cs.take (i * sz) ++ cs.drop ((i + 1) * sz)) true] := by
    rw [List.set_append_right _ _ (by simp), List.take_left' hal]
    simp
  simp only [hH3] at r5 r6
  refine ⟨c, x, k, us.drop ((i + 1) * sz), rfl, g3, by rw [List.length_drop]; omega, fun t u ht => ?_, fun u hu' => ?_, fun t ht => ?_, fun t ht => ?_, _, ?_, r5, ((Ext.drew ι m w).trans r2).trans (r4.trans r6)⟩
  · rw [List.getElem?_drop] at ht
    have := hcell _ _ ht
    rw [← Nat.add_assoc] at this
    exact this
  · exact oneCells hu hC.cell u (List.mem_of_mem_drop hu')
  · obtain ⟨y, hy⟩ := shape_cell hM (show x + i * sz + t < M by omega)
    exact ⟨by rw [hy]; rfl, hfree _ (by omega)⟩
  · obtain ⟨y, hy⟩ := shape_cell hM1 (show x + (i + (n - (i + 1))) * sz + t < M by omega)
    exact ⟨by rw [hy]; rfl, hfree1 _ (by omega)⟩
  · refine ⟨c, x, x, k, e, M, ?_, ?_, by omega, .inl rfl, r6.shapes _ _ (r4.shapes _ _ hM1), .inr hkM, fun q hq => by cases hq⟩
    · rw [show m.H.length + 1 = (ι ++ [some (c, x)]).length by simp [R.len]]
      exact emb_last _ _
    · rw [show i + (n - (i + 1)) = n - 1 by omega]

end

end Go.Proofs.Ytlcklonakjhoiaa.Slim

/- What slices.Delete is told to do. -/
namespace Go.Proofs.Ytlcklonakjhoiaa.Slim
open Go
set_option linter.unusedVariables false

def prDel (sz : Nat) (args : List AV) (m : Mem) : Option (AV × Mem) := match args with
  | [.slice (some (b, 0)) sz' n cap, .int .i64 i, .int .i64 j] => (match m.H[b]? with
    | some (.cells cs true) => if sz' = sz ∧ cs.length = n * sz ∧ 0 ≤ i ∧ i < (n : Int) ∧ j = i + 1 then
        some (.slice (some (m.H.length + 1, 0)) sz (n - 1) none, ⟨m.H.set b .dead ++ [.dead, .cells (cs.take (i.toNat * sz) ++ cs.drop ((i.toNat + 1) * sz)) true], m.esc⟩) else none
    | _ => none)
  | _ => none

theorem prDel_told {sz : Nat} {args : List AV} {m m' : Mem} {v : AV} (h : prDel sz args m = some (v, m')) : ∃ (b n i : Nat) (cap : Option Nat) (cs : List AV), args = [.slice (some (b, 0)) sz n cap, .int .i64 i, .int .i64 (i + 1 : Nat)] ∧
    m.H[b]? = some (.cells cs true) ∧ cs.length = n * sz ∧ i < n ∧ v = .slice (some (m.H.length + 1, 0)) sz (n - 1) none ∧ m' = ⟨m.H.set b .dead ++ [.dead, .cells (cs.take (i * sz) ++ cs.drop ((i + 1) * sz)) true], m.esc⟩ := by
  unfold prDel at h
  split at h
  · rename_i b sz' n cap i j
    split at h
    · rename_i cs hb
      split at h
      · rename_i hc
        obtain ⟨rfl, h1, h2, h3, rfl⟩ := hc
        cases h
        obtain ⟨k, rfl⟩ : ∃ k : Nat, i = k := ⟨i.toNat, by omega⟩
        exact ⟨b, n, k, cap, cs, by simp, hb, h1, by omega, rfl, by simp⟩
      · cases h
    · cases h
  · cases h

theorem prDel_at {sz : Nat} {L : List Blk} {e : Option Nat} {b n i : Nat} {cap : Option Nat} {cs : List AV} (h1 : L[b]? = some (.cells cs true)) (h2 : cs.length = n * sz) (h3 : i < n) :
    prDel sz [.slice (some (b, 0)) sz n cap, .int .i64 i, .int .i64 (i + 1 : Nat)] ⟨L, e⟩ = some (.slice (some (L.length + 1, 0)) sz (n - 1) none, ⟨L.set b .dead ++ [.dead, .cells (cs.take (i * sz) ++ cs.drop ((i + 1) * sz)) true], e⟩) := by
  unfold prDel
  simp only [h1]
  rw [if_pos ⟨trivial, h2, by omega, by omega, by omega⟩]
  simp

theorem prDel_grow {sz : Nat} {args : List AV} {m m' : Mem} {v : AV} (h : prDel sz args m = some (v, m')) : Grow m m' := by
  obtain ⟨b, n, i, cap, cs, rfl, hb, hcs, hi, rfl, rfl⟩ := prDel_told h
  have hbl : b < m.H.length := (List.getElem?_eq_some_iff.mp hb).1
  have key : ∀ (x : Nat) cs' wr', (m.H.set b .dead ++ [.dead, Blk.cells (cs.take (i * sz) ++ cs.drop ((i + 1) * sz)) true])[x]? = some (.cells cs' wr') → (x < m.H.length ∧ m.H[x]? = some (.cells cs' wr')) ∨ (m.H.length ≤ x ∧ wr' = true) := by
    intro x cs' wr' hx
    rcases Nat.lt_or_ge x m.H.length with hl | hl
    · rw [List.getElem?_append_left (by simpa using hl), List.getElem?_set] at hx
      split at hx
      · cases hx
      · exact .inl ⟨hl, hx⟩
    · rw [List.getElem?_append_right (by simpa using hl)] at hx
      refine .inr ⟨hl, ?_⟩
      match hq : x - (m.H.set b .dead).length, hx with
      | 0, hx => simp at hx
      | 1, hx => simp at hx; exact hx.2
      | q + 2, hx => simp at hx
  refine ⟨by simp, fun _ h => h, fun x hx _ => ?_, fun x cs' hx => ?_⟩
  · intro cs' wr' hc
    rcases key x cs' wr' hc with ⟨_, h2⟩ | ⟨h1, _⟩
    · exact ⟨cs', wr', h2, fun c hc => .inl hc⟩
    · omega
  · rcases key x cs' false hx with ⟨_, h2⟩ | ⟨_, h2⟩
    · exact h2
    · cases h2

/-- slices.Delete, at one element -/
def HasDelete (pr : Prims) : Prop := (∀ (L : List Blk) (e : Option Nat) (b n i : Nat) (cap : Option Nat) (cs : List AV), L[b]? = some (.cells cs true) → cs.length = n * 2 → i < n → call T pr f_slices_Delete_Si_Load_i_Load [.slice (some (b, 0)) 2 n cap, .int .i64 i, .int .i64 (i + 1 : Nat)] ⟨L, e⟩ = some (.slice (some (L.length + 1, 0)) 2 (n - 1) none, ⟨L.set b .dead ++ [.dead, .cells (cs.take (i * 2) ++ cs.drop ((i + 1) * 2)) true], e⟩))

end Go.Proofs.Ytlcklonakjhoiaa.Slim

/- Tasks of a stand: what they make. -/
namespace Go.Proofs.Ytlcklonakjhoiaa.Slim

open Go

set_option linter.unusedSimpArgs false

set_option linter.unusedVariables false

variable {pr : Prims} {H : List Blk} {e : Option Nat}

def sliceHiV (sz : Nat) (v h : AV) : Option AV := match v with
  | .slice p sz' n cap => (match natOf h with
    | some h => sliceVal sz p sz' n cap 0 h none
    | none => none)
  | _ => none

def sliceLoV (sz : Nat) (v l : AV) : Option AV := match v with
  | .slice p sz' n cap => (match natOf l with
    | some l => sliceVal sz p sz' n cap l n none
    | none => none)
  | _ => none

section

variable {C : FuncId → List AV → Mem → Option (AV × Mem)} {g : X → AV} {m : Mem}

theorem aop_sliceHi (sz : Nat) (x h : X) : aop C g m (.sliceSl sz x none (some h) none) = valOf m (sliceHiV sz (g x) (g h)) := by
  rw [aop_of_light rfl]
  simp only [light, sliceHiV, bound, optNat]
  generalize g x = v
  generalize natOf (g h) = o
  cases v <;> cases o <;> simp

theorem aop_sliceLo (sz : Nat) (x l : X) : aop C g m (.sliceSl sz x (some l) none none) = valOf m (sliceLoV sz (g x) (g l)) := by
  rw [aop_of_light rfl]
  simp only [light, sliceLoV, bound, optNat]
  generalize g x = v
  generalize natOf (g l) = o
  cases v <;> cases o <;> simp

end

theorem sliceHiV_at (sz b o n h : Nat) (cap : Option Nat) (hh : h ≤ n) : sliceHiV sz (.slice (some (b, o)) sz n cap) (.int .i64 h) = some (.slice (some (b, o)) sz h cap) := by
  unfold sliceHiV natOf sliceVal
  simp [hh]

theorem sliceLoV_at (sz b o n l : Nat) (hl : l ≤ n) : sliceLoV sz (.slice (some (b, o)) sz n none) (.int .i64 l) = some (.slice (some (b, o + l * sz)) sz (n - l) none) := by
  unfold sliceLoV natOf sliceVal
  simp [hl]

theorem encL_take : ∀ (ls : List Ld) (i : Nat), (encL ls).take (i * 2) = encL (ls.take i)
  | ls, 0 => by simp [encL]
  | [], i + 1 => by simp [encL]
  | l :: ls, i + 1 => by
    rw [show (i + 1) * 2 = i * 2 + 1 + 1 by omega]
    simp [encL, encL_take ls i]

theorem encL_drop : ∀ (ls : List Ld) (i : Nat), (encL ls).drop (i * 2) = encL (ls.drop i)
  | ls, 0 => by simp
  | [], i + 1 => by simp [encL]
  | l :: ls, i + 1 => by
    rw [show (i + 1) * 2 = i * 2 + 1 + 1 by omega]
    simp [encL, encL_drop ls i]

theorem encS_take : ∀ (ls : List Sg) (i : Nat), (encS ls).take (i * 3) = encS (ls.take i)
  | ls, 0 => by simp [encS]
  | [], i + 1 => by simp [encS]
  | l :: ls, i + 1 => by
    rw [show (i + 1) * 3 = i * 3 + 1 + 1 + 1 by omega]
    simp [encS, encS_take ls i]

theorem encS_drop : ∀ (ls : List Sg) (i : Nat), (encS ls).drop (i * 3) = encS (ls.drop i)
  | ls, 0 => by simp
  | [], i + 1 => by simp [encS]
  | l :: ls, i + 1 => by
    rw [show (i + 1) * 3 = i * 3 + 1 + 1 + 1 by omega]
    simp [encS, encS_drop ls i]

theorem encS_append : ∀ a b : List Sg, encS (a ++ b) = encS a ++ encS b
  | [], b => rfl
  | l :: a, b => by simp [encS, encS_append a b]

theorem encL_erase (ls : List Ld) (i : Nat) : (encL ls).take (i * 2) ++ (encL ls).drop ((i + 1) * 2) = encL (ls.eraseIdx i) := by
  rw [encL_take, encL_drop, List.eraseIdx_eq_take_drop_succ, encL_append]

theorem encS_erase (ls : List Sg) (i : Nat) : (encS ls).take (i * 3) ++ (encS ls).drop ((i + 1) * 3) = encS (ls.eraseIdx i) := by
  rw [encS_take, encS_drop, List.eraseIdx_eq_take_drop_succ, encS_append]

/-- an element taken out of a slice that has its block alone -/
theorem append_del {L : List Blk} {b n sz bytes i : Nat} {cs : List AV} (hb : L[b]? = some (.cells cs true)) (hcs : cs.length = n * sz) (hi : i < n) (hm : n * bytes ≤ maxBytes) :
    appendV L e false sz bytes (.slice (some (b, 0)) sz i none) (.slice (some (b, (i + 1) * sz)) sz (n - (i + 1)) none) = some (.slice (some (L.length, 0)) sz (n - 1) none, ⟨L.set b .dead ++ [.cells (cs.take (i * sz) ++ cs.drop ((i + 1) * sz)) true], e⟩) := by
  have e1 : (i + 1) * sz + (n - (i + 1)) * sz = n * sz := by rw [← Nat.add_mul]; congr 1; omega
  have e2 : (i + 1) * sz = i * sz + sz := by rw [Nat.add_mul, Nat.one_mul]
  have hs : srcCells false L (.slice (some (b, (i + 1) * sz)) sz (n - (i + 1)) none) = some (n - (i + 1), cs.drop ((i + 1) * sz)) := by
    unfold srcCells
    have hc : cellsAt L b = some cs := by unfold cellsAt; rw [hb]
    simp only [Bool.false_eq_true, if_false, hc]
    rw [if_pos (by omega), List.take_of_length_le (by rw [List.length_drop]; omega)]
  have e3 : i + (n - (i + 1)) = n - 1 := by omega
  unfold appendV
  simp only [hb, hs]
  rw [if_pos ⟨trivial, by rw [e3]; exact Nat.le_trans (Nat.mul_le_mul_right _ (by omega)) hm, by rw [List.length_drop]; omega, by omega⟩]
  rw [if_neg (by simp), if_pos trivial, e3, List.drop_zero]

/-- an element more on a slice that has its block alone -/
theorem append_gen {L : List Blk} {b q n sz bytes : Nat} {cs new : List AV} {c : Option Nat} (hb : L[b]? = some (.cells cs true)) (hq : cellsAt L q = some new) (hcs : cs.length = n * sz) (hnew : new.length = sz) (hm : (n + 1) * bytes ≤ maxBytes) :
    appendV L e false sz bytes (.slice (some (b, 0)) sz n none) (.slice (some (q, 0)) sz 1 c) = some (.slice (some (L.length, 0)) sz (n + 1) none, ⟨L.set b .dead ++ [.cells (cs ++ new) true], e⟩) := by
  have hs := srcCells_new L 1 sz c new q hq (by omega)
  unfold appendV
  simp only [hb, hs]
  rw [if_pos ⟨trivial, hm, by omega, by omega⟩, if_neg (by simp), if_pos trivial, List.drop_zero, ← hcs, List.take_length]

abbrev tkV (k x y z : Int) : AV := .agg [.int .i64 k, .int .i64 x, .int .i64 y, .int .i64 z]

/-- may a task be made? -/
def mayT (ls : List Ld) (ss : List Sg) (k x y z : Int) : Bool :=
  if k = 1 ∨ k = 4 then decide (z = 0)
  else if k = 2 then ((decide (0 ≤ x) && decide (x ≤ (ls.length : Int) - 1)) && decide (y = 0)) && decide (z = 0)
  else if k = 3 then (decide (0 ≤ x) && decide (x ≤ (ls.length : Int) - 1)) && decide (z = 0)
  else if k = 6 then ((decide (0 ≤ x) && decide (x ≤ (ss.length : Int) - 1)) && decide (y = 0)) && decide (z = 0)
  else decide (k = 5)

/-- what a task makes of a row and a chain -/
def rowT (ls : List Ld) (k x y : Int) : List Ld :=
  if k = 1 then ls ++ [(x, y)] else if k = 2 then ls.eraseIdx x.toNat else if k = 3 then movd ls x.toNat y else ls

def chainT (ss : List Sg) (k x y z : Int) : List Sg :=
  if k = 5 then ss ++ [(x, y, z)] else if k = 6 then ss.eraseIdx x.toNat else ss

def baseA (a k x : Int) : Int := if k = 4 then x else a

end Go.Proofs.Ytlcklonakjhoiaa.Slim

/- The slim machine: walking by what holds at the end; loops by invariants. -/
namespace Go.Proofs.Ytlcklonakjhoiaa.Slim
open Go
set_option linter.unusedVariables false
set_option linter.unusedSimpArgs false

section
variable {T : Table} {pr : Prims} {H : List Blk} {e : Option Nat}

/-- code comes to an end, of which this holds -/
def Wp (r : Option (Ex × St)) (Q : Ex → St → Prop) : Prop := ∃ ex st, r = some (ex, st) ∧ Q ex st
/-- a call (or an operation) comes to an end, of which this holds -/
def Wc (r : Option (AV × Mem)) (Q : AV → Mem → Prop) : Prop := ∃ v m, r = some (v, m) ∧ Q v m

theorem Wp.mono {r : Option (Ex × St)} {P Q : Ex → St → Prop} (h : Wp r P) (k : ∀ ex st, P ex st → Q ex st) : Wp r Q := by
  obtain ⟨ex, st, h1, h2⟩ := h
  exact ⟨ex, st, h1, k _ _ h2⟩
theorem Wc.mono {r : Option (AV × Mem)} {P Q : AV → Mem → Prop} (h : Wc r P) (k : ∀ v m, P v m → Q v m) : Wc r Q := by
  obtain ⟨v, m, h1, h2⟩ := h
  exact ⟨v, m, h1, k _ _ h2⟩
theorem Wc.eq {r : Option (AV × Mem)} {v : AV} {m : Mem} (h : Wc r fun v' m' => v' = v ∧ m' = m) : r = some (v, m) := by
  obtain ⟨_, _, h1, rfl, rfl⟩ := h
  exact h1
theorem Wc.of_eq {r : Option (AV × Mem)} {v : AV} {m : Mem} {Q : AV → Mem → Prop} (h : r = some (v, m)) (k : Q v m) : Wc r Q := ⟨v, m, h, k⟩

@[congr] theorem Wp_congr {r r' : Option (Ex × St)} {Q : Ex → St → Prop} (h : r = r') : Wp r Q = Wp r' Q := by rw [h]
@[congr] theorem Wc_congr {r r' : Option (AV × Mem)} {Q : AV → Mem → Prop} (h : r = r') : Wc r Q = Wc r' Q := by rw [h]

theorem Wp_some (ex : Ex) (st : St) (Q : Ex → St → Prop) : Wp (some (ex, st)) Q = Q ex st := by
  apply propext
  constructor
  · rintro ⟨_, _, h1, h2⟩; cases h1; exact h2
  · exact fun h => ⟨_, _, rfl, h⟩
theorem Wp_none (Q : Ex → St → Prop) : Wp none Q = False := by
  apply propext
  constructor
  · rintro ⟨_, _, h1, _⟩; cases h1
  · exact False.elim
theorem Wp_ite (c : Prop) [Decidable c] (a b : Option (Ex × St)) (Q : Ex → St → Prop) : Wp (if c then a else b) Q = ((c → Wp a Q) ∧ (¬ c → Wp b Q)) := by
  by_cases h : c <;> simp [h]
theorem Wc_some (v : AV) (m : Mem) (Q : AV → Mem → Prop) : Wc (some (v, m)) Q = Q v m := by
  apply propext
  constructor
  · rintro ⟨_, _, h1, h2⟩; cases h1; exact h2
  · exact fun h => ⟨_, _, rfl, h⟩
theorem Wc_none (Q : AV → Mem → Prop) : Wc none Q = False := by
  apply propext
  constructor
  · rintro ⟨_, _, h1, _⟩; cases h1
  · exact False.elim
theorem Wc_ite (c : Prop) [Decidable c] (a b : Option (AV × Mem)) (Q : AV → Mem → Prop) : Wc (if c then a else b) Q = ((c → Wc a Q) ∧ (¬ c → Wc b Q)) := by
  by_cases h : c <;> simp [h]

def seqQ (f : St → Option (Ex × St)) (Q : Ex → St → Prop) : Ex → St → Prop
  | .normal, st => Wp (f st) Q
  | ex, st => Q ex st
theorem seqQ_normal (f : St → Option (Ex × St)) (Q : Ex → St → Prop) (st : St) : seqQ f Q .normal st = Wp (f st) Q := Eq.trans rfl rfl
theorem seqQ_exit (f : St → Option (Ex × St)) (Q : Ex → St → Prop) (k : Nat) (st : St) : seqQ f Q (.exit k) st = Q (.exit k) st := Eq.trans rfl rfl
theorem seqQ_ret (f : St → Option (Ex × St)) (Q : Ex → St → Prop) (st : St) : seqQ f Q .ret st = Q .ret st := Eq.trans rfl rfl
theorem Wp_thenRun (r : Option (Ex × St)) (f : St → Option (Ex × St)) (Q : Ex → St → Prop) : Wp (thenRun r f) Q = Wp r (seqQ f Q) := by
  cases r with
  | none => simp only [thenRun_none, Wp_none]
  | some p =>
    obtain ⟨ex, st⟩ := p
    cases ex <;> simp only [thenRun_normal, thenRun_ret, thenRun_exit, Wp_some, seqQ]

def blkQ (id : Nat) (Q : Ex → St → Prop) : Ex → St → Prop
  | .exit k, st => if k = id then Q .normal st else Q (.exit k) st
  | ex, st => Q ex st
theorem blkQ_normal (id : Nat) (Q : Ex → St → Prop) (st : St) : blkQ id Q .normal st = Q .normal st := Eq.trans rfl rfl
theorem blkQ_ret (id : Nat) (Q : Ex → St → Prop) (st : St) : blkQ id Q .ret st = Q .ret st := Eq.trans rfl rfl
theorem blkQ_same (id : Nat) (Q : Ex → St → Prop) (st : St) : blkQ id Q (.exit id) st = Q .normal st := by simp [blkQ]
theorem blkQ_exit (id k : Nat) (Q : Ex → St → Prop) (st : St) : blkQ id Q (.exit k) st = if k = id then Q .normal st else Q (.exit k) st := Eq.trans rfl rfl
theorem Wp_inBlock (id : Nat) (r : Option (Ex × St)) (Q : Ex → St → Prop) : Wp (inBlock id r) Q = Wp r (blkQ id Q) := by
  cases r with
  | none => simp only [inBlock_none, Wp_none]
  | some p =>
    obtain ⟨ex, st⟩ := p
    cases ex with
    | normal => simp only [inBlock_normal, Wp_some, blkQ]
    | ret => simp only [inBlock_ret, Wp_some, blkQ]
    | exit k => by_cases h : k = id <;> simp only [inBlock_exit, h, if_true, if_false, Wp_some, blkQ]

/-- behind a region's operation -/
def opQ (tm : List AV) (outs : List (Nat × Nat)) (f : AV → Mem → Option (List AV × Mem)) (Q : Ex → St → Prop) : AV → Mem → Prop := fun v m => Wp (outRun tm outs (f v m)) Q
theorem opQ_at (tm : List AV) (outs : List (Nat × Nat)) (f : AV → Mem → Option (List AV × Mem)) (Q : Ex → St → Prop) (v : AV) (m : Mem) : opQ tm outs f Q v m = Wp (outRun tm outs (f v m)) Q := Eq.trans rfl rfl
theorem Wp_opThen (tm : List AV) (outs : List (Nat × Nat)) (r : Option (AV × Mem)) (f : AV → Mem → Option (List AV × Mem)) (Q : Ex → St → Prop) :
    Wp (outRun tm outs (opThen r f)) Q = Wc r (opQ tm outs f Q) := by
  cases r with
  | none => simp only [opThen_none, outRun_none, Wp_none, Wc_none]
  | some p =>
    obtain ⟨v, m⟩ := p
    simp only [opThen_some, Wc_some, opQ]

/-- behind a guarded operation -/
theorem Wp_guardP (tm : List AV) (outs : List (Nat × Nat)) (p : Prop) [Decidable p] (r : Option (AV × Mem)) (m : Mem) (f : AV → Mem → Option (List AV × Mem)) (Q : Ex → St → Prop) :
    Wp (outRun tm outs (guardP p r m f)) Q = ((p → Wc r (opQ tm outs f Q)) ∧ (¬ p → Wp (outRun tm outs (f (.tup []) m)) Q)) := by
  by_cases h : p
  · simp only [h, guardP_true, Wp_opThen, true_imp_iff, not_true_eq_false, false_imp_iff, and_true]
  · simp only [h, guardP_false, not_false_eq_true, true_imp_iff, false_imp_iff, true_and]

/-- behind a call's code -/
def retQ (F : AFun) (m : Mem) (Q : AV → Mem → Prop) : Ex → St → Prop
  | .exit _, _ => False
  | _, st => Wc (finRun F m st) Q
theorem retQ_normal (F : AFun) (m : Mem) (Q : AV → Mem → Prop) (st : St) : retQ F m Q .normal st = Wc (finRun F m st) Q := Eq.trans rfl rfl
theorem retQ_ret (F : AFun) (m : Mem) (Q : AV → Mem → Prop) (st : St) : retQ F m Q .ret st = Wc (finRun F m st) Q := Eq.trans rfl rfl
theorem Wc_endCall (F : AFun) (m : Mem) (r : Option (Ex × St)) (Q : AV → Mem → Prop) : Wc (endCall F m r) Q = Wp r (retQ F m Q) := by
  cases r with
  | none => simp only [endCall_none, Wc_none, Wp_none]
  | some p =>
    obtain ⟨ex, st⟩ := p
    cases ex <;> simp only [endCall_normal, endCall_ret, endCall_exit, Wc_none, Wp_some, retQ]

theorem call_wc {f : FuncId} {F : AFun} (h : T f = some F) (args : List AV) (m : Mem) (Q : AV → Mem → Prop) : Wc (call T pr f args m) Q = Wp (run T pr F.code ⟨entry F args, { m with esc := none }⟩) (retQ F m Q) := by
  rw [call_eq h, Wc_endCall]

/-! loops -/
/-- what a loop's round must bring -/
abbrev Holds (I : St → Prop) (st : St) : Prop := I st
@[congr] theorem Holds_congr {I : St → Prop} {st st' : St} (h : st = st') : Holds I st = Holds I st' := by rw [h]
def loopQ (I : St → Prop) (Q : Ex → St → Prop) : Ex → St → Prop
  | .normal, st => Holds I st
  | ex, st => Q ex st
theorem loopQ_normal (I : St → Prop) (Q : Ex → St → Prop) (st : St) : loopQ I Q .normal st = Holds I st := Eq.trans rfl rfl
theorem loopQ_exit (I : St → Prop) (Q : Ex → St → Prop) (k : Nat) (st : St) : loopQ I Q (.exit k) st = Q (.exit k) st := Eq.trans rfl rfl
theorem loopQ_ret (I : St → Prop) (Q : Ex → St → Prop) (st : St) : loopQ I Q .ret st = Q .ret st := Eq.trans rfl rfl

theorem Wp_loop {b : ACode} {Q : Ex → St → Prop} (I : Nat → St → Prop) (hs : ∀ k st, I k st → Wp (run T pr b st) (loopQ (fun st' => ∃ j, j < k ∧ I j st') Q)) :
    ∀ (n : Nat) (st : St), I n st → Wp (run T pr (.loop b) st) Q := by
  intro n
  induction n using Nat.strongRecOn with
  | _ n ih =>
    intro st h
    rw [run_loop, Wp_thenRun]
    refine (hs n st h).mono fun ex st' h' => ?_
    cases ex with
    | normal =>
      obtain ⟨j, hj, hI⟩ := h'
      exact ih j hj st' hI
    | exit k => exact h'
    | ret => exact h'

/-! the end of a call that keeps what its result names -/
theorem roots_slice_new (sz n o k : Nat) (c : Option Nat) : AV.roots H.length (.slice (some (H.length + k, o)) sz n c) = [H.length + k] := by simp [AV.roots]
theorem roots_slice_new0 (sz n o : Nat) (c : Option Nat) : AV.roots H.length (.slice (some (H.length, o)) sz n c) = [H.length] := by simp [AV.roots]
theorem roots_slice_none (lim sz n : Nat) (c : Option Nat) : AV.roots lim (.slice none sz n c) = [] := by simp [AV.roots]
theorem roots_slice_old {lim b : Nat} (sz n o : Nat) (c : Option Nat) (h : b < lim) : AV.roots lim (.slice (some (b, o)) sz n c) = [] := by simp [AV.roots, h]
theorem roots_ptr_new (o k : Nat) : AV.roots H.length (.ptr (some (H.length + k, o))) = [H.length + k] := by simp [AV.roots]
theorem roots_ptr_new0 (o : Nat) : AV.roots H.length (.ptr (some (H.length, o))) = [H.length] := by simp [AV.roots]
theorem roots_int (lim : Nat) (k : IntKind) (x : Int) : AV.roots lim (.int k x) = [] := by simp [AV.roots]
theorem roots_bool (lim : Nat) (x : Bool) : AV.roots lim (.bool x) = [] := by simp [AV.roots]
theorem roots_str (lim : Nat) (x : ByteArray) : AV.roots lim (.str x) = [] := by simp [AV.roots]
theorem roots_agg (lim : Nat) (cs : List AV) : AV.roots lim (.agg cs) = AV.roots.go lim cs := by simp [AV.roots]
theorem roots_tup (lim : Nat) (cs : List AV) : AV.roots lim (.tup cs) = AV.roots.go lim cs := by simp [AV.roots]
theorem roots_cons (lim : Nat) (c : AV) (cs : List AV) : AV.roots.go lim (c :: cs) = AV.roots lim c ++ AV.roots.go lim cs := by simp [AV.roots.go]
theorem roots_nil (lim : Nat) : AV.roots.go lim [] = [] := by simp [AV.roots.go]
theorem rename_slice (f : Nat → Nat) (b o sz n : Nat) (c : Option Nat) : AV.rename f (.slice (some (b, o)) sz n c) = .slice (some (f b, o)) sz n c := by simp [AV.rename]
theorem rename_slice_none (f : Nat → Nat) (sz n : Nat) (c : Option Nat) : AV.rename f (.slice none sz n c) = .slice none sz n c := by simp [AV.rename]
theorem rename_ptr (f : Nat → Nat) (b o : Nat) : AV.rename f (.ptr (some (b, o))) = .ptr (some (f b, o)) := by simp [AV.rename]
theorem rename_int (f : Nat → Nat) (k : IntKind) (x : Int) : AV.rename f (.int k x) = .int k x := by simp [AV.rename]
theorem rename_bool (f : Nat → Nat) (x : Bool) : AV.rename f (.bool x) = .bool x := by simp [AV.rename]
theorem rename_str (f : Nat → Nat) (x : ByteArray) : AV.rename f (.str x) = .str x := by simp [AV.rename]
theorem rename_agg (f : Nat → Nat) (cs : List AV) : AV.rename f (.agg cs) = .agg (AV.rename.go f cs) := by simp [AV.rename]
theorem rename_tup (f : Nat → Nat) (cs : List AV) : AV.rename f (.tup cs) = .tup (AV.rename.go f cs) := by simp [AV.rename]
theorem rename_cons (f : Nat → Nat) (c : AV) (cs : List AV) : AV.rename.go f (c :: cs) = AV.rename f c :: AV.rename.go f cs := by simp [AV.rename.go]
theorem rename_nil (f : Nat → Nat) : AV.rename.go f [] = [] := by simp [AV.rename.go]

def keepBlks (L : List Blk) (rs : List Nat) : List Blk := rs.map fun b => (L[b]?).getD .dead
theorem keepBlks_nil (L : List Blk) : keepBlks L [] = [] := Eq.trans rfl rfl
theorem keepBlks_cons (L : List Blk) (b : Nat) (rs : List Nat) : keepBlks L (b :: rs) = (L[b]?).getD .dead :: keepBlks L rs := Eq.trans rfl rfl
def flatAll (lim : Nat) (L : List Blk) (rs : List Nat) : Bool := rs.all fun b => flatBlk lim L[b]?
theorem flatAll_nil (lim : Nat) (L : List Blk) : flatAll lim L [] = true := Eq.trans rfl rfl
theorem flatAll_cons (lim : Nat) (L : List Blk) (b : Nat) (rs : List Nat) : flatAll lim L (b :: rs) = (flatBlk lim L[b]? && flatAll lim L rs) := Eq.trans rfl rfl
theorem flatBlk_cells (lim : Nat) (cs : List AV) (w : Bool) : flatBlk lim (some (.cells cs w)) = cs.all fun c => c.under lim := Eq.trans rfl rfl
theorem finish_two_eq (G : List Blk) (e0 e1 : Option Nat) (v : AV) : finish 2 H.length e0 v ⟨H ++ G, e1⟩ =
    if clean H.length e1 = true ∧ flatAll H.length (H ++ G) (dedup (v.roots H.length)) = true then some (v.rename (renum H.length (dedup (v.roots H.length))), ⟨H ++ keepBlks (H ++ G) (dedup (v.roots H.length)), e0⟩) else none := by
  unfold finish keepBlks flatAll
  simp
theorem finish_two_eq0 (e0 e1 : Option Nat) (v : AV) : finish 2 H.length e0 v ⟨H, e1⟩ =
    if clean H.length e1 = true ∧ flatAll H.length H (dedup (v.roots H.length)) = true then some (v.rename (renum H.length (dedup (v.roots H.length))), ⟨H ++ keepBlks H (dedup (v.roots H.length)), e0⟩) else none := by
  unfold finish keepBlks flatAll
  simp
theorem finish_one_eq (G : List Blk) (e0 e1 : Option Nat) (v : AV) : finish 1 H.length e0 v ⟨H ++ G, e1⟩ = if v.under H.length = true ∧ clean H.length e1 = true then some (v, ⟨H, e0⟩) else none := by
  unfold finish
  simp
theorem finish_one_eq0 (e0 e1 : Option Nat) (v : AV) : finish 1 H.length e0 v ⟨H, e1⟩ = if v.under H.length = true ∧ clean H.length e1 = true then some (v, ⟨H, e0⟩) else none := by
  unfold finish
  simp
theorem dedup_nil : dedup [] = [] := Eq.trans rfl rfl
theorem dedup_one (b : Nat) : dedup [b] = [b] := Eq.trans rfl rfl
theorem dedup_two (a b : Nat) : dedup [a, b] = if a = b then [a] else [a, b] := by
  by_cases h : a = b
  · simp [dedup, h]
  · have : ¬ b = a := fun h' => h h'.symm
    simp [dedup, h, this]
theorem renum_old {lim b : Nat} (rs : List Nat) (h : b < lim) : renum lim rs b = b := by simp [renum, h]
theorem renum_one (k : Nat) : renum H.length [H.length + k] (H.length + k) = H.length := by
  have h1 : ¬ H.length + k < H.length := by omega
  simp only [renum, h1, if_false, List.idxOf_cons_self, Nat.add_zero]
theorem renum_one0 : renum H.length [H.length] H.length = H.length := by simp [renum]
theorem renum_two0 {a b : Nat} (h : H.length ≤ a) : renum H.length [a, b] a = H.length := by
  have h1 : ¬ a < H.length := by omega
  simp [renum, h1]
theorem renum_two1 {a b : Nat} (h : H.length ≤ b) (hne : a ≠ b) : renum H.length [a, b] b = H.length + 1 := by
  have h1 : ¬ b < H.length := by omega
  have h2 : (a == b) = false := by simpa using hne
  simp [renum, h1, h2, List.idxOf_cons]

theorem finV_wc (F : AFun) (m : Mem) (st : St) (Q : AV → Mem → Prop) : Wc (finRun F m st) Q = Wc (finV F m (resultList st.tm st.m.H F.results) st.m) Q := Eq.trans rfl rfl

theorem get_more {α : Type} {L : List α} {j : Nat} {b : α} (h : L[j]? = some b) (X : List α) : (L ++ X)[j]? = some b := by
  rw [List.getElem?_append_left (List.getElem?_eq_some_iff.mp h).1]; exact h
theorem cellsAt_of {L : List Blk} {j : Nat} {cs : List AV} {w : Bool} (h : L[j]? = some (.cells cs w)) : cellsAt L j = some cs := by
  unfold cellsAt; rw [h]

theorem clean_none' (n : Nat) : clean n none = true := Eq.trans rfl rfl
theorem clean_some (n k : Nat) : clean n (some k) = decide (n ≤ k) := Eq.trans rfl rfl
theorem clean_ite (c : Prop) [Decidable c] (n : Nat) (a b : Option Nat) : clean n (if c then a else b) = if c then clean n a else clean n b := by split <;> rfl
theorem minEsc_none (b : Nat) : minEsc none b = some b := Eq.trans rfl rfl
theorem minEsc_some (a b : Nat) : minEsc (some a) b = some (min a b) := Eq.trans rfl rfl
end

end Go.Proofs.Ytlcklonakjhoiaa.Slim

/- The drawing of arguments from bytes: the cursor. -/
namespace Go.Proofs.Ytlcklonakjhoiaa.Slim

open Go

set_option linter.unusedSimpArgs false

set_option linter.unusedVariables false

variable {pr : Prims} {H : List Blk} {e : Option Nat}

section

variable {C : FuncId → List AV → Mem → Option (AV × Mem)} {g : X → AV} {m : Mem}

def nilCheckV (v : AV) : Option AV := match v with
  | .ptr (some p) => some (.ptr (some p))
  | .fn f a b => some (.fn f a b)
  | _ => none

theorem aop_nilCheck (x : X) : aop C g m (.nilCheck x) = valOf m (nilCheckV (g x)) := by
  rw [aop_of_light rfl]
  simp only [light, nilCheckV]
  generalize g x = v
  cases v with
  | ptr p => cases p <;> rfl
  | _ => rfl

theorem nilCheckV_ptr (p : Nat × Nat) : nilCheckV (.ptr (some p)) = some (.ptr (some p)) := rfl

end

/-- a slice of bytes, in memory -/
def CodeAt (L : List Blk) (av : AV) : Prop :=
  ∃ zs : List Int, zs.length ≤ 70000 ∧ (∀ z ∈ zs, 0 ≤ z ∧ z ≤ 255) ∧ ((av = .slice none 0 0 none ∧ zs = []) ∨ ∃ b c, av = .slice (some (b, 0)) 1 zs.length c ∧ cellsAt L b = some (zs.map (AV.int .u8)))

theorem CodeAt.more {L : List Blk} {av : AV} (h : CodeAt L av) (G : List Blk) : CodeAt (L ++ G) av := by
  obtain ⟨zs, h1, h2, h3 | ⟨b, c, h3, h4⟩⟩ := h
  · exact ⟨zs, h1, h2, .inl h3⟩
  · exact ⟨zs, h1, h2, .inr ⟨b, c, h3, cells_mono h4 G⟩⟩

abbrev curB (av : AV) (p h : Int) : Blk := .cells [av, .int .i64 p, .int .u64 h] true

/-- a cursor -/
def Cu (L : List Blk) (q : Nat) (av : AV) (p : Int) : Prop := (∃ h, L[q]? = some (curB av p h)) ∧ CodeAt L av ∧ 0 ≤ p

theorem Cu.lt {L : List Blk} {q : Nat} {av : AV} {p : Int} (h : Cu L q av p) : q < L.length := by
  obtain ⟨⟨_, h⟩, _⟩ := h
  exact (List.getElem?_eq_some_iff.mp h).1

theorem Cu.more {L : List Blk} {q : Nat} {av : AV} {p : Int} (h : Cu L q av p) (G : List Blk) : Cu (L ++ G) q av p := by
  have hl := h.lt
  obtain ⟨⟨z, h1⟩, h2, h3⟩ := h
  exact ⟨⟨z, by rw [List.getElem?_append_left hl, h1]⟩, h2.more G, h3⟩

theorem Cu.step {L : List Blk} {q : Nat} {av : AV} {p : Int} (h : Cu L q av p) {y : Int} (hy : 0 ≤ y) (z : Int) : Cu (L.set q (curB av y z)) q av y := by
  have hl := h.lt
  obtain ⟨⟨w, h1⟩, ⟨zs, g1, g2, g3⟩, h3⟩ := h
  refine ⟨⟨z, List.getElem?_set_self hl⟩, ⟨zs, g1, g2, ?_⟩, hy⟩
  rcases g3 with g3 | ⟨b, c, e2, e3⟩
  · exact .inl g3
  refine .inr ⟨b, c, e2, ?_⟩
  have hbq : b ≠ q := by
    rintro rfl
    unfold cellsAt at e3
    rw [h1] at e3
    simp at e3
    match zs with
    | [] => simp at e3
    | [_] => simp at e3
    | _ :: _ :: _ => simp at e3
  unfold cellsAt at e3 ⊢
  rw [List.getElem?_set_ne (fun h => hbq h.symm)]
  exact e3

theorem set_app {L : List Blk} {q : Nat} (h : q < L.length) (x : Blk) (G : List Blk) : (L ++ G).set q x = L.set q x ++ G := List.set_append_left _ _ h

theorem finish_one_setG (v : AV) (e0 e1 : Option Nat) (b : Nat) (x : Blk) (G : List Blk) : finish 1 H.length e0 v ⟨H.set b x ++ G, e1⟩ = if v.under H.length = true ∧ clean H.length e1 = true then some (v, ⟨H.set b x, e0⟩) else none := by
  unfold finish
  have : (H.set b x ++ G).take H.length = H.set b x := by
    rw [List.take_append_of_le_length (by simp), List.take_of_length_le (by simp)]
  simp [this]

theorem finish_one_set0 (v : AV) (e0 e1 : Option Nat) (b : Nat) (x : Blk) : finish 1 H.length e0 v ⟨H.set b x, e1⟩ = if v.under H.length = true ∧ clean H.length e1 = true then some (v, ⟨H.set b x, e0⟩) else none := by
  have := finish_one_setG (H := H) v e0 e1 b x []
  rwa [List.append_nil] at this

theorem cellsAt_s0 (q : Nat) (x : Blk) (l : List Blk) : cellsAt (H.set q x ++ l) H.length = cellsAt l 0 := by simp [cellsAt, List.getElem?_append_right]

theorem cellsAt_sk (q : Nat) (x : Blk) (l : List Blk) (k : Nat) : cellsAt (H.set q x ++ l) (H.length + k) = cellsAt l k := by simp [cellsAt, List.getElem?_append_right]

theorem blkAt_s0 (q : Nat) (x : Blk) (l : List Blk) : (H.set q x ++ l)[H.length]? = l[0]? := by simp [List.getElem?_append_right]

theorem blkAt_sk (q : Nat) (x : Blk) (l : List Blk) (k : Nat) : (H.set q x ++ l)[H.length + k]? = l[k]? := by simp [List.getElem?_append_right]

theorem set_s0 (q : Nat) (x : Blk) (l : List Blk) (b : Blk) : (H.set q x ++ l).set H.length b = H.set q x ++ l.set 0 b := by simp [List.set_append_right]

theorem set_sk (q : Nat) (x : Blk) (l : List Blk) (b : Blk) (k : Nat) : (H.set q x ++ l).set (H.length + k) b = H.set q x ++ l.set k b := by simp [List.set_append_right]

theorem set_sapp {q : Nat} (h : q < H.length) (x y : Blk) (l : List Blk) : (H.set q x ++ l).set q y = H.set q y ++ l := by
  rw [List.set_append_left _ _ (by simpa using h), List.set_set]

theorem Cu.new {G : List Blk} {k : Nat} {av : AV} {y z : Int} (hG : G[k]? = some (curB av y z)) (hc : CodeAt H av) (hy : 0 ≤ y) : Cu (H ++ G) (H.length + k) av y :=
  ⟨⟨z, by rw [List.getElem?_append_right (by omega), Nat.add_sub_cancel_left, hG]⟩, hc.more G, hy⟩

theorem Cu.cells {L : List Blk} {q : Nat} {av : AV} {p : Int} (h : Cu L q av p) : ∃ w, L[q]? = some (curB av p w) ∧ cellsAt L q = some [av, .int .i64 p, .int .u64 w] := by
  obtain ⟨⟨w, h1⟩, _⟩ := h
  exact ⟨w, h1, by unfold cellsAt; rw [h1]⟩

theorem cells_set {L : List Blk} {q : Nat} (h : q < L.length) (cs : List AV) (wr : Bool) : cellsAt (L.set q (.cells cs wr)) q = some cs := by
  unfold cellsAt
  rw [List.getElem?_set_self h]

theorem andI_255 (x : Int) : 0 ≤ andI .u64 x 255 ∧ andI .u64 x 255 ≤ 255 := by
  have h1 : (BitVec.ofInt 64 x &&& BitVec.ofInt 64 255).toNat ≤ 255 := by
    rw [BitVec.toNat_and]
    exact Nat.le_trans Nat.and_le_right (by decide)
  have h2 : andI .u64 x 255 = IntKind.u64.wrap ((BitVec.ofInt 64 x &&& BitVec.ofInt 64 255).toNat : Int) := rfl
  rw [h2]
  generalize (BitVec.ofInt 64 x &&& BitVec.ofInt 64 255).toNat = n at *
  have : IntKind.u64.wrap (n : Int) = n := by
    simp [IntKind.wrap, IntKind.bits, IntKind.signed]
    omega
  rw [this]
  omega

theorem wc_next {q : Nat} {av : AV} {p : Int} (h : Cu H q av p) (hp : p ≤ 1000000000000) : Wc (call T pr f_s_l1Cur_next [.ptr (some (q, 0))] ⟨H, e⟩) (fun v m => ∃ x y z : Int, v = .int .i64 x ∧ 0 ≤ x ∧ x ≤ 255 ∧ 0 ≤ y ∧ y ≤ p + 1 ∧ m = ⟨H.set q (curB av y z), e⟩) := by
  have hl := h.lt
  obtain ⟨w, h1, hcell⟩ := h.cells
  obtain ⟨_, ⟨zs, g2, g3, g4⟩, h3⟩ := h
  obtain ⟨p', sz, c, rfl⟩ : ∃ p' sz c, av = .slice p' sz zs.length c := by
    rcases g4 with ⟨rfl, rfl⟩ | ⟨b, c, rfl, _⟩
    · exact ⟨_, _, _, rfl⟩
    · exact ⟨_, _, _, rfl⟩
  obtain ⟨n, rfl⟩ : ∃ n : Nat, p = (n : Int) := ⟨p.toNat, by omega⟩
  have hw := wrap_succ (show n < 9223372036854775807 by omega)
  have hsg : ∀ (y : Blk), (H.set q y)[q]? = some y := fun y => List.getElem?_set_self hl
  have hcs := fun cs wr => cells_set (L := H) hl cs wr
  rw [call_wc t_s_l1Cur_next]
  by_cases hn : n < zs.length
  · have hne : zs ≠ [] := by intro h0; rw [h0] at hn; simp at hn
    obtain ⟨b, hq, hb⟩ : ∃ b, (p' = some (b, 0) ∧ sz = 1) ∧ cellsAt H b = some (zs.map (AV.int .u8)) := by
      rcases g4 with ⟨_, rfl⟩ | ⟨b, c', hq, hb⟩
      · exact absurd rfl hne
      · cases hq; exact ⟨b, ⟨rfl, rfl⟩, hb⟩
    obtain ⟨rfl, rfl⟩ := hq
    have hz := g3 zs[n] (List.getElem_mem _)
    have hpart : part false (zs.map (AV.int .u8)) n 1 = some (.int .u8 zs[n]) := by
      rw [part_false, List.getElem?_map, List.getElem?_eq_getElem hn]
      rfl
    have hcv : IntKind.i64.wrap zs[n] = zs[n] := wrap64 (by omega) (by omega)
    have hle : decide (((n + 1 : Nat) : Int) ≤ (zs.length : Int)) = true := decide_eq_true (by omega)
    have hle' : n + 1 ≤ zs.length := hn
    simp +contextual only [a_s_l1Cur_next, c_s_l1Cur_next, aop_nilCheck, nilCheckV_ptr, h1, hcell, hsg, hcs, hn, hb, hpart, hcv, hw, hle, hle', List.set_set, Nat.mul_one, decide_true, finish_one_set0, clean_none', Wp_some, Wp_none, Wp_ite, Wc_some, Wc_none, Wc_ite, Wp_thenRun, seqQ_normal, seqQ_exit, seqQ_ret, Wp_inBlock, blkQ_normal, blkQ_ret, blkQ_same, blkQ_exit, Wp_opThen, opQ_at, Wp_guardP, retQ_normal, retQ_ret, loopQ_normal, loopQ_exit, loopQ_ret, go_sem, entry, joinEsc, if_pos, reduceIte, Nat.reduceAdd, Nat.reduceLeDiff, Nat.reduceLT, Nat.reduceEqDiff]
    exact ⟨_, _, _, rfl, hz.1, hz.2, by omega, by omega, rfl⟩
  · have hle : decide (((n + 1 : Nat) : Int) ≤ (zs.length : Int)) = false := decide_eq_false (by omega)
    have hle' : ¬ n + 1 ≤ zs.length := by omega
    have hcv : ∀ x : Int, IntKind.i64.wrap (andI .u64 x 255) = andI .u64 x 255 := fun x => wrap64 (by have := andI_255 x; omega) (by have := andI_255 x; omega)
    simp +contextual only [a_s_l1Cur_next, c_s_l1Cur_next, aop_nilCheck, nilCheckV_ptr, h1, hcell, hsg, hcs, hn, hcv, hw, hle, hle', show ¬ ((40 : Int) < 0) by omega, List.set_set, Nat.mul_one, decide_true, decide_false, finish_one_set0, clean_none', Wp_some, Wp_none, Wp_ite, Wc_some, Wc_none, Wc_ite, Wp_thenRun, seqQ_normal, seqQ_exit, seqQ_ret, Wp_inBlock, blkQ_normal, blkQ_ret, blkQ_same, blkQ_exit, Wp_opThen, opQ_at, Wp_guardP, retQ_normal, retQ_ret, loopQ_normal, loopQ_exit, loopQ_ret, go_sem, entry, joinEsc, if_pos, reduceIte, Nat.reduceAdd, Nat.reduceLeDiff, Nat.reduceLT, Nat.reduceEqDiff]
    exact ⟨_, _, _, rfl, (andI_255 _).1, (andI_255 _).2, by omega, by omega, rfl⟩

theorem wc_pick {q : Nat} {av : AV} {p : Int} (n : Int) (h : Cu H q av p) (hp : p ≤ 100000000000) (hn : n ≤ 1000000000000) : Wc (call T pr f_s_l1Cur_pick [.ptr (some (q, 0)), .int .i64 n] ⟨H, e⟩) (fun v m => ∃ x y z : Int, v = .int .i64 x ∧ 0 ≤ x ∧ (x < n ∨ x = 0) ∧ 0 ≤ y ∧ y ≤ p + 2 ∧ m = ⟨H.set q (curB av y z), e⟩) := by
  have hl := h.lt
  rw [call_wc t_s_l1Cur_pick]
  by_cases h1 : n ≤ 1
  · obtain ⟨w, hw, _⟩ := h.cells
    have hsame : H = H.set q (curB av p w) := by
      obtain ⟨hb, he⟩ := List.getElem?_eq_some_iff.mp hw
      rw [← he, List.set_getElem_self]
    have h1' : decide (n ≤ 1) = true := decide_eq_true h1
    simp +contextual only [a_s_l1Cur_pick, c_s_l1Cur_pick, h1, h1', decide_true, Wp_some, Wp_none, Wp_ite, Wc_some, Wc_none, Wc_ite, Wp_thenRun, seqQ_normal, seqQ_exit, seqQ_ret, Wp_inBlock, blkQ_normal, blkQ_ret, blkQ_same, blkQ_exit, Wp_opThen, opQ_at, Wp_guardP, retQ_normal, retQ_ret, loopQ_normal, loopQ_exit, loopQ_ret, finish_one_eq, finish_one_eq0, finish_two_eq, finish_two_eq0, roots_slice_new, roots_slice_new0, roots_slice_none, roots_ptr_new, roots_ptr_new0, roots_int, roots_bool, roots_str, roots_agg, roots_tup, roots_cons, roots_nil, rename_slice, rename_slice_none, rename_ptr, rename_int, rename_bool, rename_str, rename_agg, rename_tup, rename_cons, rename_nil, keepBlks_nil, keepBlks_cons, flatAll_nil, flatAll_cons, flatBlk_cells, dedup_nil, dedup_one, dedup_two, renum_one, renum_one0, renum_two0, renum_two1, clean_none', clean_some, minEsc_none, minEsc_some, Nat.add_left_cancel_iff, Nat.le_add_right, Nat.le_refl, decide_true, go_sem, entry, joinEsc, if_pos, reduceIte, Nat.reduceAdd, Nat.reduceLeDiff, Nat.reduceLT, Nat.reduceEqDiff]
    exact ⟨0, p, w, rfl, Int.le_refl _, .inr rfl, h.2.2, by omega, by rw [← hsame]⟩
  · have h1' : decide (n ≤ 1) = false := decide_eq_false h1
    simp +contextual only [a_s_l1Cur_pick, c_s_l1Cur_pick, h1, h1', decide_false, Wp_some, Wp_none, Wp_ite, Wc_some, Wc_none, Wc_ite, Wp_thenRun, seqQ_normal, seqQ_exit, seqQ_ret, Wp_inBlock, blkQ_normal, blkQ_ret, blkQ_same, blkQ_exit, Wp_opThen, opQ_at, Wp_guardP, retQ_normal, retQ_ret, loopQ_normal, loopQ_exit, loopQ_ret, go_sem, entry, joinEsc, if_pos, reduceIte, Nat.reduceAdd, Nat.reduceLeDiff, Nat.reduceLT, Nat.reduceEqDiff]
    refine (wc_next h (by omega)).mono ?_
    rintro v m ⟨x, y, z, rfl, hx0, hx1, hy0, hy1, rfl⟩
    have h' := h.step hy0 z
    have hmod : ∀ u : Int, 0 ≤ u → 0 ≤ u.tmod n ∧ u.tmod n < n := fun u hu => ⟨Int.tmod_nonneg _ hu, Int.tmod_lt_of_pos _ (by omega)⟩
    have hnz : ¬ n = 0 := by omega
    by_cases h2 : 200 < n
    · have h2' : decide (200 < n) = true := decide_eq_true h2
      have hm1 : IntKind.i64.wrap (x * 256) = x * 256 := wrap64 (by omega) (by omega)
      simp +contextual only [gt_iff_lt, h2, h2', hm1, decide_true, Wp_some, Wp_none, Wp_ite, Wc_some, Wc_none, Wc_ite, Wp_thenRun, seqQ_normal, seqQ_exit, seqQ_ret, Wp_inBlock, blkQ_normal, blkQ_ret, blkQ_same, blkQ_exit, Wp_opThen, opQ_at, Wp_guardP, retQ_normal, retQ_ret, loopQ_normal, loopQ_exit, loopQ_ret, go_sem, entry, joinEsc, if_pos, reduceIte, Nat.reduceAdd, Nat.reduceLeDiff, Nat.reduceLT, Nat.reduceEqDiff]
      refine (wc_next h' (by omega)).mono ?_
      rintro v m ⟨x2, y2, z2, rfl, hx20, hx21, hy20, hy21, rfl⟩
      have hm2 : IntKind.i64.wrap (x * 256 + x2) = x * 256 + x2 := wrap64 (by omega) (by omega)
      have hm := hmod (x * 256 + x2) (by omega)
      simp +contextual only [a_s_l1Cur_pick, hm2, hnz, List.set_set, finish_one_set0, clean_none', Wp_some, Wp_none, Wp_ite, Wc_some, Wc_none, Wc_ite, Wp_thenRun, seqQ_normal, seqQ_exit, seqQ_ret, Wp_inBlock, blkQ_normal, blkQ_ret, blkQ_same, blkQ_exit, Wp_opThen, opQ_at, Wp_guardP, retQ_normal, retQ_ret, loopQ_normal, loopQ_exit, loopQ_ret, finish_one_eq, finish_one_eq0, finish_two_eq, finish_two_eq0, roots_slice_new, roots_slice_new0, roots_slice_none, roots_ptr_new, roots_ptr_new0, roots_int, roots_bool, roots_str, roots_agg, roots_tup, roots_cons, roots_nil, rename_slice, rename_slice_none, rename_ptr, rename_int, rename_bool, rename_str, rename_agg, rename_tup, rename_cons, rename_nil, keepBlks_nil, keepBlks_cons, flatAll_nil, flatAll_cons, flatBlk_cells, dedup_nil, dedup_one, dedup_two, renum_one, renum_one0, renum_two0, renum_two1, clean_none', clean_some, minEsc_none, minEsc_some, Nat.add_left_cancel_iff, Nat.le_add_right, Nat.le_refl, decide_true, go_sem, entry, joinEsc, if_pos, reduceIte, Nat.reduceAdd, Nat.reduceLeDiff, Nat.reduceLT, Nat.reduceEqDiff]
      exact ⟨_, _, _, rfl, hm.1, .inl hm.2, hy20, by omega, rfl⟩
    · have h2' : decide (200 < n) = false := decide_eq_false h2
      have hm := hmod x hx0
      simp +contextual only [a_s_l1Cur_pick, gt_iff_lt, h2, h2', hnz, List.set_set, finish_one_set0, clean_none', decide_false, Wp_some, Wp_none, Wp_ite, Wc_some, Wc_none, Wc_ite, Wp_thenRun, seqQ_normal, seqQ_exit, seqQ_ret, Wp_inBlock, blkQ_normal, blkQ_ret, blkQ_same, blkQ_exit, Wp_opThen, opQ_at, Wp_guardP, retQ_normal, retQ_ret, loopQ_normal, loopQ_exit, loopQ_ret, finish_one_eq, finish_one_eq0, finish_two_eq, finish_two_eq0, roots_slice_new, roots_slice_new0, roots_slice_none, roots_ptr_new, roots_ptr_new0, roots_int, roots_bool, roots_str, roots_agg, roots_tup, roots_cons, roots_nil, rename_slice, rename_slice_none, rename_ptr, rename_int, rename_bool, rename_str, rename_agg, rename_tup, rename_cons, rename_nil, keepBlks_nil, keepBlks_cons, flatAll_nil, flatAll_cons, flatBlk_cells, dedup_nil, dedup_one, dedup_two, renum_one, renum_one0, renum_two0, renum_two1, clean_none', clean_some, minEsc_none, minEsc_some, Nat.add_left_cancel_iff, Nat.le_add_right, Nat.le_refl, decide_true, go_sem, entry, joinEsc, if_pos, reduceIte, Nat.reduceAdd, Nat.reduceLeDiff, Nat.reduceLT, Nat.reduceEqDiff]
      exact ⟨_, _, _, rfl, hm.1, .inl hm.2, hy0, by omega, rfl⟩

theorem wc_one {q : Nat} {av : AV} {p : Int} (n : Int) (h : Cu H q av p) (hp : p ≤ 100000000000) (hn : n ≤ 1000000000000) : Wc (call T pr f_s_l1Cur_one [.ptr (some (q, 0)), .int .i64 n] ⟨H, e⟩) (fun v m => ∃ (x : Bool) (y z : Int), v = .bool x ∧ 0 ≤ y ∧ y ≤ p + 2 ∧ m = ⟨H.set q (curB av y z), e⟩) := by
  rw [call_wc t_s_l1Cur_one]
  simp +contextual only [a_s_l1Cur_one, c_s_l1Cur_one, Wp_some, Wp_none, Wp_ite, Wc_some, Wc_none, Wc_ite, Wp_thenRun, seqQ_normal, seqQ_exit, seqQ_ret, Wp_inBlock, blkQ_normal, blkQ_ret, blkQ_same, blkQ_exit, Wp_opThen, opQ_at, Wp_guardP, retQ_normal, retQ_ret, loopQ_normal, loopQ_exit, loopQ_ret, go_sem, entry, joinEsc, if_pos, reduceIte, Nat.reduceAdd, Nat.reduceLeDiff, Nat.reduceLT, Nat.reduceEqDiff]
  refine (wc_pick n h hp hn).mono ?_
  rintro v m ⟨x, y, z, rfl, hx0, hx1, hy0, hy1, rfl⟩
  simp +contextual only [a_s_l1Cur_one, List.set_set, finish_one_set0, clean_none', Wp_some, Wp_none, Wp_ite, Wc_some, Wc_none, Wc_ite, Wp_thenRun, seqQ_normal, seqQ_exit, seqQ_ret, Wp_inBlock, blkQ_normal, blkQ_ret, blkQ_same, blkQ_exit, Wp_opThen, opQ_at, Wp_guardP, retQ_normal, retQ_ret, loopQ_normal, loopQ_exit, loopQ_ret, finish_one_eq, finish_one_eq0, finish_two_eq, finish_two_eq0, roots_slice_new, roots_slice_new0, roots_slice_none, roots_ptr_new, roots_ptr_new0, roots_int, roots_bool, roots_str, roots_agg, roots_tup, roots_cons, roots_nil, rename_slice, rename_slice_none, rename_ptr, rename_int, rename_bool, rename_str, rename_agg, rename_tup, rename_cons, rename_nil, keepBlks_nil, keepBlks_cons, flatAll_nil, flatAll_cons, flatBlk_cells, dedup_nil, dedup_one, dedup_two, renum_one, renum_one0, renum_two0, renum_two1, clean_none', clean_some, minEsc_none, minEsc_some, Nat.add_left_cancel_iff, Nat.le_add_right, Nat.le_refl, decide_true, go_sem, entry, joinEsc, if_pos, reduceIte, Nat.reduceAdd, Nat.reduceLeDiff, Nat.reduceLT, Nat.reduceEqDiff]
  exact ⟨_, _, _, rfl, hy0, by omega, rfl⟩

theorem wc_among {q b : Nat} {av : AV} {p : Int} {c : Option Nat} {zs : List Int} (h : Cu H q av p) (hp : p ≤ 100000000000) (hb : cellsAt H b = some (zs.map (AV.int .i64))) (hbq : b ≠ q) (h0 : 0 < zs.length) (hn : zs.length ≤ 1000000) : Wc (call T pr f_s_l1Cur_among [.ptr (some (q, 0)), .slice (some (b, 0)) 1 zs.length c] ⟨H, e⟩) (fun v m => ∃ x y z : Int, v = .int .i64 x ∧ x ∈ zs ∧ 0 ≤ y ∧ y ≤ p + 2 ∧ m = ⟨H.set q (curB av y z), e⟩) := by
  rw [call_wc t_s_l1Cur_among]
  simp +contextual only [a_s_l1Cur_among, c_s_l1Cur_among, Wp_some, Wp_none, Wp_ite, Wc_some, Wc_none, Wc_ite, Wp_thenRun, seqQ_normal, seqQ_exit, seqQ_ret, Wp_inBlock, blkQ_normal, blkQ_ret, blkQ_same, blkQ_exit, Wp_opThen, opQ_at, Wp_guardP, retQ_normal, retQ_ret, loopQ_normal, loopQ_exit, loopQ_ret, go_sem, entry, joinEsc, if_pos, reduceIte, Nat.reduceAdd, Nat.reduceLeDiff, Nat.reduceLT, Nat.reduceEqDiff]
  refine (wc_pick (zs.length : Int) h hp (by omega)).mono ?_
  rintro v m ⟨x, y, z, rfl, hx0, hx1, hy0, hy1, rfl⟩
  obtain ⟨i, rfl⟩ : ∃ i : Nat, x = (i : Int) := ⟨x.toNat, by omega⟩
  have hi : i < zs.length := by omega
  have hcs : cellsAt (H.set q (curB av y z)) b = some (zs.map (AV.int .i64)) := by
    unfold cellsAt at hb ⊢
    rw [List.getElem?_set_ne (fun h => hbq h.symm)]
    exact hb
  have hpart : part false (zs.map (AV.int .i64)) i 1 = some (.int .i64 zs[i]) := by
    rw [part_false, List.getElem?_map, List.getElem?_eq_getElem hi]
    rfl
  simp +contextual only [a_s_l1Cur_among, hi, hcs, hpart, Nat.mul_one, List.set_set, finish_one_set0, clean_none', Wp_some, Wp_none, Wp_ite, Wc_some, Wc_none, Wc_ite, Wp_thenRun, seqQ_normal, seqQ_exit, seqQ_ret, Wp_inBlock, blkQ_normal, blkQ_ret, blkQ_same, blkQ_exit, Wp_opThen, opQ_at, Wp_guardP, retQ_normal, retQ_ret, loopQ_normal, loopQ_exit, loopQ_ret, finish_one_eq, finish_one_eq0, finish_two_eq, finish_two_eq0, roots_slice_new, roots_slice_new0, roots_slice_none, roots_ptr_new, roots_ptr_new0, roots_int, roots_bool, roots_str, roots_agg, roots_tup, roots_cons, roots_nil, rename_slice, rename_slice_none, rename_ptr, rename_int, rename_bool, rename_str, rename_agg, rename_tup, rename_cons, rename_nil, keepBlks_nil, keepBlks_cons, flatAll_nil, flatAll_cons, flatBlk_cells, dedup_nil, dedup_one, dedup_two, renum_one, renum_one0, renum_two0, renum_two1, clean_none', clean_some, minEsc_none, minEsc_some, Nat.add_left_cancel_iff, Nat.le_add_right, Nat.le_refl, decide_true, go_sem, entry, joinEsc, if_pos, reduceIte, Nat.reduceAdd, Nat.reduceLeDiff, Nat.reduceLT, Nat.reduceEqDiff]
  exact ⟨_, _, _, rfl, List.getElem_mem _, hy0, by omega, rfl⟩

end Go.Proofs.Ytlcklonakjhoiaa.Slim

/- The drawing of arguments from bytes: what is cut from the bytes. -/
namespace Go.Proofs.Ytlcklonakjhoiaa.Slim

open Go

set_option linter.unusedSimpArgs false

set_option linter.unusedVariables false

variable {pr : Prims} {H : List Blk} {e : Option Nat}

def seqHd : ACode → ACode
  | .seq a _ => a
  | c => c

def seqTl : ACode → ACode
  | .seq _ c => c
  | c => c

theorem seq_cut2 {c : ACode} (h : c = .seq (seqHd c) (.seq (seqHd (seqTl c)) (seqTl (seqTl c)))) : ∃ R, R = seqTl (seqTl c) ∧ c = .seq (seqHd c) (.seq (seqHd (seqTl c)) R) := ⟨_, rfl, h⟩

def slLoV (sz : Nat) (v l : AV) : Option AV := match v with
  | .slice p sz' n cap => (match natOf l with
    | some l => sliceVal sz p sz' n cap l n none
    | none => none)
  | _ => none

section

variable {C : FuncId → List AV → Mem → Option (AV × Mem)} {g : X → AV} {m : Mem}

theorem aop_slLo (sz : Nat) (x l : X) : aop C g m (.sliceSl sz x (some l) none none) = valOf m (slLoV sz (g x) (g l)) := by
  rw [aop_of_light rfl]
  simp only [light, slLoV, bound, optNat]
  generalize g x = v
  generalize natOf (g l) = o
  cases v <;> cases o <;> simp

end

theorem slLoV_c (sz b o n l : Nat) (cap : Option Nat) (hl : l ≤ n) : slLoV sz (.slice (some (b, o)) sz n cap) (.int .i64 l) = some (.slice (some (b, o + l * sz)) sz (n - l) (cap.map (· - l))) := by
  unfold slLoV natOf sliceVal
  simp [hl]

theorem src_part {L : List Blk} {q sz n o k : Nat} {cs : List AV} (c : Option Nat) (h : cellsAt L q = some cs) (hl : o * sz + k * sz ≤ cs.length) : srcCells false L (.slice (some (q, o * sz)) sz k c) = some (k, (cs.drop (o * sz)).take (k * sz)) := by
  unfold srcCells
  simp [h, hl]

theorem src_new (L : List Blk) (n sz : Nat) (cap : Option Nat) (cs : List AV) (b : Nat) (h : cellsAt L b = some cs) (hl : cs.length = n * sz) : srcCells false L (.slice (some (b, 0)) sz n cap) = some (n, cs) := by
  unfold srcCells
  simp [h, ← hl]

def codeLen : AV → Nat
  | .slice _ _ n _ => n
  | _ => 0

theorem CodeAt.form {L : List Blk} {av : AV} (h : CodeAt L av) : ∃ p sz n c, av = .slice p sz n c := by
  obtain ⟨zs, _, _, ⟨rfl, _⟩ | ⟨b, c, rfl, _⟩⟩ := h
  · exact ⟨_, _, _, _, rfl⟩
  · exact ⟨_, _, _, _, rfl⟩

/-- an argument that is a slice of bytes -/
def ArgB (L : List Blk) (av : AV) (zs : List Int) : Prop :=
  (∀ z ∈ zs, 0 ≤ z ∧ z ≤ 255) ∧ ((av = .slice none 0 0 none ∧ zs = []) ∨ ∃ b c, av = .slice (some (b, 0)) 1 zs.length c ∧ cellsAt L b = some (zs.map (AV.int .u8)))

theorem bytes_of : ∀ (es : List (List Int)), (∀ e ∈ es, e.length = 1 ∧ ∀ z ∈ e, (Lit.int .u8 z).wf = true) → es.flatten.length = es.length ∧ ∀ z ∈ es.flatten, 0 ≤ z ∧ z ≤ 255
  | [], _ => by simp
  | x :: es, h => by
    obtain ⟨h1, h2⟩ := bytes_of es fun e he => h e (by simp [he])
    obtain ⟨hx1, hx2⟩ := h x (by simp)
    match x, hx1 with
    | [a], _ =>
      refine ⟨by simp [h1], fun z hz => ?_⟩
      rw [List.flatten_cons] at hz
      rcases List.mem_append.mp hz with hz | hz
      · have := hx2 z hz
        simp [Lit.wf, IntKind.min, IntKind.max, IntKind.signed, IntKind.bits] at this
        omega
      · exact h2 z hz

theorem argB_of {av : AV} {es : List (List Int)} (h : IsArg H av .u8 1 es) : ∃ zs, ArgB H av zs := by
  obtain ⟨h1, h2⟩ := h
  obtain ⟨h6, h7⟩ := bytes_of es h1
  rcases h2 with ⟨rfl, rfl⟩ | ⟨b, cap, rfl, h3, h4, h5⟩
  · exact ⟨[], by simp, .inl ⟨rfl, rfl⟩⟩
  · refine ⟨es.flatten, h7, .inr ⟨b, some cap, by rw [h6], ?_⟩⟩
    unfold cellsAt
    rw [h5]

theorem ArgB.form {L : List Blk} {av : AV} {zs : List Int} (h : ArgB L av zs) : ∃ p sz n c, av = .slice p sz n c ∧ (n ≤ 65536 → CodeAt L av) := by
  obtain ⟨h1, ⟨rfl, rfl⟩ | ⟨b, c, rfl, h2⟩⟩ := h
  · exact ⟨_, _, _, _, rfl, fun _ => ⟨[], by simp, by simp, .inl ⟨rfl, rfl⟩⟩⟩
  · exact ⟨_, _, _, _, rfl, fun hn => ⟨zs, by omega, h1, .inr ⟨b, c, rfl, h2⟩⟩⟩

theorem append_none {L : List Blk} {b sz : Nat} {src : AV} (hb : L[b]? = some (.cells [] true)) (hs : srcCells false L src = some (0, [])) : appendV L e false 1 1 (.slice (some (b, 0)) 1 0 (some 0)) src = some (.slice (some (L.length, 0)) 1 0 none, ⟨L.set b .dead ++ [.cells [] true], e⟩) := by
  unfold appendV
  simp only [hb, hs]
  rw [if_pos ⟨trivial, by simp [maxBytes], by simp, by simp⟩, if_neg (by simp), if_pos trivial]
  rfl

theorem append_some {L : List Blk} {b n : Nat} {src : AV} {cs : List AV} (hb : L[b]? = some (.cells [] true)) (hs : srcCells false L src = some (n, cs)) (h0 : 0 < n) (hn : n ≤ 1000000) (hc : cs.length = n) : appendV L e false 1 1 (.slice (some (b, 0)) 1 0 (some 0)) src = some (.slice (some (L.length, 0)) 1 n none, ⟨L ++ [.cells cs true], e⟩) := by
  unfold appendV
  simp only [hb, hs]
  rw [if_pos ⟨trivial, by unfold maxBytes; omega, by omega, by simp⟩, if_pos ⟨trivial, h0⟩, Nat.zero_add]

theorem append_one {L : List Blk} {b q n : Nat} {cs new : List AV} {c : Option Nat} (hb : L[b]? = some (.cells cs true)) (hq : cellsAt L q = some new) (hcs : cs.length = n) (hnew : new.length = 1) (hn : n ≤ 1000000) :
    appendV L e false 1 1 (.slice (some (b, 0)) 1 n none) (.slice (some (q, 0)) 1 1 c) = some (.slice (some (L.length, 0)) 1 (n + 1) none, ⟨L.set b .dead ++ [.cells (cs ++ new) true], e⟩) := by
  have hs := src_new L 1 1 c new q hq (by omega)
  unfold appendV
  simp only [hb, hs]
  rw [if_pos ⟨trivial, by unfold maxBytes; omega, by omega, by omega⟩, if_neg (by simp), List.drop_zero, List.take_of_length_le (by omega), if_pos trivial]

theorem CodeAt.new {G : List Blk} {k : Nat} {zs : List Int} {c : Option Nat} (hG : G[k]? = some (.cells (zs.map (AV.int .u8)) true)) (h1 : zs.length ≤ 70000) (h2 : ∀ z ∈ zs, 0 ≤ z ∧ z ≤ 255) : CodeAt (H ++ G) (.slice (some (H.length + k, 0)) 1 zs.length c) := by
  refine ⟨zs, h1, h2, .inr ⟨_, _, rfl, ?_⟩⟩
  rw [cellsAt_newk]
  unfold cellsAt
  rw [hG]

def slHiV (sz : Nat) (v h : AV) : Option AV := match v with
  | .slice p sz' n cap => (match natOf h with
    | some h => sliceVal sz p sz' n cap 0 h none
    | none => none)
  | _ => none

section

variable {C : FuncId → List AV → Mem → Option (AV × Mem)} {g : X → AV} {m : Mem}

theorem aop_slHi (sz : Nat) (x h : X) : aop C g m (.sliceSl sz x none (some h) none) = valOf m (slHiV sz (g x) (g h)) := by
  rw [aop_of_light rfl]
  simp only [light, slHiV, bound, optNat]
  generalize g x = v
  generalize natOf (g h) = o
  cases v <;> cases o <;> simp

end

theorem slHiV_c (sz b n l : Nat) (cap : Option Nat) (hl : l ≤ n) : slHiV sz (.slice (some (b, 0)) sz n cap) (.int .i64 l) = some (.slice (some (b, 0)) sz l cap) := by
  unfold slHiV natOf sliceVal
  simp [hl]

end Go.Proofs.Ytlcklonakjhoiaa.Slim

/- The drawing of arguments from bytes: growing lists. -/
namespace Go.Proofs.Ytlcklonakjhoiaa.Slim

open Go

set_option linter.unusedSimpArgs false

set_option linter.unusedVariables false

variable {pr : Prims} {H : List Blk} {e : Option Nat}

/-- one of some numbers, drawn -/
theorem amongZ {q b n : Nat} {av : AV} {p : Int} {c : Option Nat} (zs : List Int) (h : Cu H q av p) (hp : p ≤ 100000000000) (hb : cellsAt H b = some (zs.map (AV.int .i64))) (hbq : b ≠ q) (hn : zs.length = n) (h0 : 0 < n) (hn2 : n ≤ 1000000) : Wc (call T pr f_s_l1Cur_among [.ptr (some (q, 0)), .slice (some (b, 0)) 1 n c] ⟨H, e⟩) (fun v m => ∃ x y z : Int, v = .int .i64 x ∧ x ∈ zs ∧ 0 ≤ y ∧ y ≤ p + 2 ∧ m = ⟨H.set q (curB av y z), e⟩) := by
  subst hn
  exact wc_among h hp hb hbq h0 hn2

/-- an old block falls, where an append may have written into it -/
def killL (L : List Blk) (b : Nat) (keep : Bool) : List Blk := if keep = true then L else L.set b .dead

theorem killL_length (L : List Blk) (b : Nat) (k : Bool) : (killL L b k).length = L.length := by unfold killL; split <;> simp

theorem killL_get {L : List Blk} {b i : Nat} (k : Bool) (h : i ≠ b) : (killL L b k)[i]? = L[i]? := by
  unfold killL
  split
  · rfl
  · exact List.getElem?_set_ne (fun e => h e.symm)

/-- some elements more -/
theorem apG {L : List Blk} {b sz bytes n k : Nat} {cs new : List AV} {cap : Option Nat} {src : AV} (hb : L[b]? = some (.cells cs true)) (hs : srcCells false L src = some (k, new)) (hcs : cs.length = n * sz) (hnew : new.length = k * sz) (hm : (n + k) * bytes ≤ maxBytes) (hcap : cap = some 0 → n = 0) :
    appendV L e false sz bytes (.slice (some (b, 0)) sz n cap) src = some (.slice (some (L.length, 0)) sz (n + k) none, ⟨killL L b (decide (cap = some 0 ∧ 0 < k)) ++ [.cells (cs ++ new) true], e⟩) := by
  unfold appendV
  simp only [hb, hs]
  rw [if_pos ⟨trivial, hm, hnew, by omega⟩]
  by_cases h : cap = some 0 ∧ 0 < k
  · have hn := hcap h.1
    subst hn
    have : cs = [] := List.eq_nil_of_length_eq_zero (by omega)
    subst this
    rw [if_pos h]
    simp [killL, h]
  · rw [if_neg h, if_pos trivial, List.drop_zero, List.take_of_length_le (by omega)]
    simp [killL, h]

/-- one element more -/
theorem apOne {L : List Blk} {b q sz bytes n : Nat} {cs new : List AV} {cap c : Option Nat} (hb : L[b]? = some (.cells cs true)) (hq : cellsAt L q = some new) (hcs : cs.length = n * sz) (hnew : new.length = sz) (hm : (n + 1) * bytes ≤ maxBytes) (hcap : cap = some 0 → n = 0) :
    appendV L e false sz bytes (.slice (some (b, 0)) sz n cap) (.slice (some (q, 0)) sz 1 c) = some (.slice (some (L.length, 0)) sz (n + 1) none, ⟨killL L b (decide (cap = some 0)) ++ [.cells (cs ++ new) true], e⟩) := by
  have := apG (e := e) (bytes := bytes) (cap := cap) hb (src_new L 1 sz c new q hq (by omega)) hcs (by omega) hm hcap
  rw [this]
  simp

/-- a memory that has grown -/
def Grown (H L : List Blk) : Prop := ∃ G, L = H ++ G

theorem Grown.refl (H : List Blk) : Grown H H := ⟨[], by simp⟩
theorem Grown.le {H L : List Blk} (h : Grown H L) : H.length ≤ L.length := by
  obtain ⟨G, rfl⟩ := h
  simp
theorem Grown.more {H L : List Blk} (h : Grown H L) (X : List Blk) : Grown H (L ++ X) := by
  obtain ⟨G, rfl⟩ := h
  exact ⟨G ++ X, by simp⟩
theorem Grown.put {H L : List Blk} (h : Grown H L) {b : Nat} (hb : H.length ≤ b) (x : Blk) : Grown H (L.set b x) := by
  obtain ⟨G, rfl⟩ := h
  exact ⟨G.set (b - H.length) x, List.set_append_right _ _ hb⟩
theorem Grown.kill {H L : List Blk} (h : Grown H L) {b : Nat} (hb : H.length ≤ b) (k : Bool) : Grown H (killL L b k) := by
  unfold killL
  split
  · exact h
  · exact h.put hb _
theorem Grown.cur {H L : List Blk} {q : Nat} {x : Blk} (h : Grown (H.set q x) L) (hq : q < H.length) (y : Blk) : Grown (H.set q y) (L.set q y) := by
  obtain ⟨G, rfl⟩ := h
  exact ⟨G, by rw [List.set_append_left _ _ (by simpa using hq), List.set_set]⟩
theorem Grown.get {H L : List Blk} (h : Grown H L) {i : Nat} (hi : i < H.length) : L[i]? = H[i]? := by
  obtain ⟨G, rfl⟩ := h
  exact List.getElem?_append_left hi
theorem Grown.cells {H L : List Blk} {q : Nat} {x : Blk} (h : Grown (H.set q x) L) {b : Nat} {cs : List AV} (hb : cellsAt H b = some cs) (hne : b ≠ q) : cellsAt L b = some cs := by
  have hl : b < H.length := by
    unfold cellsAt at hb
    rcases Nat.lt_or_ge b H.length with h | h
    · exact h
    · rw [List.getElem?_eq_none h] at hb; cases hb
  unfold cellsAt at hb ⊢
  rw [h.get (by simpa using hl), List.getElem?_set_ne (fun e => hne e.symm)]
  exact hb
theorem Grown.curs {H L : List Blk} {q : Nat} {av : AV} {p y z : Int} (h : Grown (H.set q (curB av y z)) L) (hc : Cu H q av p) (hy : 0 ≤ y) : Cu L q av y := by
  obtain ⟨G, rfl⟩ := h
  exact (hc.step hy z).more G

/-- some elements more: what is known behind it -/
theorem wc_ap {L : List Blk} {b sz bytes n k : Nat} {cs new : List AV} {cap : Option Nat} {src : AV} {Q : AV → Mem → Prop} (hb : L[b]? = some (.cells cs true)) (hs : srcCells false L src = some (k, new)) (hcs : cs.length = n * sz) (hnew : new.length = k * sz) (hm : (n + k) * bytes ≤ maxBytes) (hcap : cap = some 0 → n = 0)
    (hQ : ∀ L' : List Blk, L'.length = L.length + 1 → (∀ i, i ≠ b → i < L.length → L'[i]? = L[i]?) → L'[L.length]? = some (.cells (cs ++ new) true) → (∀ H0, Grown H0 L → H0.length ≤ b → Grown H0 L') → Q (.slice (some (L.length, 0)) sz (n + k) none) ⟨L', e⟩) :
    Wc (appendV L e false sz bytes (.slice (some (b, 0)) sz n cap) src) Q := by
  refine Wc.of_eq (apG hb hs hcs hnew hm hcap) (hQ _ ?_ ?_ ?_ ?_)
  · rw [List.length_append, killL_length]; rfl
  · intro i h1 h2
    rw [List.getElem?_append_left (by rw [killL_length]; exact h2), killL_get _ h1]
  · have hl := killL_length L b (decide (cap = some 0 ∧ 0 < k))
    rw [List.getElem?_append_right (by omega), hl, Nat.sub_self]
    rfl
  · exact fun H0 hg hb => (hg.kill hb _).more _

theorem set_self_at {L : List Blk} {q : Nat} {x : Blk} (h : L[q]? = some x) : L.set q x = L := by
  obtain ⟨hlt, he⟩ := List.getElem?_eq_some_iff.mp h
  rw [← he, List.set_getElem_self]

/-- the end of a call that hands back one list, of a memory that has grown -/
theorem finish_sl {L : List Blk} {b sz n : Nat} {c : Option Nat} {cs : List AV} {w : Bool} (hL : Grown H L) (e0 e1 : Option Nat) (hc : clean H.length e1 = true) (hb : H.length ≤ b) (hG : L[b]? = some (.cells cs w)) (hu : (cs.all fun c => c.under H.length) = true) :
    finish 2 H.length e0 (.slice (some (b, 0)) sz n c) ⟨L, e1⟩ = some (.slice (some (H.length, 0)) sz n c, ⟨H ++ [.cells cs w], e0⟩) := by
  obtain ⟨G, rfl⟩ := hL
  obtain ⟨j, rfl⟩ : ∃ j, b = H.length + j := ⟨b - H.length, by omega⟩
  have hlt : ¬ H.length + j < H.length := by omega
  have hr : dedup (AV.roots H.length (.slice (some (H.length + j, 0)) sz n c)) = [H.length + j] := by simp [AV.roots, dedup, hlt]
  unfold finish
  simp only [hr]
  have h2 : ([H.length + j].all fun b => flatBlk H.length (H ++ G)[b]?) = true := by
    simp only [List.all_cons, List.all_nil, Bool.and_true, hG, flatBlk, hu]
  simp only [hc, h2, and_self, if_true]
  simp [AV.rename, renum, hlt, hG]

theorem finish_sl_set {q : Nat} {X : Blk} {L : List Blk} {b sz n : Nat} {c : Option Nat} {cs : List AV} {w : Bool} (hL : Grown (H.set q X) L) (e0 e1 : Option Nat) (hc : clean H.length e1 = true) (hb : H.length ≤ b) (hG : L[b]? = some (.cells cs w)) (hu : (cs.all fun c => c.under H.length) = true) :
    finish 2 H.length e0 (.slice (some (b, 0)) sz n c) ⟨L, e1⟩ = some (.slice (some (H.length, 0)) sz n c, ⟨H.set q X ++ [.cells cs w], e0⟩) := by
  have hl : (H.set q X).length = H.length := List.length_set
  have := finish_sl (H := H.set q X) (sz := sz) (n := n) (c := c) hL e0 e1 (by rw [hl]; exact hc) (by rw [hl]; exact hb) hG (by rw [hl]; exact hu)
  rw [hl] at this
  exact this

/-- the end of a call that hands back something plain and two lists -/
theorem finish_sl2 {L : List Blk} {b1 b2 s1 s2 n1 n2 : Nat} {c1 c2 : Option Nat} {cs1 cs2 : List AV} {w1 w2 : Bool} (v0 : AV) (h0 : AV.roots H.length v0 = []) (h0' : ∀ f, AV.rename f v0 = v0) (hL : Grown H L) (e0 e1 : Option Nat) (hc : clean H.length e1 = true) (hb1 : H.length ≤ b1) (hb2 : H.length ≤ b2) (hne : b1 ≠ b2)
    (h1 : L[b1]? = some (.cells cs1 w1)) (h2 : L[b2]? = some (.cells cs2 w2)) (u1 : (cs1.all fun c => c.under H.length) = true) (u2 : (cs2.all fun c => c.under H.length) = true) :
    finish 2 H.length e0 (.tup [v0, .slice (some (b1, 0)) s1 n1 c1, .slice (some (b2, 0)) s2 n2 c2]) ⟨L, e1⟩ = some (.tup [v0, .slice (some (H.length, 0)) s1 n1 c1, .slice (some (H.length + 1, 0)) s2 n2 c2], ⟨H ++ [.cells cs1 w1, .cells cs2 w2], e0⟩) := by
  obtain ⟨G, rfl⟩ := hL
  have hlt1 : ¬ b1 < H.length := by omega
  have hlt2 : ¬ b2 < H.length := by omega
  have hr : dedup (AV.roots H.length (.tup [v0, .slice (some (b1, 0)) s1 n1 c1, .slice (some (b2, 0)) s2 n2 c2])) = [b1, b2] := by
    simp only [AV.roots, AV.roots.go, h0, if_neg hlt1, if_neg hlt2, List.nil_append, List.cons_append, List.append_nil]
    simp [dedup, hne, Ne.symm hne]
  unfold finish
  simp only [hr]
  have h3 : ([b1, b2].all fun b => flatBlk H.length (H ++ G)[b]?) = true := by
    simp only [List.all_cons, List.all_nil, Bool.and_true, h1, h2, flatBlk, u1, u2, Bool.and_self]
  simp only [hc, h3, and_self, if_true]
  have hq : (b1 == b2) = false := by simpa using hne
  have hq' : (b2 == b1) = false := by simpa using Ne.symm hne
  simp [AV.rename, AV.rename.go, h0', renum, h1, h2, hlt1, hlt2, List.idxOf_cons, hq, hq']

/-- the end of a call that hands back something plain and a list -/
theorem finish_sl1 {L : List Blk} {b1 s1 n1 : Nat} {c1 : Option Nat} {cs1 : List AV} {w1 : Bool} (v0 : AV) (h0 : AV.roots H.length v0 = []) (h0' : ∀ f, AV.rename f v0 = v0) (hL : Grown H L) (e0 e1 : Option Nat) (hc : clean H.length e1 = true) (hb1 : H.length ≤ b1)
    (h1 : L[b1]? = some (.cells cs1 w1)) (u1 : (cs1.all fun c => c.under H.length) = true) :
    finish 2 H.length e0 (.tup [v0, .slice (some (b1, 0)) s1 n1 c1]) ⟨L, e1⟩ = some (.tup [v0, .slice (some (H.length, 0)) s1 n1 c1], ⟨H ++ [.cells cs1 w1], e0⟩) := by
  obtain ⟨G, rfl⟩ := hL
  have hlt1 : ¬ b1 < H.length := by omega
  have hr : dedup (AV.roots H.length (.tup [v0, .slice (some (b1, 0)) s1 n1 c1])) = [b1] := by
    simp only [AV.roots, AV.roots.go, h0, if_neg hlt1, List.nil_append, List.cons_append, List.append_nil]
    simp [dedup]
  unfold finish
  simp only [hr]
  have h3 : ([b1].all fun b => flatBlk H.length (H ++ G)[b]?) = true := by
    simp only [List.all_cons, List.all_nil, Bool.and_true, h1, flatBlk, u1, Bool.and_self]
  simp only [hc, h3, and_self, if_true]
  simp [AV.rename, AV.rename.go, h0', renum, h1, hlt1]

theorem e_l_rBig (p : Option (Nat × Nat)) (sz n : Nat) (c : Option Nat) : call T pr f_l_rBig [.slice p sz n c] ⟨H, e⟩ = some (.bool (decide ((65536 : Int) < (n : Int))), ⟨H, e⟩) := by
  rw [call_eq t_l_rBig]
  simp +contextual only [a_l_rBig, c_l_rBig, gt_iff_lt, go_sem, entry, joinEsc, if_pos, reduceIte, Nat.reduceAdd, Nat.reduceLeDiff, Nat.reduceLT, Nat.reduceEqDiff]

end Go.Proofs.Ytlcklonakjhoiaa.Slim

/- Rafts: the drawn arguments. -/
namespace Go.Proofs.Ytlcklonakjhoiaa.Slim

open Go

set_option linter.unusedSimpArgs false

set_option linter.unusedVariables false

variable {pr : Prims} {H : List Blk} {e : Option Nat}

theorem wc_raft {q : Nat} {av : AV} {p : Int} (h : Cu H q av p) (hp : p ≤ 10000000000) : Wc (call T pr f_s_l1Cur_raft [.ptr (some (q, 0))] ⟨H, e⟩) (fun v m => ∃ a b o y z : Int, v = rfV a b o ∧ 0 ≤ y ∧ y ≤ p + 20 ∧ m = ⟨H.set q (curB av y z), e⟩) := by
  have hl := h.lt
  rw [call_wc t_s_l1Cur_raft]
  obtain ⟨R, hR⟩ : ∃ R, R = seqTl (seqTl (seqTl (seqTl c_s_l1Cur_raft))) := ⟨_, rfl⟩
  have hc : c_s_l1Cur_raft = .seq (seqHd c_s_l1Cur_raft) (.seq (seqHd (seqTl c_s_l1Cur_raft)) (.seq (seqHd (seqTl (seqTl c_s_l1Cur_raft))) (.seq (seqHd (seqTl (seqTl (seqTl c_s_l1Cur_raft)))) R))) := by rw [hR]; rfl
  have r : ∀ (a b o y z : Int) (B1 : Blk) (G : List Blk) (w2 w4 w5 w6 w7 : AV), 0 ≤ y → y ≤ p + 20 →
      Wp (run T pr R ⟨[.ptr (some (q, 0)), .ptr (some (H.length, 0)), w2, .ptr (some (H.length + 2, 0)), w4, w5, w6, w7], ⟨H.set q (curB av y z) ++ (.cells [.int .i64 0, .int .i64 0, .int .i64 0] true :: B1 :: .cells [.int .i64 a, .int .i64 b, .int .i64 o] true :: G), none⟩⟩) (retQ a_s_l1Cur_raft ⟨H, e⟩ fun v m => ∃ a b o y z : Int, v = rfV a b o ∧ 0 ≤ y ∧ y ≤ p + 20 ∧ m = ⟨H.set q (curB av y z), e⟩) := by
    rintro a b o y z B1 G w2 w4 w5 w6 w7 hy0 hy1
    rw [hR]
    simp +contextual only [a_s_l1Cur_raft, c_s_l1Cur_raft, seqTl, seqHd, hl, cellsAt_s0, cellsAt_sk, blkAt_s0, blkAt_sk, set_s0, set_sk, set_sapp, set_app, List.set_set, List.length_set, finish_one_setG, finish_one_set0, clean_none', Nat.add_assoc, Wp_some, Wp_none, Wp_ite, Wc_some, Wc_none, Wc_ite, Wp_thenRun, seqQ_normal, seqQ_exit, seqQ_ret, Wp_inBlock, blkQ_normal, blkQ_ret, blkQ_same, blkQ_exit, Wp_opThen, opQ_at, Wp_guardP, retQ_normal, retQ_ret, loopQ_normal, loopQ_exit, loopQ_ret, finish_one_eq, finish_one_eq0, finish_two_eq, finish_two_eq0, roots_slice_new, roots_slice_new0, roots_slice_none, roots_ptr_new, roots_ptr_new0, roots_int, roots_bool, roots_str, roots_agg, roots_tup, roots_cons, roots_nil, rename_slice, rename_slice_none, rename_ptr, rename_int, rename_bool, rename_str, rename_agg, rename_tup, rename_cons, rename_nil, keepBlks_nil, keepBlks_cons, flatAll_nil, flatAll_cons, flatBlk_cells, dedup_nil, dedup_one, dedup_two, renum_one, renum_one0, renum_two0, renum_two1, clean_none', clean_some, minEsc_none, minEsc_some, Nat.add_left_cancel_iff, Nat.le_add_right, Nat.le_refl, decide_true, go_sem, entry, joinEsc, if_pos, reduceIte, Nat.reduceAdd, Nat.reduceLeDiff, Nat.reduceLT, Nat.reduceEqDiff]
    exact ⟨a, b, o, y, z, rfl, hy0, hy1, rfl⟩
  show Wp (run T pr c_s_l1Cur_raft _) _
  rw [hc]
  simp +contextual only [a_s_l1Cur_raft, c_s_l1Cur_raft, seqTl, seqHd, fillParts, cellsAt_s0, cellsAt_sk, blkAt_s0, blkAt_sk, set_s0, set_sk, set_sapp, set_app, List.set_set, List.length_set, finish_one_setG, finish_one_set0, clean_none', Nat.add_assoc, Wp_some, Wp_none, Wp_ite, Wc_some, Wc_none, Wc_ite, Wp_thenRun, seqQ_normal, seqQ_exit, seqQ_ret, Wp_inBlock, blkQ_normal, blkQ_ret, blkQ_same, blkQ_exit, Wp_opThen, opQ_at, Wp_guardP, retQ_normal, retQ_ret, loopQ_normal, loopQ_exit, loopQ_ret, go_sem, entry, joinEsc, if_pos, reduceIte, Nat.reduceAdd, Nat.reduceLeDiff, Nat.reduceLT, Nat.reduceEqDiff]
  refine (wc_pick 8 (h.more _) (by omega) (by omega)).mono ?_
  rintro v m ⟨x1, y1, z1, rfl, hx10, hx11, hy10, hy11, rfl⟩
  have h1 := h.step hy10 z1
  simp +contextual only [fillParts, hl, cellsAt_s0, cellsAt_sk, blkAt_s0, blkAt_sk, set_s0, set_sk, set_sapp, set_app, List.set_set, List.length_set, finish_one_setG, finish_one_set0, clean_none', Nat.add_assoc, Wp_some, Wp_none, Wp_ite, Wc_some, Wc_none, Wc_ite, Wp_thenRun, seqQ_normal, seqQ_exit, seqQ_ret, Wp_inBlock, blkQ_normal, blkQ_ret, blkQ_same, blkQ_exit, Wp_opThen, opQ_at, Wp_guardP, retQ_normal, retQ_ret, loopQ_normal, loopQ_exit, loopQ_ret, go_sem, entry, joinEsc, if_pos, reduceIte, Nat.reduceAdd, Nat.reduceLeDiff, Nat.reduceLT, Nat.reduceEqDiff]
  refine (wc_pick 6 (h1.more _) (by omega) (by omega)).mono ?_
  rintro v m ⟨x2, y2, z2, rfl, hx20, hx21, hy20, hy21, rfl⟩
  have h2 := h1.step hy20 z2
  rw [List.set_set] at h2
  simp +contextual only [fillParts, hl, cellsAt_s0, cellsAt_sk, blkAt_s0, blkAt_sk, set_s0, set_sk, set_sapp, set_app, List.set_set, List.length_set, finish_one_setG, finish_one_set0, clean_none', Nat.add_assoc, Wp_some, Wp_none, Wp_ite, Wc_some, Wc_none, Wc_ite, Wp_thenRun, seqQ_normal, seqQ_exit, seqQ_ret, Wp_inBlock, blkQ_normal, blkQ_ret, blkQ_same, blkQ_exit, Wp_opThen, opQ_at, Wp_guardP, retQ_normal, retQ_ret, loopQ_normal, loopQ_exit, loopQ_ret, go_sem, entry, joinEsc, if_pos, reduceIte, Nat.reduceAdd, Nat.reduceLeDiff, Nat.reduceLT, Nat.reduceEqDiff]
  refine (amongZ (n := 3) [3, 9, 30] (h2.more _) (by omega) (by simp +contextual only [cellsAt_s0, cellsAt_sk, blkAt_s0, blkAt_sk, set_s0, set_sk, set_sapp, set_app, List.set_set, List.length_set, finish_one_setG, finish_one_set0, clean_none', Nat.add_assoc, go_sem, entry, joinEsc, if_pos, reduceIte, Nat.reduceAdd, Nat.reduceLeDiff, Nat.reduceLT, Nat.reduceEqDiff]) (by omega) rfl (by omega) (by omega)).mono ?_
  rintro v m ⟨x3, y3, z3, rfl, hx3, hy30, hy31, rfl⟩
  have h3 := h2.step hy30 z3
  rw [List.set_set] at h3
  have hx3' : x3 ≤ 61 := by
    simp at hx3
    omega
  simp +contextual only [fillParts, hl, cellsAt_s0, cellsAt_sk, blkAt_s0, blkAt_sk, set_s0, set_sk, set_sapp, set_app, List.set_set, List.length_set, finish_one_setG, finish_one_set0, clean_none', Nat.add_assoc, Wp_some, Wp_none, Wp_ite, Wc_some, Wc_none, Wc_ite, Wp_thenRun, seqQ_normal, seqQ_exit, seqQ_ret, Wp_inBlock, blkQ_normal, blkQ_ret, blkQ_same, blkQ_exit, Wp_opThen, opQ_at, Wp_guardP, retQ_normal, retQ_ret, loopQ_normal, loopQ_exit, loopQ_ret, go_sem, entry, joinEsc, if_pos, reduceIte, Nat.reduceAdd, Nat.reduceLeDiff, Nat.reduceLT, Nat.reduceEqDiff]
  refine (wc_pick x3 (h3.more _) (by omega) (by omega)).mono ?_
  rintro v m ⟨x4, y4, z4, rfl, hx40, hx41, hy40, hy41, rfl⟩
  have h4 := h3.step hy40 z4
  rw [List.set_set] at h4
  simp +contextual only [fillParts, hl, cellsAt_s0, cellsAt_sk, blkAt_s0, blkAt_sk, set_s0, set_sk, set_sapp, set_app, List.set_set, List.length_set, finish_one_setG, finish_one_set0, clean_none', Nat.add_assoc, Wp_some, Wp_none, Wp_ite, Wc_some, Wc_none, Wc_ite, Wp_thenRun, seqQ_normal, seqQ_exit, seqQ_ret, Wp_inBlock, blkQ_normal, blkQ_ret, blkQ_same, blkQ_exit, Wp_opThen, opQ_at, Wp_guardP, retQ_normal, retQ_ret, loopQ_normal, loopQ_exit, loopQ_ret, go_sem, entry, joinEsc, if_pos, reduceIte, Nat.reduceAdd, Nat.reduceLeDiff, Nat.reduceLT, Nat.reduceEqDiff]
  refine (wc_pick 50 (h4.more _) (by omega) (by omega)).mono ?_
  rintro v m ⟨x5, y5, z5, rfl, hx50, hx51, hy50, hy51, rfl⟩
  have h5 := h4.step hy50 z5
  rw [List.set_set] at h5
  by_cases c0 : x5 = 0
  · subst c0
    simp +contextual only [fillParts, hl, decide_true, cellsAt_s0, cellsAt_sk, blkAt_s0, blkAt_sk, set_s0, set_sk, set_sapp, set_app, List.set_set, List.length_set, finish_one_setG, finish_one_set0, clean_none', Nat.add_assoc, Wp_some, Wp_none, Wp_ite, Wc_some, Wc_none, Wc_ite, Wp_thenRun, seqQ_normal, seqQ_exit, seqQ_ret, Wp_inBlock, blkQ_normal, blkQ_ret, blkQ_same, blkQ_exit, Wp_opThen, opQ_at, Wp_guardP, retQ_normal, retQ_ret, loopQ_normal, loopQ_exit, loopQ_ret, go_sem, entry, joinEsc, if_pos, reduceIte, Nat.reduceAdd, Nat.reduceLeDiff, Nat.reduceLT, Nat.reduceEqDiff]
    refine (amongZ (n := 3) [-1, IntKind.i64.wrap (IntKind.i64.wrap (x1 + x2) + 1), 61] (h5.more _) (by omega) (by simp +contextual only [cellsAt_s0, cellsAt_sk, blkAt_s0, blkAt_sk, set_s0, set_sk, set_sapp, set_app, List.set_set, List.length_set, finish_one_setG, finish_one_set0, clean_none', Nat.add_assoc, go_sem, entry, joinEsc, if_pos, reduceIte, Nat.reduceAdd, Nat.reduceLeDiff, Nat.reduceLT, Nat.reduceEqDiff]) (by omega) rfl (by omega) (by omega)).mono ?_
    rintro v m ⟨x6, y6, z6, rfl, hx6, hy60, hy61, rfl⟩
    simp +contextual only [fillParts, hl, decide_true, cellsAt_s0, cellsAt_sk, blkAt_s0, blkAt_sk, set_s0, set_sk, set_sapp, set_app, List.set_set, List.length_set, finish_one_setG, finish_one_set0, clean_none', Nat.add_assoc, Wp_some, Wp_none, Wp_ite, Wc_some, Wc_none, Wc_ite, Wp_thenRun, seqQ_normal, seqQ_exit, seqQ_ret, Wp_inBlock, blkQ_normal, blkQ_ret, blkQ_same, blkQ_exit, Wp_opThen, opQ_at, Wp_guardP, retQ_normal, retQ_ret, loopQ_normal, loopQ_exit, loopQ_ret, go_sem, entry, joinEsc, if_pos, reduceIte, Nat.reduceAdd, Nat.reduceLeDiff, Nat.reduceLT, Nat.reduceEqDiff]
    exact r _ _ _ _ _ _ _ _ _ _ _ _ hy60 (by omega)
  · have c0' : decide (x5 = 0) = false := decide_eq_false c0
    by_cases c1 : x5 = 1
    · subst c1
      simp +contextual only [fillParts, hl, c0', decide_true, cellsAt_s0, cellsAt_sk, blkAt_s0, blkAt_sk, set_s0, set_sk, set_sapp, set_app, List.set_set, List.length_set, finish_one_setG, finish_one_set0, clean_none', Nat.add_assoc, Wp_some, Wp_none, Wp_ite, Wc_some, Wc_none, Wc_ite, Wp_thenRun, seqQ_normal, seqQ_exit, seqQ_ret, Wp_inBlock, blkQ_normal, blkQ_ret, blkQ_same, blkQ_exit, Wp_opThen, opQ_at, Wp_guardP, retQ_normal, retQ_ret, loopQ_normal, loopQ_exit, loopQ_ret, go_sem, entry, joinEsc, if_pos, reduceIte, Nat.reduceAdd, Nat.reduceLeDiff, Nat.reduceLT, Nat.reduceEqDiff]
      refine (amongZ (n := 3) [60, 61, 4611686018427387904] (h5.more _) (by omega) (by simp +contextual only [cellsAt_s0, cellsAt_sk, blkAt_s0, blkAt_sk, set_s0, set_sk, set_sapp, set_app, List.set_set, List.length_set, finish_one_setG, finish_one_set0, clean_none', Nat.add_assoc, go_sem, entry, joinEsc, if_pos, reduceIte, Nat.reduceAdd, Nat.reduceLeDiff, Nat.reduceLT, Nat.reduceEqDiff]) (by omega) rfl (by omega) (by omega)).mono ?_
      rintro v m ⟨x6, y6, z6, rfl, hx6, hy60, hy61, rfl⟩
      simp +contextual only [fillParts, hl, decide_true, cellsAt_s0, cellsAt_sk, blkAt_s0, blkAt_sk, set_s0, set_sk, set_sapp, set_app, List.set_set, List.length_set, finish_one_setG, finish_one_set0, clean_none', Nat.add_assoc, Wp_some, Wp_none, Wp_ite, Wc_some, Wc_none, Wc_ite, Wp_thenRun, seqQ_normal, seqQ_exit, seqQ_ret, Wp_inBlock, blkQ_normal, blkQ_ret, blkQ_same, blkQ_exit, Wp_opThen, opQ_at, Wp_guardP, retQ_normal, retQ_ret, loopQ_normal, loopQ_exit, loopQ_ret, go_sem, entry, joinEsc, if_pos, reduceIte, Nat.reduceAdd, Nat.reduceLeDiff, Nat.reduceLT, Nat.reduceEqDiff]
      exact r _ _ _ _ _ _ _ _ _ _ _ _ hy60 (by omega)
    · have c1' : decide (x5 = 1) = false := decide_eq_false c1
      by_cases c2 : x5 = 2
      · subst c2
        simp +contextual only [fillParts, hl, c0', c1', decide_true, cellsAt_s0, cellsAt_sk, blkAt_s0, blkAt_sk, set_s0, set_sk, set_sapp, set_app, List.set_set, List.length_set, finish_one_setG, finish_one_set0, clean_none', Nat.add_assoc, Wp_some, Wp_none, Wp_ite, Wc_some, Wc_none, Wc_ite, Wp_thenRun, seqQ_normal, seqQ_exit, seqQ_ret, Wp_inBlock, blkQ_normal, blkQ_ret, blkQ_same, blkQ_exit, Wp_opThen, opQ_at, Wp_guardP, retQ_normal, retQ_ret, loopQ_normal, loopQ_exit, loopQ_ret, go_sem, entry, joinEsc, if_pos, reduceIte, Nat.reduceAdd, Nat.reduceLeDiff, Nat.reduceLT, Nat.reduceEqDiff]
        refine (amongZ (n := 4) [0, 99, 100, -1] (h5.more _) (by omega) (by simp +contextual only [cellsAt_s0, cellsAt_sk, blkAt_s0, blkAt_sk, set_s0, set_sk, set_sapp, set_app, List.set_set, List.length_set, finish_one_setG, finish_one_set0, clean_none', Nat.add_assoc, go_sem, entry, joinEsc, if_pos, reduceIte, Nat.reduceAdd, Nat.reduceLeDiff, Nat.reduceLT, Nat.reduceEqDiff]) (by omega) rfl (by omega) (by omega)).mono ?_
        rintro v m ⟨x6, y6, z6, rfl, hx6, hy60, hy61, rfl⟩
        simp +contextual only [fillParts, hl, decide_true, cellsAt_s0, cellsAt_sk, blkAt_s0, blkAt_sk, set_s0, set_sk, set_sapp, set_app, List.set_set, List.length_set, finish_one_setG, finish_one_set0, clean_none', Nat.add_assoc, Wp_some, Wp_none, Wp_ite, Wc_some, Wc_none, Wc_ite, Wp_thenRun, seqQ_normal, seqQ_exit, seqQ_ret, Wp_inBlock, blkQ_normal, blkQ_ret, blkQ_same, blkQ_exit, Wp_opThen, opQ_at, Wp_guardP, retQ_normal, retQ_ret, loopQ_normal, loopQ_exit, loopQ_ret, go_sem, entry, joinEsc, if_pos, reduceIte, Nat.reduceAdd, Nat.reduceLeDiff, Nat.reduceLT, Nat.reduceEqDiff]
        exact r _ _ _ _ _ _ _ _ _ _ _ _ hy60 (by omega)
      · have c2' : decide (x5 = 2) = false := decide_eq_false c2
        simp +contextual only [hl, c0', c1', c2', cellsAt_s0, cellsAt_sk, blkAt_s0, blkAt_sk, set_s0, set_sk, set_sapp, set_app, List.set_set, List.length_set, finish_one_setG, finish_one_set0, clean_none', Nat.add_assoc, Wp_some, Wp_none, Wp_ite, Wc_some, Wc_none, Wc_ite, Wp_thenRun, seqQ_normal, seqQ_exit, seqQ_ret, Wp_inBlock, blkQ_normal, blkQ_ret, blkQ_same, blkQ_exit, Wp_opThen, opQ_at, Wp_guardP, retQ_normal, retQ_ret, loopQ_normal, loopQ_exit, loopQ_ret, go_sem, entry, joinEsc, if_pos, reduceIte, Nat.reduceAdd, Nat.reduceLeDiff, Nat.reduceLT, Nat.reduceEqDiff]
        exact r _ _ _ _ _ _ _ _ _ _ _ _ hy50 (by omega)

theorem set_ld0 {ls : List Ld} {i : Nat} (h : i < ls.length) (a : Int) : ∃ ls' : List Ld, ls'.length = ls.length ∧ setRange (encL ls) (i * 2) [.int .i64 a] = encL ls' := by
  have hl : ls = ls.take i ++ ls[i] :: ls.drop (i + 1) := by rw [← List.drop_eq_getElem_cons h, List.take_append_drop]
  have ht : (ls.take i).length = i := by rw [List.length_take]; omega
  have := setRange_midL0 (ls.take i) (ls.drop (i + 1)) ls[i] a
  rw [← hl, ht] at this
  refine ⟨_, ?_, this⟩
  rw [List.length_append, List.length_cons, List.length_drop, ht]
  omega

theorem set_ld1 {ls : List Ld} {i : Nat} (h : i < ls.length) (a : Int) : ∃ ls' : List Ld, ls'.length = ls.length ∧ setRange (encL ls) (i * 2 + 1) [.int .i64 a] = encL ls' := by
  have hl : ls = ls.take i ++ ls[i] :: ls.drop (i + 1) := by rw [← List.drop_eq_getElem_cons h, List.take_append_drop]
  have ht : (ls.take i).length = i := by rw [List.length_take]; omega
  have := setRange_midL1 (ls.take i) (ls.drop (i + 1)) ls[i] a
  rw [← hl, ht] at this
  refine ⟨_, ?_, this⟩
  rw [List.length_append, List.length_cons, List.length_drop, ht]
  omega

theorem last_get {M : List Blk} {n : Nat} (h : M.length = n) (x : Blk) : (M ++ [x])[n]? = some x := by
  rw [← h, List.getElem?_append_right (Nat.le_refl _), Nat.sub_self]
  rfl

set_option maxHeartbeats 4000000 in
theorem wc_cargo {q : Nat} {av : AV} {p : Int} (h : Cu H q av p) (hp : p ≤ 1000000000) : Wc (call T pr f_s_l1Cur_cargo [.ptr (some (q, 0))] ⟨H, e⟩) (fun v m => ∃ (ls : List Ld) (c : Option Nat) (y z : Int), v = slL H.length ls.length c ∧ ls.length ≤ 9 ∧ 0 ≤ y ∧ y ≤ p + 300 ∧ m = ⟨H.set q (curB av y z) ++ [.cells (encL ls) true], e⟩) := by
  have hl := h.lt
  rw [call_wc t_s_l1Cur_cargo]
  obtain ⟨R, hR⟩ : ∃ R, R = seqTl (seqTl (seqTl (seqTl c_s_l1Cur_cargo))) := ⟨_, rfl⟩
  have hc : c_s_l1Cur_cargo = .seq (seqHd c_s_l1Cur_cargo) (.seq (seqHd (seqTl c_s_l1Cur_cargo)) (.seq (seqHd (seqTl (seqTl c_s_l1Cur_cargo))) (.seq (seqHd (seqTl (seqTl (seqTl c_s_l1Cur_cargo)))) R))) := by rw [hR]; rfl
  have r : ∀ (ls : List Ld) (b : Nat) (c : Option Nat) (y z : Int) (L : List Blk) (w1 w3 w4 w5 w6 w7 w8 w9 w10 w11 : AV), 0 ≤ y → y ≤ p + 300 → ls.length ≤ 9 → H.length ≤ b → Grown (H.set q (curB av y z)) L → L[b]? = some (.cells (encL ls) true) →
      Wp (run T pr R ⟨[.ptr (some (q, 0)), w1, slL b ls.length c, w3, w4, w5, w6, w7, w8, w9, w10, w11], ⟨L, none⟩⟩) (retQ a_s_l1Cur_cargo ⟨H, e⟩ fun v m => ∃ (ls : List Ld) (c : Option Nat) (y z : Int), v = slL H.length ls.length c ∧ ls.length ≤ 9 ∧ 0 ≤ y ∧ y ≤ p + 300 ∧ m = ⟨H.set q (curB av y z) ++ [.cells (encL ls) true], e⟩) := by
    rintro ls b c y z L w1 w3 w4 w5 w6 w7 w8 w9 w10 w11 hy0 hy1 hn hb hg hL
    have hf := finish_sl_set (H := H) (sz := 2) (n := ls.length) (c := c) hg e none rfl hb hL (under_encL _ _)
    rw [hR]
    simp (maxSteps := 2000000) +contextual only [a_s_l1Cur_cargo, c_s_l1Cur_cargo, seqTl, seqHd, hl, hf, Wp_some, Wp_none, Wp_ite, Wc_some, Wc_none, Wc_ite, Wp_thenRun, seqQ_normal, seqQ_exit, seqQ_ret, Wp_inBlock, blkQ_normal, blkQ_ret, blkQ_same, blkQ_exit, Wp_opThen, opQ_at, Wp_guardP, retQ_normal, retQ_ret, loopQ_normal, loopQ_exit, loopQ_ret, go_sem, entry, joinEsc, if_pos, reduceIte, Nat.reduceAdd, Nat.reduceLeDiff, Nat.reduceLT, Nat.reduceEqDiff]
    exact ⟨ls, c, y, z, rfl, hn, hy0, hy1, rfl⟩
  show Wp (run T pr c_s_l1Cur_cargo _) _
  rw [hc]
  simp (maxSteps := 2000000) +contextual only [a_s_l1Cur_cargo, c_s_l1Cur_cargo, seqTl, seqHd, fillParts, cellsAt_s0, cellsAt_sk, blkAt_s0, blkAt_sk, set_s0, set_sk, set_sapp, set_app, List.set_set, List.length_set, finish_one_setG, finish_one_set0, clean_none', Nat.add_assoc, Wp_some, Wp_none, Wp_ite, Wc_some, Wc_none, Wc_ite, Wp_thenRun, seqQ_normal, seqQ_exit, seqQ_ret, Wp_inBlock, blkQ_normal, blkQ_ret, blkQ_same, blkQ_exit, Wp_opThen, opQ_at, Wp_guardP, retQ_normal, retQ_ret, loopQ_normal, loopQ_exit, loopQ_ret, go_sem, entry, joinEsc, if_pos, reduceIte, Nat.reduceAdd, Nat.reduceLeDiff, Nat.reduceLT, Nat.reduceEqDiff]
  refine (amongZ (n := 8) [3, 4, 2, 5, 1, 0, 6, 8] (h.more _) (by omega) (by simp (maxSteps := 2000000) +contextual only [cellsAt_s0, cellsAt_sk, blkAt_s0, blkAt_sk, set_s0, set_sk, set_sapp, set_app, List.set_set, List.length_set, finish_one_setG, finish_one_set0, clean_none', Nat.add_assoc, go_sem, entry, joinEsc, if_pos, reduceIte, Nat.reduceAdd, Nat.reduceLeDiff, Nat.reduceLT, Nat.reduceEqDiff]) (by omega) rfl (by omega) (by omega)).mono ?_
  rintro v m ⟨x1, y1, z1, rfl, hx1, hy10, hy11, rfl⟩
  have hx1' : 0 ≤ x1 ∧ x1 ≤ 8 := by
    simp at hx1
    omega
  obtain ⟨n, rfl⟩ : ∃ n : Nat, x1 = (n : Int) := ⟨x1.toNat, by omega⟩
  simp (maxSteps := 2000000) +contextual only [hl, cellsAt_s0, cellsAt_sk, blkAt_s0, blkAt_sk, set_s0, set_sk, set_sapp, set_app, List.set_set, List.length_set, finish_one_setG, finish_one_set0, clean_none', Nat.add_assoc, Wp_some, Wp_none, Wp_ite, Wc_some, Wc_none, Wc_ite, Wp_thenRun, seqQ_normal, seqQ_exit, seqQ_ret, Wp_inBlock, blkQ_normal, blkQ_ret, blkQ_same, blkQ_exit, Wp_opThen, opQ_at, Wp_guardP, retQ_normal, retQ_ret, loopQ_normal, loopQ_exit, loopQ_ret, go_sem, entry, joinEsc, if_pos, reduceIte, Nat.reduceAdd, Nat.reduceLeDiff, Nat.reduceLT, Nat.reduceEqDiff]
  refine Wp_loop (fun k st => ∃ (ls : List Ld) (b : Nat) (c : Option Nat) (y z : Int) (L : List Blk) (w4 w5 w6 w7 w8 w9 w10 w11 : AV), 0 ≤ y ∧ y + (k : Int) * 6 ≤ p + 60 ∧ ls.length + k ≤ 8 ∧ (c = some 0 → ls.length = 0) ∧ H.length ≤ b ∧ Grown (H.set q (curB av y z)) L ∧ L[b]? = some (.cells (encL ls) true) ∧
      st = ⟨[.ptr (some (q, 0)), .slice none 0 0 none, slL b ls.length c, .int .i64 k, w4, w5, w6, w7, w8, w9, w10, w11], ⟨L, none⟩⟩) ?_ n _
    ⟨[], H.length, some 0, y1, z1, _, _, _, _, _, _, _, _, _, hy10, by omega, by simp; omega, fun _ => rfl, Nat.le_refl _, ⟨_, rfl⟩, by rw [blkAt_s0]; rfl, rfl⟩
  rintro k _ ⟨ls, b, c, y, z, L, w4, w5, w6, w7, w8, w9, w10, w11, hy0, hy1, hn, hcap, hb, hg, hL, rfl⟩
  have h4 := hg.curs h hy0
  have hqb : b ≠ q := by omega
  by_cases hk : k = 0
  · subst hk
    have hd : decide ((0 : Int) < ((0 : Nat) : Int)) = false := by decide
    have hd' : ¬ ((0 : Int) < ((0 : Nat) : Int)) := by omega
    by_cases h0 : ls.length = 0
    · have h0' : decide ((0 : Int) < (ls.length : Int)) = false := decide_eq_false (by omega)
      simp (maxSteps := 2000000) +contextual only [w_s_l1Cur_cargo_1, gt_iff_lt, hd, hd', h0', decide_false, Wp_some, Wp_none, Wp_ite, Wc_some, Wc_none, Wc_ite, Wp_thenRun, seqQ_normal, seqQ_exit, seqQ_ret, Wp_inBlock, blkQ_normal, blkQ_ret, blkQ_same, blkQ_exit, Wp_opThen, opQ_at, Wp_guardP, retQ_normal, retQ_ret, loopQ_normal, loopQ_exit, loopQ_ret, go_sem, entry, joinEsc, if_pos, reduceIte, Nat.reduceAdd, Nat.reduceLeDiff, Nat.reduceLT, Nat.reduceEqDiff]
      exact r ls b c y z L _ _ _ _ _ _ _ _ _ _ hy0 (by omega) (by omega) hb hg hL
    · have h0' : decide ((0 : Int) < (ls.length : Int)) = true := decide_eq_true (by omega)
      simp (maxSteps := 2000000) +contextual only [w_s_l1Cur_cargo_1, gt_iff_lt, hd, hd', h0', decide_true, decide_false, Wp_some, Wp_none, Wp_ite, Wc_some, Wc_none, Wc_ite, Wp_thenRun, seqQ_normal, seqQ_exit, seqQ_ret, Wp_inBlock, blkQ_normal, blkQ_ret, blkQ_same, blkQ_exit, Wp_opThen, opQ_at, Wp_guardP, retQ_normal, retQ_ret, loopQ_normal, loopQ_exit, loopQ_ret, go_sem, entry, joinEsc, if_pos, reduceIte, Nat.reduceAdd, Nat.reduceLeDiff, Nat.reduceLT, Nat.reduceEqDiff]
      refine (wc_pick 50 h4 (by omega) (by omega)).mono ?_
      rintro v m ⟨x5, y5, z5, rfl, hx50, hx51, hy50, hy51, rfl⟩
      have hg5 := hg.cur hl (curB av y5 z5)
      have h5 := hg5.curs h hy50
      have hL5 : (L.set q (curB av y5 z5))[b]? = some (.cells (encL ls) true) := by rw [List.getElem?_set_ne (fun e => hqb e.symm)]; exact hL
      have hlb : (L.set q (curB av y5 z5)).length = L.length := List.length_set
      generalize L.set q (curB av y5 z5) = L5 at *
      have hbl : b < L5.length := (List.getElem?_eq_some_iff.mp hL5).1
      have hLs : ∀ x X, (L5.set q x ++ X)[b]? = some (.cells (encL ls) true) := fun x X => by
        rw [List.getElem?_append_left (by rw [List.length_set]; exact hbl), List.getElem?_set_ne (fun e => hqb e.symm)]
        exact hL5
      have hll : ((2 : Nat) ≤ (encL ls).length) := by rw [encL_length]; omega
      by_cases c0 : x5 = 0
      · subst c0
        simp (maxSteps := 2000000) +contextual only [fillParts, decide_true, Wp_some, Wp_none, Wp_ite, Wc_some, Wc_none, Wc_ite, Wp_thenRun, seqQ_normal, seqQ_exit, seqQ_ret, Wp_inBlock, blkQ_normal, blkQ_ret, blkQ_same, blkQ_exit, Wp_opThen, opQ_at, Wp_guardP, retQ_normal, retQ_ret, loopQ_normal, loopQ_exit, loopQ_ret, go_sem, entry, joinEsc, if_pos, reduceIte, Nat.reduceAdd, Nat.reduceLeDiff, Nat.reduceLT, Nat.reduceEqDiff]
        refine (wc_pick (ls.length : Int) h5 (by omega) (by omega)).mono ?_
        rintro v m ⟨x6, y6, z6, rfl, hx60, hx61, hy60, hy61, rfl⟩
        obtain ⟨i, rfl⟩ : ∃ i : Nat, x6 = (i : Int) := ⟨x6.toNat, by omega⟩
        have hi : i < ls.length := by omega
        have h6 := h5.step hy60 z6
        simp (maxSteps := 2000000) +contextual only [fillParts, hi, cellsAt_s0, cellsAt_sk, blkAt_s0, blkAt_sk, set_s0, set_sk, set_sapp, set_app, List.set_set, List.length_set, finish_one_setG, finish_one_set0, clean_none', Nat.add_assoc, Wp_some, Wp_none, Wp_ite, Wc_some, Wc_none, Wc_ite, Wp_thenRun, seqQ_normal, seqQ_exit, seqQ_ret, Wp_inBlock, blkQ_normal, blkQ_ret, blkQ_same, blkQ_exit, Wp_opThen, opQ_at, Wp_guardP, retQ_normal, retQ_ret, loopQ_normal, loopQ_exit, loopQ_ret, go_sem, entry, joinEsc, if_pos, reduceIte, Nat.reduceAdd, Nat.reduceLeDiff, Nat.reduceLT, Nat.reduceEqDiff]
        refine (amongZ (n := 3) [-1, 60, 61] (h6.more _) (by omega) (by simp +contextual only [cellsAt_s0, cellsAt_sk, blkAt_s0, blkAt_sk, set_s0, set_sk, set_sapp, set_app, List.set_set, List.length_set, finish_one_setG, finish_one_set0, clean_none', Nat.add_assoc, go_sem, entry, joinEsc, if_pos, reduceIte, Nat.reduceAdd, Nat.reduceLeDiff, Nat.reduceLT, Nat.reduceEqDiff]) (by have := h5.lt; omega) rfl (by omega) (by omega)).mono ?_
        rintro v m ⟨x7, y7, z7, rfl, hx7, hy70, hy71, rfl⟩
        obtain ⟨ls', e1, e2⟩ := set_ld0 hi x7
        have hle : i * 2 + 1 ≤ ls.length * 2 := by omega
        simp (maxSteps := 2000000) +contextual only [fillParts, hi, hLs, h5.lt, e2, hle, encL_length, Nat.add_zero, cellsAt_s0, cellsAt_sk, blkAt_s0, blkAt_sk, set_s0, set_sk, set_sapp, set_app, List.set_set, List.length_set, finish_one_setG, finish_one_set0, clean_none', Nat.add_assoc, Wp_some, Wp_none, Wp_ite, Wc_some, Wc_none, Wc_ite, Wp_thenRun, seqQ_normal, seqQ_exit, seqQ_ret, Wp_inBlock, blkQ_normal, blkQ_ret, blkQ_same, blkQ_exit, Wp_opThen, opQ_at, Wp_guardP, retQ_normal, retQ_ret, loopQ_normal, loopQ_exit, loopQ_ret, go_sem, entry, joinEsc, if_pos, reduceIte, Nat.reduceAdd, Nat.reduceLeDiff, Nat.reduceLT, Nat.reduceEqDiff]
        rw [← e1]
        exact r ls' b c y7 z7 _ _ _ _ _ _ _ _ _ _ _ hy70 (by omega) (by omega) hb (((hg5.cur hl _).more _).put (by rw [List.length_set]; exact hb) _) (List.getElem?_set_self (by rw [List.length_append, List.length_set]; omega))
      · have c0' : decide (x5 = 0) = false := decide_eq_false c0
        by_cases c1 : x5 = 1
        · subst c1
          simp (maxSteps := 2000000) +contextual only [fillParts, c0', decide_true, Wp_some, Wp_none, Wp_ite, Wc_some, Wc_none, Wc_ite, Wp_thenRun, seqQ_normal, seqQ_exit, seqQ_ret, Wp_inBlock, blkQ_normal, blkQ_ret, blkQ_same, blkQ_exit, Wp_opThen, opQ_at, Wp_guardP, retQ_normal, retQ_ret, loopQ_normal, loopQ_exit, loopQ_ret, go_sem, entry, joinEsc, if_pos, reduceIte, Nat.reduceAdd, Nat.reduceLeDiff, Nat.reduceLT, Nat.reduceEqDiff]
          refine (wc_pick (ls.length : Int) h5 (by omega) (by omega)).mono ?_
          rintro v m ⟨x6, y6, z6, rfl, hx60, hx61, hy60, hy61, rfl⟩
          obtain ⟨i, rfl⟩ : ∃ i : Nat, x6 = (i : Int) := ⟨x6.toNat, by omega⟩
          have hi : i < ls.length := by omega
          have h6 := h5.step hy60 z6
          simp (maxSteps := 2000000) +contextual only [fillParts, hi, cellsAt_s0, cellsAt_sk, blkAt_s0, blkAt_sk, set_s0, set_sk, set_sapp, set_app, List.set_set, List.length_set, finish_one_setG, finish_one_set0, clean_none', Nat.add_assoc, Wp_some, Wp_none, Wp_ite, Wc_some, Wc_none, Wc_ite, Wp_thenRun, seqQ_normal, seqQ_exit, seqQ_ret, Wp_inBlock, blkQ_normal, blkQ_ret, blkQ_same, blkQ_exit, Wp_opThen, opQ_at, Wp_guardP, retQ_normal, retQ_ret, loopQ_normal, loopQ_exit, loopQ_ret, go_sem, entry, joinEsc, if_pos, reduceIte, Nat.reduceAdd, Nat.reduceLeDiff, Nat.reduceLT, Nat.reduceEqDiff]
          refine (amongZ (n := 3) [0, 99, 100] (h6.more _) (by omega) (by simp +contextual only [cellsAt_s0, cellsAt_sk, blkAt_s0, blkAt_sk, set_s0, set_sk, set_sapp, set_app, List.set_set, List.length_set, finish_one_setG, finish_one_set0, clean_none', Nat.add_assoc, go_sem, entry, joinEsc, if_pos, reduceIte, Nat.reduceAdd, Nat.reduceLeDiff, Nat.reduceLT, Nat.reduceEqDiff]) (by have := h5.lt; omega) rfl (by omega) (by omega)).mono ?_
          rintro v m ⟨x7, y7, z7, rfl, hx7, hy70, hy71, rfl⟩
          obtain ⟨ls', e1, e2⟩ := set_ld1 hi x7
          have hle : i * 2 + 1 + 1 ≤ ls.length * 2 := by omega
          simp (maxSteps := 2000000) +contextual only [fillParts, hi, hLs, h5.lt, e2, hle, encL_length, Nat.add_zero, cellsAt_s0, cellsAt_sk, blkAt_s0, blkAt_sk, set_s0, set_sk, set_sapp, set_app, List.set_set, List.length_set, finish_one_setG, finish_one_set0, clean_none', Nat.add_assoc, Wp_some, Wp_none, Wp_ite, Wc_some, Wc_none, Wc_ite, Wp_thenRun, seqQ_normal, seqQ_exit, seqQ_ret, Wp_inBlock, blkQ_normal, blkQ_ret, blkQ_same, blkQ_exit, Wp_opThen, opQ_at, Wp_guardP, retQ_normal, retQ_ret, loopQ_normal, loopQ_exit, loopQ_ret, go_sem, entry, joinEsc, if_pos, reduceIte, Nat.reduceAdd, Nat.reduceLeDiff, Nat.reduceLT, Nat.reduceEqDiff]
          rw [← e1]
          exact r ls' b c y7 z7 _ _ _ _ _ _ _ _ _ _ _ hy70 (by omega) (by omega) hb (((hg5.cur hl _).more _).put (by rw [List.length_set]; exact hb) _) (List.getElem?_set_self (by rw [List.length_append, List.length_set]; omega))
        · have c1' : decide (x5 = 1) = false := decide_eq_false c1
          by_cases c2 : x5 = 2
          · subst c2
            simp (maxSteps := 2000000) +contextual only [c0', c1', decide_true, Wp_some, Wp_none, Wp_ite, Wc_some, Wc_none, Wc_ite, Wp_thenRun, seqQ_normal, seqQ_exit, seqQ_ret, Wp_inBlock, blkQ_normal, blkQ_ret, blkQ_same, blkQ_exit, Wp_opThen, opQ_at, Wp_guardP, retQ_normal, retQ_ret, loopQ_normal, loopQ_exit, loopQ_ret, go_sem, entry, joinEsc, if_pos, reduceIte, Nat.reduceAdd, Nat.reduceLeDiff, Nat.reduceLT, Nat.reduceEqDiff]
            refine Wp_loop (fun k st => ∃ (ls : List Ld) (b : Nat) (c : Option Nat) (L : List Blk) (w1 w3 w4 w5 w6 w7 w8 w9 w10 w11 : AV), ls.length + k = 9 ∧ (c = some 0 → ls.length = 0) ∧ H.length ≤ b ∧ Grown (H.set q (curB av y5 z5)) L ∧ L[b]? = some (.cells (encL ls) true) ∧
                st = ⟨[.ptr (some (q, 0)), w1, slL b ls.length c, w3, w4, w5, w6, w7, w8, w9, w10, w11], ⟨L, none⟩⟩) ?_ (9 - ls.length) _
              ⟨ls, b, c, L5, _, _, _, _, _, _, _, _, _, _, by omega, hcap, hb, hg5, hL5, rfl⟩
            rintro k _ ⟨ls, b, c, L, w1, w3, w4, w5, w6, w7, w8, w9, w10, w11, hn, hcap, hb, hg, hL, rfl⟩
            by_cases hk : k = 0
            · have hd : decide ((ls.length : Int) < 9) = false := decide_eq_false (by omega)
              simp (maxSteps := 2000000) +contextual only [w_s_l1Cur_cargo_2, hd, Wp_some, Wp_none, Wp_ite, Wc_some, Wc_none, Wc_ite, Wp_thenRun, seqQ_normal, seqQ_exit, seqQ_ret, Wp_inBlock, blkQ_normal, blkQ_ret, blkQ_same, blkQ_exit, Wp_opThen, opQ_at, Wp_guardP, retQ_normal, retQ_ret, loopQ_normal, loopQ_exit, loopQ_ret, go_sem, entry, joinEsc, if_pos, reduceIte, Nat.reduceAdd, Nat.reduceLeDiff, Nat.reduceLT, Nat.reduceEqDiff]
              exact r ls b c y5 z5 L _ _ _ _ _ _ _ _ _ _ hy50 (by omega) (by omega) hb hg hL
            · have hd : decide ((ls.length : Int) < 9) = true := decide_eq_true (by omega)
              have hap := fun M q' c' (hb : M[b]? = some (Blk.cells (encL ls) true)) (hq : cellsAt M q' = some [AV.int .i64 5, AV.int .i64 1]) => apOne (e := none) (sz := 2) (bytes := 16) (n := ls.length) (cap := c) (c := c') hb hq (encL_length _) rfl (by unfold maxBytes; omega) hcap
              have hLs : ∀ X, (L ++ X)[b]? = some (.cells (encL ls) true) := fun X => get_more hL X
              simp (maxSteps := 2000000) +contextual only [w_s_l1Cur_cargo_2, fillParts, hd, hLs, hap, cellsAt_s0, cellsAt_sk, blkAt_s0, blkAt_sk, set_s0, set_sk, set_sapp, set_app, List.set_set, List.length_set, finish_one_setG, finish_one_set0, clean_none', Nat.add_assoc, Wp_some, Wp_none, Wp_ite, Wc_some, Wc_none, Wc_ite, Wp_thenRun, seqQ_normal, seqQ_exit, seqQ_ret, Wp_inBlock, blkQ_normal, blkQ_ret, blkQ_same, blkQ_exit, Wp_opThen, opQ_at, Wp_guardP, retQ_normal, retQ_ret, loopQ_normal, loopQ_exit, loopQ_ret, go_sem, entry, joinEsc, if_pos, reduceIte, Nat.reduceAdd, Nat.reduceLeDiff, Nat.reduceLT, Nat.reduceEqDiff]
              have hen : encL ls ++ [AV.int .i64 5, AV.int .i64 1] = encL (ls ++ [(5, 1)]) := by rw [encL_append]; rfl
              rw [hen, show ls.length + 1 = (ls ++ [(5, 1)]).length by simp]
              exact ⟨k - 1, by omega, ls ++ [(5, 1)], _, none, _, _, _, _, _, _, _, _, _, _, _, by rw [List.length_append, List.length_singleton]; omega, by simp, by have := hg.le; rw [List.length_set] at this; omega, ((hg.more _).kill (by rw [List.length_set]; exact hb) _).more _, last_get (by rw [killL_length]; simp) _, rfl⟩
          · have c2' : decide (x5 = 2) = false := decide_eq_false c2
            simp (maxSteps := 2000000) +contextual only [c0', c1', c2', decide_true, Wp_some, Wp_none, Wp_ite, Wc_some, Wc_none, Wc_ite, Wp_thenRun, seqQ_normal, seqQ_exit, seqQ_ret, Wp_inBlock, blkQ_normal, blkQ_ret, blkQ_same, blkQ_exit, Wp_opThen, opQ_at, Wp_guardP, retQ_normal, retQ_ret, loopQ_normal, loopQ_exit, loopQ_ret, go_sem, entry, joinEsc, if_pos, reduceIte, Nat.reduceAdd, Nat.reduceLeDiff, Nat.reduceLT, Nat.reduceEqDiff]
            exact r ls b c y5 z5 L5 _ _ _ _ _ _ _ _ _ _ hy50 (by omega) (by omega) hb hg5 hL5
  · have hd : decide ((0 : Int) < (k : Int)) = true := decide_eq_true (by omega)
    have hd' : (0 : Int) < (k : Int) := by omega
    have hwk : IntKind.i64.wrap ((k : Int) - 1) = ((k - 1 : Nat) : Int) := by
      rw [show ((k : Int) - 1) = ((k - 1 : Nat) : Int) by omega]; exact wrap64 (by omega) (by omega)
    simp (maxSteps := 2000000) +contextual only [w_s_l1Cur_cargo_1, gt_iff_lt, hd, hd', decide_true, Wp_some, Wp_none, Wp_ite, Wc_some, Wc_none, Wc_ite, Wp_thenRun, seqQ_normal, seqQ_exit, seqQ_ret, Wp_inBlock, blkQ_normal, blkQ_ret, blkQ_same, blkQ_exit, Wp_opThen, opQ_at, Wp_guardP, retQ_normal, retQ_ret, loopQ_normal, loopQ_exit, loopQ_ret, go_sem, entry, joinEsc, if_pos, reduceIte, Nat.reduceAdd, Nat.reduceLeDiff, Nat.reduceLT, Nat.reduceEqDiff]
    refine (wc_pick 16 h4 (by omega) (by omega)).mono ?_
    rintro v m ⟨x5, y5, z5, rfl, hx50, hx51, hy50, hy51, rfl⟩
    have h5 := h4.step hy50 z5
    have hql := h4.lt
    have hbl : b < L.length := (List.getElem?_eq_some_iff.mp hL).1
    have hLs : ∀ x X, (L.set q x ++ X)[b]? = some (.cells (encL ls) true) := fun x X => by
      rw [List.getElem?_append_left (by rw [List.length_set]; exact hbl), List.getElem?_set_ne (fun e => hqb e.symm)]
      exact hL
    simp (maxSteps := 2000000) +contextual only [fillParts, hql, cellsAt_s0, cellsAt_sk, blkAt_s0, blkAt_sk, set_s0, set_sk, set_sapp, set_app, List.set_set, List.length_set, finish_one_setG, finish_one_set0, clean_none', Nat.add_assoc, Wp_some, Wp_none, Wp_ite, Wc_some, Wc_none, Wc_ite, Wp_thenRun, seqQ_normal, seqQ_exit, seqQ_ret, Wp_inBlock, blkQ_normal, blkQ_ret, blkQ_same, blkQ_exit, Wp_opThen, opQ_at, Wp_guardP, retQ_normal, retQ_ret, loopQ_normal, loopQ_exit, loopQ_ret, go_sem, entry, joinEsc, if_pos, reduceIte, Nat.reduceAdd, Nat.reduceLeDiff, Nat.reduceLT, Nat.reduceEqDiff]
    refine (amongZ (n := 3) [2, 4, 9] (h5.more _) (by omega) (by simp +contextual only [cellsAt_s0, cellsAt_sk, blkAt_s0, blkAt_sk, set_s0, set_sk, set_sapp, set_app, List.set_set, List.length_set, finish_one_setG, finish_one_set0, clean_none', Nat.add_assoc, go_sem, entry, joinEsc, if_pos, reduceIte, Nat.reduceAdd, Nat.reduceLeDiff, Nat.reduceLT, Nat.reduceEqDiff]) (by omega) rfl (by omega) (by omega)).mono ?_
    rintro v m ⟨x6, y6, z6, rfl, hx6, hy60, hy61, rfl⟩
    have h6 := h5.step hy60 z6
    rw [List.set_set] at h6
    have hx6' : x6 ≤ 61 := by
      simp at hx6
      omega
    simp (maxSteps := 2000000) +contextual only [fillParts, hql, cellsAt_s0, cellsAt_sk, blkAt_s0, blkAt_sk, set_s0, set_sk, set_sapp, set_app, List.set_set, List.length_set, finish_one_setG, finish_one_set0, clean_none', Nat.add_assoc, Wp_some, Wp_none, Wp_ite, Wc_some, Wc_none, Wc_ite, Wp_thenRun, seqQ_normal, seqQ_exit, seqQ_ret, Wp_inBlock, blkQ_normal, blkQ_ret, blkQ_same, blkQ_exit, Wp_opThen, opQ_at, Wp_guardP, retQ_normal, retQ_ret, loopQ_normal, loopQ_exit, loopQ_ret, go_sem, entry, joinEsc, if_pos, reduceIte, Nat.reduceAdd, Nat.reduceLeDiff, Nat.reduceLT, Nat.reduceEqDiff]
    refine (wc_pick x6 (h6.more _) (by omega) (by omega)).mono ?_
    rintro v m ⟨x7, y7, z7, rfl, hx70, hx71, hy70, hy71, rfl⟩
    generalize hw : IntKind.i64.wrap (1 + x7) = w
    have hap := fun M q' c' (hb : M[b]? = some (Blk.cells (encL ls) true)) (hq : cellsAt M q' = some [AV.int .i64 x5, AV.int .i64 w]) => apOne (e := none) (sz := 2) (bytes := 16) (n := ls.length) (cap := c) (c := c') hb hq (encL_length _) rfl (by unfold maxBytes; omega) hcap
    simp (maxSteps := 2000000) +contextual only [fillParts, hql, hLs, hap, hwk, hw, cellsAt_s0, cellsAt_sk, blkAt_s0, blkAt_sk, set_s0, set_sk, set_sapp, set_app, List.set_set, List.length_set, finish_one_setG, finish_one_set0, clean_none', Nat.add_assoc, Wp_some, Wp_none, Wp_ite, Wc_some, Wc_none, Wc_ite, Wp_thenRun, seqQ_normal, seqQ_exit, seqQ_ret, Wp_inBlock, blkQ_normal, blkQ_ret, blkQ_same, blkQ_exit, Wp_opThen, opQ_at, Wp_guardP, retQ_normal, retQ_ret, loopQ_normal, loopQ_exit, loopQ_ret, go_sem, entry, joinEsc, if_pos, reduceIte, Nat.reduceAdd, Nat.reduceLeDiff, Nat.reduceLT, Nat.reduceEqDiff]
    have hen : encL ls ++ [AV.int .i64 x5, AV.int .i64 w] = encL (ls ++ [(x5, w)]) := by rw [encL_append]; rfl
    rw [hen, show ls.length + 1 = (ls ++ [(x5, w)]).length by simp]
    exact ⟨k - 1, by omega, ls ++ [(x5, w)], _, none, y7, z7, _, _, _, _, _, _, _, _, _, hy70, by omega, by rw [List.length_append, List.length_singleton]; omega, by simp, by have := hg.le; rw [List.length_set] at this; omega, (((hg.cur hl _).more _).kill (by rw [List.length_set]; exact hb) _).more _, last_get (by rw [killL_length]; simp) _, rfl⟩

set_option maxHeartbeats 4000000 in
theorem wc_setOf {q b0 n : Nat} {c0 : Option Nat} {av : AV} {p : Int} (h : Cu H q av p) (hp : p ≤ 1000000000) : Wc (call T pr f_s_l1Cur_setOf [.ptr (some (q, 0)), slL b0 n c0] ⟨H, e⟩) (fun v m => ∃ (os : List Int) (c : Option Nat) (y z : Int), v = slI H.length os.length c ∧ os.length ≤ 10 ∧ 0 ≤ y ∧ y ≤ p + 300 ∧ m = ⟨H.set q (curB av y z) ++ [.cells (encI os) true], e⟩) := by
  have hl := h.lt
  rw [call_wc t_s_l1Cur_setOf]
  obtain ⟨R, hR⟩ : ∃ R, R = seqTl (seqTl (seqTl c_s_l1Cur_setOf)) := ⟨_, rfl⟩
  have hc : c_s_l1Cur_setOf = .seq (seqHd c_s_l1Cur_setOf) (.seq (seqHd (seqTl c_s_l1Cur_setOf)) (.seq (seqHd (seqTl (seqTl c_s_l1Cur_setOf))) R)) := by rw [hR]; rfl
  have hend : ∀ (os : List Int) (b : Nat) (c : Option Nat) (y z : Int) (L : List Blk), H.length ≤ b → Grown (H.set q (curB av y z)) L → L[b]? = some (.cells (encI os) true) → finish 2 H.length e (slI b os.length c) ⟨L, none⟩ = some (slI H.length os.length c, ⟨H.set q (curB av y z) ++ [.cells (encI os) true], e⟩) := fun os b c y z L hb hg hL => finish_sl_set hg e none rfl hb hL (under_encI _ _)
  have r : ∀ (os : List Int) (b : Nat) (c : Option Nat) (y z : Int) (L : List Blk) (w2 w4 w5 w6 w7 : AV), 0 ≤ y → y ≤ p + 200 → os.length ≤ 9 → (c = some 0 → os.length = 0) → H.length ≤ b → Grown (H.set q (curB av y z)) L → L[b]? = some (.cells (encI os) true) →
      Wp (run T pr R ⟨[.ptr (some (q, 0)), slL b0 n c0, w2, slI b os.length c, w4, w5, w6, w7], ⟨L, none⟩⟩) (retQ a_s_l1Cur_setOf ⟨H, e⟩ fun v m => ∃ (os : List Int) (c : Option Nat) (y z : Int), v = slI H.length os.length c ∧ os.length ≤ 10 ∧ 0 ≤ y ∧ y ≤ p + 300 ∧ m = ⟨H.set q (curB av y z) ++ [.cells (encI os) true], e⟩) := by
    rintro os b c y z L w2 w4 w5 w6 w7 hy0 hy1 hn hcap hb hg hL
    have h4 := hg.curs h hy0
    have hql := h4.lt
    have hqb : b ≠ q := by omega
    rw [hR]
    simp (maxSteps := 2000000) +contextual only [a_s_l1Cur_setOf, c_s_l1Cur_setOf, seqTl, seqHd, Wp_some, Wp_none, Wp_ite, Wc_some, Wc_none, Wc_ite, Wp_thenRun, seqQ_normal, seqQ_exit, seqQ_ret, Wp_inBlock, blkQ_normal, blkQ_ret, blkQ_same, blkQ_exit, Wp_opThen, opQ_at, Wp_guardP, retQ_normal, retQ_ret, loopQ_normal, loopQ_exit, loopQ_ret, go_sem, entry, joinEsc, if_pos, reduceIte, Nat.reduceAdd, Nat.reduceLeDiff, Nat.reduceLT, Nat.reduceEqDiff]
    refine (wc_one 24 h4 (by omega) (by omega)).mono ?_
    rintro v m ⟨x, y1, z1, rfl, hy10, hy11, rfl⟩
    have h5 := h4.step hy10 z1
    have hg1 := hg.cur hl (curB av y1 z1)
    have hL1 : (L.set q (curB av y1 z1))[b]? = some (.cells (encI os) true) := by rw [List.getElem?_set_ne (fun e => hqb e.symm)]; exact hL
    cases x with
    | false =>
      have hf := hend os b c y1 z1 _ hb hg1 hL1
      simp (maxSteps := 2000000) +contextual only [hf, Wp_some, Wp_none, Wp_ite, Wc_some, Wc_none, Wc_ite, Wp_thenRun, seqQ_normal, seqQ_exit, seqQ_ret, Wp_inBlock, blkQ_normal, blkQ_ret, blkQ_same, blkQ_exit, Wp_opThen, opQ_at, Wp_guardP, retQ_normal, retQ_ret, loopQ_normal, loopQ_exit, loopQ_ret, go_sem, entry, joinEsc, if_pos, reduceIte, Nat.reduceAdd, Nat.reduceLeDiff, Nat.reduceLT, Nat.reduceEqDiff]
      exact ⟨os, c, y1, z1, rfl, by omega, hy10, by omega, rfl⟩
    | true =>
      simp (maxSteps := 2000000) +contextual only [fillParts, cellsAt_s0, cellsAt_sk, blkAt_s0, blkAt_sk, set_s0, set_sk, set_sapp, set_app, List.set_set, List.length_set, finish_one_setG, finish_one_set0, clean_none', Nat.add_assoc, Wp_some, Wp_none, Wp_ite, Wc_some, Wc_none, Wc_ite, Wp_thenRun, seqQ_normal, seqQ_exit, seqQ_ret, Wp_inBlock, blkQ_normal, blkQ_ret, blkQ_same, blkQ_exit, Wp_opThen, opQ_at, Wp_guardP, retQ_normal, retQ_ret, loopQ_normal, loopQ_exit, loopQ_ret, go_sem, entry, joinEsc, if_pos, reduceIte, Nat.reduceAdd, Nat.reduceLeDiff, Nat.reduceLT, Nat.reduceEqDiff]
      refine (amongZ (n := 3) [-1, 0, (n : Int)] (h5.more _) (by omega) (by simp +contextual only [cellsAt_s0, cellsAt_sk, blkAt_s0, blkAt_sk, set_s0, set_sk, set_sapp, set_app, List.set_set, List.length_set, finish_one_setG, finish_one_set0, clean_none', Nat.add_assoc, go_sem, entry, joinEsc, if_pos, reduceIte, Nat.reduceAdd, Nat.reduceLeDiff, Nat.reduceLT, Nat.reduceEqDiff]) (by omega) rfl (by omega) (by omega)).mono ?_
      rintro v m ⟨x2, y2, z2, rfl, hx2, hy20, hy21, rfl⟩
      have hg2 := hg.cur hl (curB av y2 z2)
      have hL2 : (L.set q (curB av y2 z2))[b]? = some (.cells (encI os) true) := by rw [List.getElem?_set_ne (fun e => hqb e.symm)]; exact hL
      simp (maxSteps := 2000000) +contextual only [fillParts, hql, cellsAt_s0, cellsAt_sk, blkAt_s0, blkAt_sk, set_s0, set_sk, set_sapp, set_app, List.set_set, List.length_set, finish_one_setG, finish_one_set0, clean_none', Nat.add_assoc, Wp_some, Wp_none, Wp_ite, Wc_some, Wc_none, Wc_ite, Wp_thenRun, seqQ_normal, seqQ_exit, seqQ_ret, Wp_inBlock, blkQ_normal, blkQ_ret, blkQ_same, blkQ_exit, Wp_opThen, opQ_at, Wp_guardP, retQ_normal, retQ_ret, loopQ_normal, loopQ_exit, loopQ_ret, go_sem, entry, joinEsc, if_pos, reduceIte, Nat.reduceAdd, Nat.reduceLeDiff, Nat.reduceLT, Nat.reduceEqDiff]
      refine wc_ap (k := 1) (new := [.int .i64 x2]) (get_more hL2 _) (src_new _ 1 1 _ _ (L.length + 1) (by simp +contextual only [cellsAt_s0, cellsAt_sk, blkAt_s0, blkAt_sk, set_s0, set_sk, set_sapp, set_app, List.set_set, List.length_set, finish_one_setG, finish_one_set0, clean_none', Nat.add_assoc, go_sem, entry, joinEsc, if_pos, reduceIte, Nat.reduceAdd, Nat.reduceLeDiff, Nat.reduceLT, Nat.reduceEqDiff]) rfl) (by simp) rfl (by unfold maxBytes; omega) hcap ?_
      intro L2 e1 e2 e3 e4
      have ea : (L.set q (curB av y2 z2) ++ [.cells [AV.int IntKind.i64 (-1), AV.int IntKind.i64 0, AV.int IntKind.i64 ↑n] true, Blk.cells [AV.int IntKind.i64 x2] true]).length = L.length + 2 := by simp
      have hen : encI os ++ [AV.int .i64 x2] = encI (os ++ [x2]) := by simp [encI]
      rw [hen, ea] at e3
      rw [ea]
      have hf := hend (os ++ [x2]) _ none y2 z2 L2 (by have := hg.le; rw [List.length_set] at this; omega) (e4 _ (hg2.more _) (by rw [List.length_set]; exact hb)) e3
      rw [show (os ++ [x2]).length = os.length + 1 by simp] at hf
      simp (maxSteps := 2000000) +contextual only [hf, Wp_some, Wp_none, Wp_ite, Wc_some, Wc_none, Wc_ite, Wp_thenRun, seqQ_normal, seqQ_exit, seqQ_ret, Wp_inBlock, blkQ_normal, blkQ_ret, blkQ_same, blkQ_exit, Wp_opThen, opQ_at, Wp_guardP, retQ_normal, retQ_ret, loopQ_normal, loopQ_exit, loopQ_ret, go_sem, entry, joinEsc, if_pos, reduceIte, Nat.reduceAdd, Nat.reduceLeDiff, Nat.reduceLT, Nat.reduceEqDiff]
      exact ⟨os ++ [x2], none, y2, z2, by rw [List.length_append, List.length_singleton], by rw [List.length_append, List.length_singleton]; omega, hy20, by omega, rfl⟩
  show Wp (run T pr c_s_l1Cur_setOf _) _
  rw [hc]
  simp (maxSteps := 2000000) +contextual only [a_s_l1Cur_setOf, c_s_l1Cur_setOf, seqTl, seqHd, fillParts, cellsAt_s0, cellsAt_sk, blkAt_s0, blkAt_sk, set_s0, set_sk, set_sapp, set_app, List.set_set, List.length_set, finish_one_setG, finish_one_set0, clean_none', Nat.add_assoc, Wp_some, Wp_none, Wp_ite, Wc_some, Wc_none, Wc_ite, Wp_thenRun, seqQ_normal, seqQ_exit, seqQ_ret, Wp_inBlock, blkQ_normal, blkQ_ret, blkQ_same, blkQ_exit, Wp_opThen, opQ_at, Wp_guardP, retQ_normal, retQ_ret, loopQ_normal, loopQ_exit, loopQ_ret, go_sem, entry, joinEsc, if_pos, reduceIte, Nat.reduceAdd, Nat.reduceLeDiff, Nat.reduceLT, Nat.reduceEqDiff]
  refine Wp_loop (fun k st => ∃ (i : Nat) (os : List Int) (b : Nat) (c : Option Nat) (y z : Int) (L : List Blk) (w5 w6 w7 : AV), 0 ≤ y ∧ y + (k : Int) * 2 ≤ p + 40 ∧ i + k = 9 ∧ os.length ≤ i ∧ (c = some 0 → os.length = 0) ∧ H.length ≤ b ∧ Grown (H.set q (curB av y z)) L ∧ L[b]? = some (.cells (encI os) true) ∧
      st = ⟨[.ptr (some (q, 0)), slL b0 n c0, .slice none 0 0 none, slI b os.length c, .int .i64 i, w5, w6, w7], ⟨L, none⟩⟩) ?_ 9 _ ?_
  · rintro k _ ⟨i, os, b, c, y, z, L, w5, w6, w7, hy0, hy1, hik, hn, hcap, hb, hg, hL, rfl⟩
    have h4 := hg.curs h hy0
    have hql := h4.lt
    have hqb : b ≠ q := by omega
    have hle := hg.le
    rw [List.length_set] at hle
    by_cases hk1 : i < n
    · have hd1 : decide ((i : Int) < (n : Int)) = true := decide_eq_true (by omega)
      by_cases hk2 : i < 9
      · have hd2 : decide ((i : Int) < 9) = true := decide_eq_true (by omega)
        have hd3 : (i : Int) < 9 := by omega
        have hwi := wrap_succ (show i < 9223372036854775807 by omega)
        simp (maxSteps := 2000000) +contextual only [w_s_l1Cur_setOf_1, hk1, hd1, hd2, hd3, decide_true, Wp_some, Wp_none, Wp_ite, Wc_some, Wc_none, Wc_ite, Wp_thenRun, seqQ_normal, seqQ_exit, seqQ_ret, Wp_inBlock, blkQ_normal, blkQ_ret, blkQ_same, blkQ_exit, Wp_opThen, opQ_at, Wp_guardP, retQ_normal, retQ_ret, loopQ_normal, loopQ_exit, loopQ_ret, go_sem, entry, joinEsc, if_pos, reduceIte, Nat.reduceAdd, Nat.reduceLeDiff, Nat.reduceLT, Nat.reduceEqDiff]
        refine (wc_one 2 h4 (by omega) (by omega)).mono ?_
        rintro v m ⟨x, y1, z1, rfl, hy10, hy11, rfl⟩
        have hg1 := hg.cur hl (curB av y1 z1)
        have hL1 : (L.set q (curB av y1 z1))[b]? = some (.cells (encI os) true) := by rw [List.getElem?_set_ne (fun e => hqb e.symm)]; exact hL
        have hl1 : (L.set q (curB av y1 z1)).length = L.length := List.length_set
        generalize L.set q (curB av y1 z1) = L1 at *
        cases x with
        | false =>
          simp (maxSteps := 2000000) +contextual only [hwi, Wp_some, Wp_none, Wp_ite, Wc_some, Wc_none, Wc_ite, Wp_thenRun, seqQ_normal, seqQ_exit, seqQ_ret, Wp_inBlock, blkQ_normal, blkQ_ret, blkQ_same, blkQ_exit, Wp_opThen, opQ_at, Wp_guardP, retQ_normal, retQ_ret, loopQ_normal, loopQ_exit, loopQ_ret, go_sem, entry, joinEsc, if_pos, reduceIte, Nat.reduceAdd, Nat.reduceLeDiff, Nat.reduceLT, Nat.reduceEqDiff]
          exact ⟨k - 1, by omega, i + 1, os, b, c, y1, z1, L1, _, _, _, hy10, by omega, by omega, by omega, hcap, hb, hg1, hL1, rfl⟩
        | true =>
          simp (maxSteps := 2000000) +contextual only [fillParts, hwi, Wp_some, Wp_none, Wp_ite, Wc_some, Wc_none, Wc_ite, Wp_thenRun, seqQ_normal, seqQ_exit, seqQ_ret, Wp_inBlock, blkQ_normal, blkQ_ret, blkQ_same, blkQ_exit, Wp_opThen, opQ_at, Wp_guardP, retQ_normal, retQ_ret, loopQ_normal, loopQ_exit, loopQ_ret, go_sem, entry, joinEsc, if_pos, reduceIte, Nat.reduceAdd, Nat.reduceLeDiff, Nat.reduceLT, Nat.reduceEqDiff]
          refine wc_ap (k := 1) (new := [.int .i64 i]) (get_more hL1 _) (src_new _ 1 1 _ _ L1.length (by simp +contextual only [go_sem, entry, joinEsc, if_pos, reduceIte, Nat.reduceAdd, Nat.reduceLeDiff, Nat.reduceLT, Nat.reduceEqDiff]) rfl) (by simp) rfl (by unfold maxBytes; omega) hcap ?_
          intro L2 e1 e2 e3 e4
          have hen : encI os ++ [AV.int .i64 i] = encI (os ++ [(i : Int)]) := by simp [encI]
          rw [hen] at e3
          simp (maxSteps := 2000000) +contextual only [hwi, Wp_some, Wp_none, Wp_ite, Wc_some, Wc_none, Wc_ite, Wp_thenRun, seqQ_normal, seqQ_exit, seqQ_ret, Wp_inBlock, blkQ_normal, blkQ_ret, blkQ_same, blkQ_exit, Wp_opThen, opQ_at, Wp_guardP, retQ_normal, retQ_ret, loopQ_normal, loopQ_exit, loopQ_ret, go_sem, entry, joinEsc, if_pos, reduceIte, Nat.reduceAdd, Nat.reduceLeDiff, Nat.reduceLT, Nat.reduceEqDiff]
          rw [show os.length + 1 = (os ++ [(i : Int)]).length by simp]
          exact ⟨k - 1, by omega, i + 1, os ++ [(i : Int)], _, none, y1, z1, L2, _, _, _, hy10, by omega, by omega, by rw [List.length_append, List.length_singleton]; omega, by simp, by omega, e4 _ (hg1.more _) (by rw [List.length_set]; exact hb), by simpa using e3, rfl⟩
      · have hd2 : decide ((i : Int) < 9) = false := decide_eq_false (by omega)
        have hd3 : ¬ (i : Int) < 9 := by omega
        simp (maxSteps := 2000000) +contextual only [w_s_l1Cur_setOf_1, hk1, hd1, hd2, hd3, decide_true, decide_false, Wp_some, Wp_none, Wp_ite, Wc_some, Wc_none, Wc_ite, Wp_thenRun, seqQ_normal, seqQ_exit, seqQ_ret, Wp_inBlock, blkQ_normal, blkQ_ret, blkQ_same, blkQ_exit, Wp_opThen, opQ_at, Wp_guardP, retQ_normal, retQ_ret, loopQ_normal, loopQ_exit, loopQ_ret, go_sem, entry, joinEsc, if_pos, reduceIte, Nat.reduceAdd, Nat.reduceLeDiff, Nat.reduceLT, Nat.reduceEqDiff]
        exact r os b c y z L _ _ _ _ _ hy0 (by omega) (by omega) hcap hb hg hL
    · have hd1 : decide ((i : Int) < (n : Int)) = false := decide_eq_false (by omega)
      simp (maxSteps := 2000000) +contextual only [w_s_l1Cur_setOf_1, hk1, hd1, decide_true, decide_false, Wp_some, Wp_none, Wp_ite, Wc_some, Wc_none, Wc_ite, Wp_thenRun, seqQ_normal, seqQ_exit, seqQ_ret, Wp_inBlock, blkQ_normal, blkQ_ret, blkQ_same, blkQ_exit, Wp_opThen, opQ_at, Wp_guardP, retQ_normal, retQ_ret, loopQ_normal, loopQ_exit, loopQ_ret, go_sem, entry, joinEsc, if_pos, reduceIte, Nat.reduceAdd, Nat.reduceLeDiff, Nat.reduceLT, Nat.reduceEqDiff]
      exact r os b c y z L _ _ _ _ _ hy0 (by omega) (by omega) hcap hb hg hL
  · obtain ⟨w, hw, _⟩ := h.cells
    exact ⟨0, [], H.length, some 0, p, w, _, _, _, _, h.2.2, by omega, by omega, by simp, fun _ => rfl, Nat.le_refl _, by rw [set_self_at hw]; exact ⟨_, rfl⟩, by simp +contextual only [go_sem, entry, joinEsc, if_pos, reduceIte, Nat.reduceAdd, Nat.reduceLeDiff, Nat.reduceLT, Nat.reduceEqDiff], rfl⟩

theorem orderFor_hd {L : List Blk} {b i : Nat} {os : List Int} {c : Option Nat} (hb : cellsAt L b = some (encI os)) (hk : i ≤ os.length) : srcCells false L (.slice (some (b, 0)) 1 i c) = some (i, encI (os.take i)) := by
  have := src_part (L := L) (q := b) (sz := 1) (o := 0) (k := i) (n := 0) c hb (by simp; omega)
  rw [Nat.zero_mul, Nat.mul_one, List.drop_zero] at this
  rw [this, encI, ← List.map_take]

theorem orderFor_tl {L : List Blk} {b i : Nat} {os : List Int} {c : Option Nat} (hb : cellsAt L b = some (encI os)) (hk : i ≤ os.length) : srcCells false L (.slice (some (b, i)) 1 (os.length - i) c) = some (os.length - i, encI (os.drop i)) := by
  have := src_part (L := L) (q := b) (sz := 1) (o := i) (k := os.length - i) (n := 0) c hb (by simp; omega)
  rw [Nat.mul_one, Nat.mul_one, List.take_of_length_le (by simp)] at this
  rw [this, encI, ← List.map_drop]

set_option maxHeartbeats 4000000 in
theorem wc_orderFor {q b0 n : Nat} {c0 : Option Nat} {av : AV} {p : Int} (h : Cu H q av p) (hp : p ≤ 1000000000) : Wc (call T pr f_s_l1Cur_orderFor [.ptr (some (q, 0)), slL b0 n c0] ⟨H, e⟩) (fun v m => ∃ (os : List Int) (c : Option Nat) (y z : Int), v = slI H.length os.length c ∧ os.length ≤ 10 ∧ 0 ≤ y ∧ y ≤ p + 300 ∧ m = ⟨H.set q (curB av y z) ++ [.cells (encI os) true], e⟩) := by
  have hl := h.lt
  rw [call_wc t_s_l1Cur_orderFor]
  obtain ⟨R, hR⟩ : ∃ R, R = seqTl (seqTl (seqTl c_s_l1Cur_orderFor)) := ⟨_, rfl⟩
  have hc : c_s_l1Cur_orderFor = .seq (seqHd c_s_l1Cur_orderFor) (.seq (seqHd (seqTl c_s_l1Cur_orderFor)) (.seq (seqHd (seqTl (seqTl c_s_l1Cur_orderFor))) R)) := by rw [hR]; rfl
  have hend : ∀ (os : List Int) (b : Nat) (c : Option Nat) (y z : Int) (L : List Blk), H.length ≤ b → Grown (H.set q (curB av y z)) L → L[b]? = some (.cells (encI os) true) → finish 2 H.length e (slI b os.length c) ⟨L, none⟩ = some (slI H.length os.length c, ⟨H.set q (curB av y z) ++ [.cells (encI os) true], e⟩) := fun os b c y z L hb hg hL => finish_sl_set hg e none rfl hb hL (under_encI _ _)
  have r : ∀ (os : List Int) (b : Nat) (c : Option Nat) (y z : Int) (L : List Blk) (w2 w4 w5 w6 w7 : AV), 0 ≤ y → y ≤ p + 200 → os.length ≤ 9 → H.length ≤ b → Grown (H.set q (curB av y z)) L → L[b]? = some (.cells (encI os) true) →
      Wp (run T pr R ⟨[.ptr (some (q, 0)), slL b0 n c0, w2, slI b os.length c, w4, w5, w6, w7], ⟨L, none⟩⟩) (retQ a_s_l1Cur_orderFor ⟨H, e⟩ fun v m => ∃ (os : List Int) (c : Option Nat) (y z : Int), v = slI H.length os.length c ∧ os.length ≤ 10 ∧ 0 ≤ y ∧ y ≤ p + 300 ∧ m = ⟨H.set q (curB av y z) ++ [.cells (encI os) true], e⟩) := by
    rintro os b c y z L w2 w4 w5 w6 w7 hy0 hy1 hn hb hg hL
    have h4 := hg.curs h hy0
    have hql := h4.lt
    have hqb : b ≠ q := by omega
    have hbl : b < L.length := (List.getElem?_eq_some_iff.mp hL).1
    rw [hR]
    by_cases h0 : os.length = 0
    · have hd : decide ((0 : Int) < (os.length : Int)) = false := decide_eq_false (by omega)
      have hd' : ¬ 0 < os.length := by omega
      have hf := hend os b c y z _ hb hg hL
      simp (maxSteps := 2000000) +contextual only [a_s_l1Cur_orderFor, c_s_l1Cur_orderFor, seqTl, seqHd, gt_iff_lt, hd, hd', hf, Wp_some, Wp_none, Wp_ite, Wc_some, Wc_none, Wc_ite, Wp_thenRun, seqQ_normal, seqQ_exit, seqQ_ret, Wp_inBlock, blkQ_normal, blkQ_ret, blkQ_same, blkQ_exit, Wp_opThen, opQ_at, Wp_guardP, retQ_normal, retQ_ret, loopQ_normal, loopQ_exit, loopQ_ret, go_sem, entry, joinEsc, if_pos, reduceIte, Nat.reduceAdd, Nat.reduceLeDiff, Nat.reduceLT, Nat.reduceEqDiff]
      exact ⟨os, c, y, z, rfl, by omega, hy0, by omega, rfl⟩
    · have hd : decide ((0 : Int) < (os.length : Int)) = true := decide_eq_true (by omega)
      have hd' : 0 < os.length := by omega
      simp (maxSteps := 2000000) +contextual only [a_s_l1Cur_orderFor, c_s_l1Cur_orderFor, seqTl, seqHd, gt_iff_lt, hd, hd', Wp_some, Wp_none, Wp_ite, Wc_some, Wc_none, Wc_ite, Wp_thenRun, seqQ_normal, seqQ_exit, seqQ_ret, Wp_inBlock, blkQ_normal, blkQ_ret, blkQ_same, blkQ_exit, Wp_opThen, opQ_at, Wp_guardP, retQ_normal, retQ_ret, loopQ_normal, loopQ_exit, loopQ_ret, go_sem, entry, joinEsc, if_pos, reduceIte, Nat.reduceAdd, Nat.reduceLeDiff, Nat.reduceLT, Nat.reduceEqDiff]
      refine (wc_one 20 h4 (by omega) (by omega)).mono ?_
      rintro v m ⟨x, y1, z1, rfl, hy10, hy11, rfl⟩
      have h5 := h4.step hy10 z1
      have hg1 := hg.cur hl (curB av y1 z1)
      have hL1 : (L.set q (curB av y1 z1))[b]? = some (.cells (encI os) true) := by rw [List.getElem?_set_ne (fun e => hqb e.symm)]; exact hL
      cases x with
      | false =>
        have hf := hend os b c y1 z1 _ hb hg1 hL1
        simp (maxSteps := 2000000) +contextual only [hf, Wp_some, Wp_none, Wp_ite, Wc_some, Wc_none, Wc_ite, Wp_thenRun, seqQ_normal, seqQ_exit, seqQ_ret, Wp_inBlock, blkQ_normal, blkQ_ret, blkQ_same, blkQ_exit, Wp_opThen, opQ_at, Wp_guardP, retQ_normal, retQ_ret, loopQ_normal, loopQ_exit, loopQ_ret, go_sem, entry, joinEsc, if_pos, reduceIte, Nat.reduceAdd, Nat.reduceLeDiff, Nat.reduceLT, Nat.reduceEqDiff]
        exact ⟨os, c, y1, z1, rfl, by omega, hy10, by omega, rfl⟩
      | true =>
        simp (maxSteps := 2000000) +contextual only [fillParts, cellsAt_s0, cellsAt_sk, blkAt_s0, blkAt_sk, set_s0, set_sk, set_sapp, set_app, List.set_set, List.length_set, finish_one_setG, finish_one_set0, clean_none', Nat.add_assoc, Wp_some, Wp_none, Wp_ite, Wc_some, Wc_none, Wc_ite, Wp_thenRun, seqQ_normal, seqQ_exit, seqQ_ret, Wp_inBlock, blkQ_normal, blkQ_ret, blkQ_same, blkQ_exit, Wp_opThen, opQ_at, Wp_guardP, retQ_normal, retQ_ret, loopQ_normal, loopQ_exit, loopQ_ret, go_sem, entry, joinEsc, if_pos, reduceIte, Nat.reduceAdd, Nat.reduceLeDiff, Nat.reduceLT, Nat.reduceEqDiff]
        refine (amongZ (n := 4) [0, 1, -1, (n : Int)] (h5.more _) (by omega) (by simp +contextual only [cellsAt_s0, cellsAt_sk, blkAt_s0, blkAt_sk, set_s0, set_sk, set_sapp, set_app, List.set_set, List.length_set, finish_one_setG, finish_one_set0, clean_none', Nat.add_assoc, go_sem, entry, joinEsc, if_pos, reduceIte, Nat.reduceAdd, Nat.reduceLeDiff, Nat.reduceLT, Nat.reduceEqDiff]) (by omega) rfl (by omega) (by omega)).mono ?_
        rintro v m ⟨x2, y2, z2, rfl, hx2, hy20, hy21, rfl⟩
        have hg2 := hg.cur hl (curB av y2 z2)
        have hLs : ∀ x X, (L.set q x ++ X)[b]? = some (.cells (encI os) true) := fun x X => by
          rw [List.getElem?_append_left (by rw [List.length_set]; exact hbl), List.getElem?_set_ne (fun e => hqb e.symm)]
          exact hL
        have hsr : setRange (encI os) 0 [.int .i64 x2] = encI (os.set 0 x2) := setRange_encI hd'
        have hi1 : 1 ≤ (encI os).length := by rw [encI, List.length_map]; omega
        have hg3 := (hg2.more [.cells [AV.int .i64 0, AV.int .i64 1, AV.int .i64 (-1), AV.int .i64 n] true]).put (b := b) (by rw [List.length_set]; exact hb) (.cells (encI (os.set 0 x2)) true)
        have hf := hend (os.set 0 x2) b c y2 z2 _ hb hg3 (List.getElem?_set_self (by rw [List.length_append, List.length_set]; omega))
        rw [List.length_set] at hf
        simp (maxSteps := 2000000) +contextual only [fillParts, hql, hLs, hsr, hi1, hd', show (0 : Int) < (os.length : Int) by omega, Int.le_refl, hf, Int.toNat_zero, Nat.zero_mul, Nat.lt_irrefl, Int.lt_irrefl, cellsAt_s0, cellsAt_sk, blkAt_s0, blkAt_sk, set_s0, set_sk, set_sapp, set_app, List.set_set, List.length_set, finish_one_setG, finish_one_set0, clean_none', Nat.add_assoc, Wp_some, Wp_none, Wp_ite, Wc_some, Wc_none, Wc_ite, Wp_thenRun, seqQ_normal, seqQ_exit, seqQ_ret, Wp_inBlock, blkQ_normal, blkQ_ret, blkQ_same, blkQ_exit, Wp_opThen, opQ_at, Wp_guardP, retQ_normal, retQ_ret, loopQ_normal, loopQ_exit, loopQ_ret, go_sem, entry, joinEsc, if_pos, reduceIte, Nat.reduceAdd, Nat.reduceLeDiff, Nat.reduceLT, Nat.reduceEqDiff]
        exact ⟨os.set 0 x2, c, y2, z2, by rw [List.length_set], by rw [List.length_set]; omega, hy20, by omega, rfl⟩
  show Wp (run T pr c_s_l1Cur_orderFor _) _
  rw [hc]
  simp (maxSteps := 2000000) +contextual only [a_s_l1Cur_orderFor, c_s_l1Cur_orderFor, seqTl, seqHd, fillParts, cellsAt_s0, cellsAt_sk, blkAt_s0, blkAt_sk, set_s0, set_sk, set_sapp, set_app, List.set_set, List.length_set, finish_one_setG, finish_one_set0, clean_none', Nat.add_assoc, Wp_some, Wp_none, Wp_ite, Wc_some, Wc_none, Wc_ite, Wp_thenRun, seqQ_normal, seqQ_exit, seqQ_ret, Wp_inBlock, blkQ_normal, blkQ_ret, blkQ_same, blkQ_exit, Wp_opThen, opQ_at, Wp_guardP, retQ_normal, retQ_ret, loopQ_normal, loopQ_exit, loopQ_ret, go_sem, entry, joinEsc, if_pos, reduceIte, Nat.reduceAdd, Nat.reduceLeDiff, Nat.reduceLT, Nat.reduceEqDiff]
  refine Wp_loop (fun k st => ∃ (i : Nat) (os : List Int) (b : Nat) (c : Option Nat) (y z : Int) (L : List Blk) (w5 w6 w7 : AV), 0 ≤ y ∧ y + (k : Int) * 2 ≤ p + 40 ∧ i + k = 9 ∧ os.length = i ∧ H.length ≤ b ∧ Grown (H.set q (curB av y z)) L ∧ L[b]? = some (.cells (encI os) true) ∧
      st = ⟨[.ptr (some (q, 0)), slL b0 n c0, .slice none 0 0 none, slI b os.length c, .int .i64 i, w5, w6, w7], ⟨L, none⟩⟩) ?_ 9 _ ?_
  · rintro k _ ⟨i, os, b, c, y, z, L, w5, w6, w7, hy0, hy1, hik, hn, hb, hg, hL, rfl⟩
    have h4 := hg.curs h hy0
    have hql := h4.lt
    have hqb : b ≠ q := by omega
    have hle := hg.le
    rw [List.length_set] at hle
    have hbl : b < L.length := (List.getElem?_eq_some_iff.mp hL).1
    by_cases hk1 : i < n
    · have hd1 : decide ((i : Int) < (n : Int)) = true := decide_eq_true (by omega)
      by_cases hk2 : i < 9
      · have hd2 : decide ((i : Int) < 9) = true := decide_eq_true (by omega)
        have hd3 : (i : Int) < 9 := by omega
        have hwi := wrap_succ (show i < 9223372036854775807 by omega)
        have hwo := wrap_succ (show os.length < 9223372036854775807 by omega)
        simp (maxSteps := 2000000) +contextual only [w_s_l1Cur_orderFor_1, hk1, hd1, hd2, hd3, hwo, decide_true, Wp_some, Wp_none, Wp_ite, Wc_some, Wc_none, Wc_ite, Wp_thenRun, seqQ_normal, seqQ_exit, seqQ_ret, Wp_inBlock, blkQ_normal, blkQ_ret, blkQ_same, blkQ_exit, Wp_opThen, opQ_at, Wp_guardP, retQ_normal, retQ_ret, loopQ_normal, loopQ_exit, loopQ_ret, go_sem, entry, joinEsc, if_pos, reduceIte, Nat.reduceAdd, Nat.reduceLeDiff, Nat.reduceLT, Nat.reduceEqDiff]
        refine (wc_pick _ h4 (by omega) (by omega)).mono ?_
        rintro v m ⟨x, y1, z1, rfl, hx0, hx1, hy10, hy11, rfl⟩
        obtain ⟨j, rfl⟩ : ∃ j : Nat, x = (j : Int) := ⟨x.toNat, by omega⟩
        have hj : j ≤ os.length := by omega
        have hg1 := hg.cur hl (curB av y1 z1)
        have hL1 : (L.set q (curB av y1 z1))[b]? = some (.cells (encI os) true) := by rw [List.getElem?_set_ne (fun e => hqb e.symm)]; exact hL
        have hl1 : (L.set q (curB av y1 z1)).length = L.length := List.length_set
        rw [← hl1] at hbl hle
        generalize L.set q (curB av y1 z1) = L1 at *
        have hs1 := slHiV_c 1 b os.length j c hj
        have hs2 := slLoV_c 1 b 0 os.length j c hj
        rw [Nat.zero_add, Nat.mul_one] at hs2
        simp (maxSteps := 2000000) +contextual only [fillParts, aop_slHi, aop_slLo, hs1, hs2, Wp_some, Wp_none, Wp_ite, Wc_some, Wc_none, Wc_ite, Wp_thenRun, seqQ_normal, seqQ_exit, seqQ_ret, Wp_inBlock, blkQ_normal, blkQ_ret, blkQ_same, blkQ_exit, Wp_opThen, opQ_at, Wp_guardP, retQ_normal, retQ_ret, loopQ_normal, loopQ_exit, loopQ_ret, go_sem, entry, joinEsc, if_pos, reduceIte, Nat.reduceAdd, Nat.reduceLeDiff, Nat.reduceLT, Nat.reduceEqDiff]
        refine wc_ap (cs := []) (new := encI (os.take j)) (by simp +contextual only [go_sem, entry, joinEsc, if_pos, reduceIte, Nat.reduceAdd, Nat.reduceLeDiff, Nat.reduceLT, Nat.reduceEqDiff]) (orderFor_hd (cellsAt_of (get_more hL1 _)) hj) rfl (by simp; omega) (by unfold maxBytes; omega) (fun _ => rfl) ?_
        intro L2 e1 e2 e3 e4
        rw [List.length_append, List.length_singleton] at e1 e2 e3
        rw [List.nil_append] at e3
        rw [List.length_append, List.length_singleton]
        have g2 := e4 _ (hg1.more _) (by rw [List.length_set]; exact hle)
        have b2 := e2 b (by omega) (by omega)
        rw [get_more hL1] at b2
        clear e2 e4
        simp (maxSteps := 2000000) +contextual only [fillParts, Wp_some, Wp_none, Wp_ite, Wc_some, Wc_none, Wc_ite, Wp_thenRun, seqQ_normal, seqQ_exit, seqQ_ret, Wp_inBlock, blkQ_normal, blkQ_ret, blkQ_same, blkQ_exit, Wp_opThen, opQ_at, Wp_guardP, retQ_normal, retQ_ret, loopQ_normal, loopQ_exit, loopQ_ret, go_sem, entry, joinEsc, if_pos, reduceIte, Nat.reduceAdd, Nat.reduceLeDiff, Nat.reduceLT, Nat.reduceEqDiff]
        refine wc_ap (k := 1) (new := [.int .i64 i]) (get_more e3 _) (src_new _ 1 1 _ _ L2.length (by simp +contextual only [go_sem, entry, joinEsc, if_pos, reduceIte, Nat.reduceAdd, Nat.reduceLeDiff, Nat.reduceLT, Nat.reduceEqDiff]) rfl) (by simp; omega) rfl (by unfold maxBytes; omega) (by simp) ?_
        intro L3 e4 e5 e6 e7
        rw [List.length_append, List.length_singleton] at e4 e5 e6
        rw [List.length_append, List.length_singleton]
        have g3 := e7 _ (g2.more _) (by rw [List.length_set]; omega)
        have b3 := e5 b (by omega) (by omega)
        rw [get_more b2] at b3
        clear e5 e7
        simp (maxSteps := 2000000) +contextual only [fillParts, Wp_some, Wp_none, Wp_ite, Wc_some, Wc_none, Wc_ite, Wp_thenRun, seqQ_normal, seqQ_exit, seqQ_ret, Wp_inBlock, blkQ_normal, blkQ_ret, blkQ_same, blkQ_exit, Wp_opThen, opQ_at, Wp_guardP, retQ_normal, retQ_ret, loopQ_normal, loopQ_exit, loopQ_ret, go_sem, entry, joinEsc, if_pos, reduceIte, Nat.reduceAdd, Nat.reduceLeDiff, Nat.reduceLT, Nat.reduceEqDiff]
        have hen : encI (os.take j) ++ [AV.int .i64 i] = encI (os.take j ++ [(i : Int)]) := by simp [encI]
        rw [hen] at e6
        refine wc_ap (new := encI (os.drop j)) e6 (orderFor_tl (cellsAt_of b3) hj) (by simp; omega) (by simp) (by unfold maxBytes; omega) (by simp) ?_
        intro L4 e8 e9 e10 e11
        have g4 := e11 _ g3 (by rw [List.length_set]; omega)
        rw [← encI_append] at e10
        simp (maxSteps := 2000000) +contextual only [hwi, Wp_some, Wp_none, Wp_ite, Wc_some, Wc_none, Wc_ite, Wp_thenRun, seqQ_normal, seqQ_exit, seqQ_ret, Wp_inBlock, blkQ_normal, blkQ_ret, blkQ_same, blkQ_exit, Wp_opThen, opQ_at, Wp_guardP, retQ_normal, retQ_ret, loopQ_normal, loopQ_exit, loopQ_ret, go_sem, entry, joinEsc, if_pos, reduceIte, Nat.reduceAdd, Nat.reduceLeDiff, Nat.reduceLT, Nat.reduceEqDiff]
        have hlen : 0 + j + 1 + (os.length - j) = (os.take j ++ [(i : Int)] ++ os.drop j).length := by simp; omega
        rw [Nat.zero_add] at hlen
        rw [hlen]
        exact ⟨k - 1, by omega, i + 1, os.take j ++ [(i : Int)] ++ os.drop j, _, none, y1, z1, L4, _, _, _, hy10, by omega, by omega, by rw [← hlen]; omega, by omega, g4, e10, rfl⟩
      · have hd2 : decide ((i : Int) < 9) = false := decide_eq_false (by omega)
        have hd3 : ¬ (i : Int) < 9 := by omega
        simp (maxSteps := 2000000) +contextual only [w_s_l1Cur_orderFor_1, hk1, hd1, hd2, hd3, decide_true, decide_false, Wp_some, Wp_none, Wp_ite, Wc_some, Wc_none, Wc_ite, Wp_thenRun, seqQ_normal, seqQ_exit, seqQ_ret, Wp_inBlock, blkQ_normal, blkQ_ret, blkQ_same, blkQ_exit, Wp_opThen, opQ_at, Wp_guardP, retQ_normal, retQ_ret, loopQ_normal, loopQ_exit, loopQ_ret, go_sem, entry, joinEsc, if_pos, reduceIte, Nat.reduceAdd, Nat.reduceLeDiff, Nat.reduceLT, Nat.reduceEqDiff]
        exact r os b c y z L _ _ _ _ _ hy0 (by omega) (by omega) hb hg hL
    · have hd1 : decide ((i : Int) < (n : Int)) = false := decide_eq_false (by omega)
      simp (maxSteps := 2000000) +contextual only [w_s_l1Cur_orderFor_1, hk1, hd1, decide_true, decide_false, Wp_some, Wp_none, Wp_ite, Wc_some, Wc_none, Wc_ite, Wp_thenRun, seqQ_normal, seqQ_exit, seqQ_ret, Wp_inBlock, blkQ_normal, blkQ_ret, blkQ_same, blkQ_exit, Wp_opThen, opQ_at, Wp_guardP, retQ_normal, retQ_ret, loopQ_normal, loopQ_exit, loopQ_ret, go_sem, entry, joinEsc, if_pos, reduceIte, Nat.reduceAdd, Nat.reduceLeDiff, Nat.reduceLT, Nat.reduceEqDiff]
      exact r os b c y z L _ _ _ _ _ hy0 (by omega) (by omega) hb hg hL
  · obtain ⟨w, hw, _⟩ := h.cells
    exact ⟨0, [], H.length, some 0, p, w, _, _, _, _, h.2.2, by omega, by omega, rfl, Nat.le_refl _, by rw [set_self_at hw]; exact ⟨_, rfl⟩, by simp +contextual only [go_sem, entry, joinEsc, if_pos, reduceIte, Nat.reduceAdd, Nat.reduceLeDiff, Nat.reduceLT, Nat.reduceEqDiff], rfl⟩

end Go.Proofs.Ytlcklonakjhoiaa.Slim

/- Rafts: the drawn arguments of laws. -/
namespace Go.Proofs.Ytlcklonakjhoiaa.Slim

open Go

set_option linter.unusedSimpArgs false

set_option linter.unusedVariables false

variable {pr : Prims} {H : List Blk} {e : Option Nat}

theorem wc_DrawIsRaft {av : AV} (hc : CodeAt H av) : Wc (call T pr f_s_DrawIsRaft [av] ⟨H, e⟩) (fun v m => ∃ a b o : Int, v = rfV a b o ∧ m = ⟨H, e⟩) := by
  obtain ⟨p0, s0, n0, c0, rfl⟩ := hc.form
  rw [call_wc t_s_DrawIsRaft]
  simp +contextual only [a_s_DrawIsRaft, c_s_DrawIsRaft, fillParts, Nat.add_assoc, Wp_some, Wp_none, Wp_ite, Wc_some, Wc_none, Wc_ite, Wp_thenRun, seqQ_normal, seqQ_exit, seqQ_ret, Wp_inBlock, blkQ_normal, blkQ_ret, blkQ_same, blkQ_exit, Wp_opThen, opQ_at, Wp_guardP, retQ_normal, retQ_ret, loopQ_normal, loopQ_exit, loopQ_ret, go_sem, entry, joinEsc, if_pos, reduceIte, Nat.reduceAdd, Nat.reduceLeDiff, Nat.reduceLT, Nat.reduceEqDiff]
  refine (wc_raft (Cu.new (k := 1) (G := [.cells [.int .i64 0, .int .i64 0, .int .i64 0] true, curB _ 0 0]) rfl hc (by omega)) (by omega)).mono ?_
  rintro v m ⟨a, b, o, y1, z1, rfl, hy10, hy11, rfl⟩
  simp +contextual only [a_s_DrawIsRaft, Nat.add_zero, Nat.add_assoc, Wp_some, Wp_none, Wp_ite, Wc_some, Wc_none, Wc_ite, Wp_thenRun, seqQ_normal, seqQ_exit, seqQ_ret, Wp_inBlock, blkQ_normal, blkQ_ret, blkQ_same, blkQ_exit, Wp_opThen, opQ_at, Wp_guardP, retQ_normal, retQ_ret, loopQ_normal, loopQ_exit, loopQ_ret, finish_one_eq, finish_one_eq0, finish_two_eq, finish_two_eq0, roots_slice_new, roots_slice_new0, roots_slice_none, roots_ptr_new, roots_ptr_new0, roots_int, roots_bool, roots_str, roots_agg, roots_tup, roots_cons, roots_nil, rename_slice, rename_slice_none, rename_ptr, rename_int, rename_bool, rename_str, rename_agg, rename_tup, rename_cons, rename_nil, keepBlks_nil, keepBlks_cons, flatAll_nil, flatAll_cons, flatBlk_cells, dedup_nil, dedup_one, dedup_two, renum_one, renum_one0, renum_two0, renum_two1, clean_none', clean_some, minEsc_none, minEsc_some, Nat.add_left_cancel_iff, Nat.le_add_right, Nat.le_refl, decide_true, go_sem, entry, joinEsc, if_pos, reduceIte, Nat.reduceAdd, Nat.reduceLeDiff, Nat.reduceLT, Nat.reduceEqDiff]
  exact ⟨a, b, o, rfl⟩

theorem wc_DrawRaftSide {av : AV} (hc : CodeAt H av) : Wc (call T pr f_s_DrawRaftSide [av] ⟨H, e⟩) (fun v m => ∃ (a b o : Int) (ls : List Ld) (os : List Int) (c1 c2 : Option Nat), v = .tup [rfV a b o, slL H.length ls.length c1, slI (H.length + 1) os.length c2] ∧ ls.length ≤ 9 ∧ os.length ≤ 10 ∧ m = ⟨H ++ [.cells (encL ls) true, .cells (encI os) true], e⟩) := by
  obtain ⟨p0, s0, n0, c0, rfl⟩ := hc.form
  rw [call_wc t_s_DrawRaftSide]
  simp +contextual only [a_s_DrawRaftSide, c_s_DrawRaftSide, fillParts, Nat.add_assoc, Wp_some, Wp_none, Wp_ite, Wc_some, Wc_none, Wc_ite, Wp_thenRun, seqQ_normal, seqQ_exit, seqQ_ret, Wp_inBlock, blkQ_normal, blkQ_ret, blkQ_same, blkQ_exit, Wp_opThen, opQ_at, Wp_guardP, retQ_normal, retQ_ret, loopQ_normal, loopQ_exit, loopQ_ret, go_sem, entry, joinEsc, if_pos, reduceIte, Nat.reduceAdd, Nat.reduceLeDiff, Nat.reduceLT, Nat.reduceEqDiff]
  refine (wc_raft (Cu.new (k := 1) (G := [.cells [.int .i64 0, .int .i64 0, .int .i64 0] true, curB _ 0 0]) rfl hc (by omega)) (by omega)).mono ?_
  rintro v m ⟨a, b, o, y1, z1, rfl, hy10, hy11, rfl⟩
  simp +contextual only [Nat.add_zero, Nat.add_assoc, Wp_some, Wp_none, Wp_ite, Wc_some, Wc_none, Wc_ite, Wp_thenRun, seqQ_normal, seqQ_exit, seqQ_ret, Wp_inBlock, blkQ_normal, blkQ_ret, blkQ_same, blkQ_exit, Wp_opThen, opQ_at, Wp_guardP, retQ_normal, retQ_ret, loopQ_normal, loopQ_exit, loopQ_ret, go_sem, entry, joinEsc, if_pos, reduceIte, Nat.reduceAdd, Nat.reduceLeDiff, Nat.reduceLT, Nat.reduceEqDiff]
  refine (wc_cargo (Cu.new (H := H) (k := 1) (y := y1) (z := z1) rfl hc hy10) (by omega)).mono ?_
  rintro v m ⟨ls, c1, y2, z2, rfl, hn1, hy20, hy21, rfl⟩
  simp +contextual only [Nat.add_zero, Nat.add_assoc, Wp_some, Wp_none, Wp_ite, Wc_some, Wc_none, Wc_ite, Wp_thenRun, seqQ_normal, seqQ_exit, seqQ_ret, Wp_inBlock, blkQ_normal, blkQ_ret, blkQ_same, blkQ_exit, Wp_opThen, opQ_at, Wp_guardP, retQ_normal, retQ_ret, loopQ_normal, loopQ_exit, loopQ_ret, go_sem, entry, joinEsc, if_pos, reduceIte, Nat.reduceAdd, Nat.reduceLeDiff, Nat.reduceLT, Nat.reduceEqDiff]
  refine (wc_setOf (Cu.new (H := H) (k := 1) (y := y2) (z := z2) rfl hc hy20) (by omega)).mono ?_
  rintro v m ⟨os, c2, y3, z3, rfl, hn2, hy30, hy31, rfl⟩
  have hf := fun (B0 B1 B3 : Blk) => finish_sl2 (H := H) (s1 := 2) (n1 := ls.length) (c1 := c1) (s2 := 1) (n2 := os.length) (c2 := c2) (rfV a b o) rfl (fun _ => rfl) (L := H ++ [B0, B1, .cells (encL ls) true, B3, .cells (encI os) true]) ⟨_, rfl⟩ e none rfl (b1 := H.length + 2) (b2 := H.length + 4) (by omega) (by omega) (by omega) (by rw [blkAt_newk]; rfl) (by rw [blkAt_newk]; rfl) (under_encL _ _) (under_encI _ _)
  simp +contextual only [a_s_DrawRaftSide, hf, Nat.add_zero, Nat.add_assoc, Wp_some, Wp_none, Wp_ite, Wc_some, Wc_none, Wc_ite, Wp_thenRun, seqQ_normal, seqQ_exit, seqQ_ret, Wp_inBlock, blkQ_normal, blkQ_ret, blkQ_same, blkQ_exit, Wp_opThen, opQ_at, Wp_guardP, retQ_normal, retQ_ret, loopQ_normal, loopQ_exit, loopQ_ret, go_sem, entry, joinEsc, if_pos, reduceIte, Nat.reduceAdd, Nat.reduceLeDiff, Nat.reduceLT, Nat.reduceEqDiff]
  exact ⟨a, b, o, ls, os, c1, c2, rfl, hn1, hn2, rfl⟩

theorem SafeOrder_form {q : Nat} {c : Option Nat} {ls : List Ld} (hq : cellsAt H q = some (encL ls)) (a b o : Int) (hls : ls.length ≤ 9) : ∃ (os : List Int) (cap : Option Nat) (ok : Bool), call T pr f_s_SafeOrder [rfV a b o, slL q ls.length c] ⟨H, e⟩ = some (.tup [slI H.length os.length cap, .bool ok], ⟨H ++ [.cells (encI os) true], e⟩) ∧ os.length ≤ 9 := by
  cases h : canW a b o ls with
  | false =>
    exact ⟨[], some 0, false, e_s_SafeOrder_no (pr := pr) (e := e) (c := c) hq a b o h, by simp⟩
  | true =>
    obtain ⟨cap, h1⟩ := e_s_SafeOrder (pr := pr) (e := e) (c := c) hq a b o h
    exact ⟨soW a b o ls, cap, true, h1, by rw [soW_length]; exact hls⟩

theorem wc_DrawIsSafeOrder {av : AV} (hc : CodeAt H av) : Wc (call T pr f_s_DrawIsSafeOrder [av] ⟨H, e⟩) (fun v m => ∃ (a b o : Int) (ls : List Ld) (os : List Int) (c1 c2 : Option Nat), v = .tup [rfV a b o, slL H.length ls.length c1, slI (H.length + 1) os.length c2] ∧ ls.length ≤ 9 ∧ os.length ≤ 10 ∧ m = ⟨H ++ [.cells (encL ls) true, .cells (encI os) true], e⟩) := by
  obtain ⟨p0, s0, n0, c0, rfl⟩ := hc.form
  rw [call_wc t_s_DrawIsSafeOrder]
  simp +contextual only [a_s_DrawIsSafeOrder, c_s_DrawIsSafeOrder, fillParts, Nat.add_assoc, Wp_some, Wp_none, Wp_ite, Wc_some, Wc_none, Wc_ite, Wp_thenRun, seqQ_normal, seqQ_exit, seqQ_ret, Wp_inBlock, blkQ_normal, blkQ_ret, blkQ_same, blkQ_exit, Wp_opThen, opQ_at, Wp_guardP, retQ_normal, retQ_ret, loopQ_normal, loopQ_exit, loopQ_ret, go_sem, entry, joinEsc, if_pos, reduceIte, Nat.reduceAdd, Nat.reduceLeDiff, Nat.reduceLT, Nat.reduceEqDiff]
  refine (wc_raft (Cu.new (k := 1) (G := [.cells [.int .i64 0, .int .i64 0, .int .i64 0] true, curB _ 0 0]) rfl hc (by omega)) (by omega)).mono ?_
  rintro v m ⟨a, b, o, y1, z1, rfl, hy10, hy11, rfl⟩
  simp +contextual only [Nat.add_zero, Nat.add_assoc, Wp_some, Wp_none, Wp_ite, Wc_some, Wc_none, Wc_ite, Wp_thenRun, seqQ_normal, seqQ_exit, seqQ_ret, Wp_inBlock, blkQ_normal, blkQ_ret, blkQ_same, blkQ_exit, Wp_opThen, opQ_at, Wp_guardP, retQ_normal, retQ_ret, loopQ_normal, loopQ_exit, loopQ_ret, go_sem, entry, joinEsc, if_pos, reduceIte, Nat.reduceAdd, Nat.reduceLeDiff, Nat.reduceLT, Nat.reduceEqDiff]
  refine (wc_cargo (Cu.new (H := H) (k := 1) (y := y1) (z := z1) rfl hc hy10) (by omega)).mono ?_
  rintro v m ⟨ls, c1, y2, z2, rfl, hn1, hy20, hy21, rfl⟩
  simp +contextual only [Nat.add_zero, Nat.add_assoc, Wp_some, Wp_none, Wp_ite, Wc_some, Wc_none, Wc_ite, Wp_thenRun, seqQ_normal, seqQ_exit, seqQ_ret, Wp_inBlock, blkQ_normal, blkQ_ret, blkQ_same, blkQ_exit, Wp_opThen, opQ_at, Wp_guardP, retQ_normal, retQ_ret, loopQ_normal, loopQ_exit, loopQ_ret, go_sem, entry, joinEsc, if_pos, reduceIte, Nat.reduceAdd, Nat.reduceLeDiff, Nat.reduceLT, Nat.reduceEqDiff]
  obtain ⟨os, cap, ok, hso, hn2⟩ := SafeOrder_form (pr := pr) (H := H ++ [.cells [AV.int IntKind.i64 0, AV.int IntKind.i64 0, AV.int IntKind.i64 0] true, curB (.slice p0 s0 n0 c0) y2 z2, .cells (encL ls) true, .cells [AV.int IntKind.i64 a, AV.int IntKind.i64 b, AV.int IntKind.i64 o] true]) (e := none) (q := H.length + 2) (c := c1) (by simp +contextual only [go_sem, entry, joinEsc, if_pos, reduceIte, Nat.reduceAdd, Nat.reduceLeDiff, Nat.reduceLT, Nat.reduceEqDiff]) a b o hn1
  refine Wc.of_eq hso ?_
  have hcu := fun G => Cu.new (H := H) (k := 1) (y := y2) (z := z2) (G := .cells [AV.int IntKind.i64 0, AV.int IntKind.i64 0, AV.int IntKind.i64 0] true :: curB (.slice p0 s0 n0 c0) y2 z2 :: G) rfl hc hy20
  have r : ∀ (y z : Int) (w7 w8 w9 : AV) (X : Blk), 0 ≤ y → y ≤ 1000 → Wp (run T pr (seqTl (seqTl (seqTl (seqTl c_s_DrawIsSafeOrder)))) ⟨[AV.slice p0 s0 n0 c0, AV.ptr (some (H.length, 0)), AV.slice none 0 0 none, AV.slice none 0 0 none, AV.ptr (some (H.length + 1, 0)), AV.ptr (some (H.length + 3, 0)), slL (H.length + 2) ls.length c1, w7, w8, w9], ⟨H ++ [.cells [AV.int IntKind.i64 0, AV.int IntKind.i64 0, AV.int IntKind.i64 0] true, curB (.slice p0 s0 n0 c0) y z, .cells (encL ls) true, .cells [AV.int IntKind.i64 a, AV.int IntKind.i64 b, AV.int IntKind.i64 o] true, X], none⟩⟩)
      (retQ a_s_DrawIsSafeOrder ⟨H, e⟩ fun v m => ∃ (a b o : Int) (ls : List Ld) (os : List Int) (c1 c2 : Option Nat), v = .tup [rfV a b o, slL H.length ls.length c1, slI (H.length + 1) os.length c2] ∧ ls.length ≤ 9 ∧ os.length ≤ 10 ∧ m = ⟨H ++ [.cells (encL ls) true, .cells (encI os) true], e⟩) := by
    intro y z w7 w8 w9 X hy0 hy1
    simp +contextual only [c_s_DrawIsSafeOrder, seqTl, Nat.add_zero, Nat.add_assoc, Wp_some, Wp_none, Wp_ite, Wc_some, Wc_none, Wc_ite, Wp_thenRun, seqQ_normal, seqQ_exit, seqQ_ret, Wp_inBlock, blkQ_normal, blkQ_ret, blkQ_same, blkQ_exit, Wp_opThen, opQ_at, Wp_guardP, retQ_normal, retQ_ret, loopQ_normal, loopQ_exit, loopQ_ret, go_sem, entry, joinEsc, if_pos, reduceIte, Nat.reduceAdd, Nat.reduceLeDiff, Nat.reduceLT, Nat.reduceEqDiff]
    refine (wc_orderFor (Cu.new (H := H) (k := 1) (y := y) (z := z) rfl hc hy0) (by omega)).mono ?_
    rintro v m ⟨os, c2, y3, z3, rfl, hn2, hy30, hy31, rfl⟩
    have hf := fun (B0 B1 B3 B4 : Blk) => finish_sl2 (H := H) (s1 := 2) (n1 := ls.length) (c1 := c1) (s2 := 1) (n2 := os.length) (c2 := c2) (rfV a b o) rfl (fun _ => rfl) (L := H ++ [B0, B1, .cells (encL ls) true, B3, B4, .cells (encI os) true]) ⟨_, rfl⟩ e none rfl (b1 := H.length + 2) (b2 := H.length + 5) (by omega) (by omega) (by omega) (by rw [blkAt_newk]; rfl) (by rw [blkAt_newk]; rfl) (under_encL _ _) (under_encI _ _)
    simp +contextual only [a_s_DrawIsSafeOrder, hf, Nat.add_zero, Nat.add_assoc, Wp_some, Wp_none, Wp_ite, Wc_some, Wc_none, Wc_ite, Wp_thenRun, seqQ_normal, seqQ_exit, seqQ_ret, Wp_inBlock, blkQ_normal, blkQ_ret, blkQ_same, blkQ_exit, Wp_opThen, opQ_at, Wp_guardP, retQ_normal, retQ_ret, loopQ_normal, loopQ_exit, loopQ_ret, go_sem, entry, joinEsc, if_pos, reduceIte, Nat.reduceAdd, Nat.reduceLeDiff, Nat.reduceLT, Nat.reduceEqDiff]
    exact ⟨a, b, o, ls, os, c1, c2, rfl, hn1, hn2, rfl⟩
  cases ok with
  | false =>
    simp +contextual only [Nat.add_zero, Nat.add_assoc, Wp_some, Wp_none, Wp_ite, Wc_some, Wc_none, Wc_ite, Wp_thenRun, seqQ_normal, seqQ_exit, seqQ_ret, Wp_inBlock, blkQ_normal, blkQ_ret, blkQ_same, blkQ_exit, Wp_opThen, opQ_at, Wp_guardP, retQ_normal, retQ_ret, loopQ_normal, loopQ_exit, loopQ_ret, go_sem, entry, joinEsc, if_pos, reduceIte, Nat.reduceAdd, Nat.reduceLeDiff, Nat.reduceLT, Nat.reduceEqDiff]
    have := r y2 z2 (slI (H.length + 4) os.length cap) (.bool false) (.bool false) (.cells (encI os) true) hy20 (by omega)
    simp +contextual only [c_s_DrawIsSafeOrder, seqTl, Nat.add_zero, Nat.add_assoc, Wp_some, Wp_none, Wp_ite, Wc_some, Wc_none, Wc_ite, Wp_thenRun, seqQ_normal, seqQ_exit, seqQ_ret, Wp_inBlock, blkQ_normal, blkQ_ret, blkQ_same, blkQ_exit, Wp_opThen, opQ_at, Wp_guardP, retQ_normal, retQ_ret, loopQ_normal, loopQ_exit, loopQ_ret, go_sem, entry, joinEsc, if_pos, reduceIte, Nat.reduceAdd, Nat.reduceLeDiff, Nat.reduceLT, Nat.reduceEqDiff] at this
    exact this
  | true =>
    simp +contextual only [Nat.add_zero, Nat.add_assoc, Wp_some, Wp_none, Wp_ite, Wc_some, Wc_none, Wc_ite, Wp_thenRun, seqQ_normal, seqQ_exit, seqQ_ret, Wp_inBlock, blkQ_normal, blkQ_ret, blkQ_same, blkQ_exit, Wp_opThen, opQ_at, Wp_guardP, retQ_normal, retQ_ret, loopQ_normal, loopQ_exit, loopQ_ret, go_sem, entry, joinEsc, if_pos, reduceIte, Nat.reduceAdd, Nat.reduceLeDiff, Nat.reduceLT, Nat.reduceEqDiff]
    refine (wc_one 2 (hcu _) (by omega) (by omega)).mono ?_
    rintro v m ⟨x, y3, z3, rfl, hy30, hy31, rfl⟩
    cases x with
    | false =>
      simp +contextual only [Nat.add_zero, Nat.add_assoc, Wp_some, Wp_none, Wp_ite, Wc_some, Wc_none, Wc_ite, Wp_thenRun, seqQ_normal, seqQ_exit, seqQ_ret, Wp_inBlock, blkQ_normal, blkQ_ret, blkQ_same, blkQ_exit, Wp_opThen, opQ_at, Wp_guardP, retQ_normal, retQ_ret, loopQ_normal, loopQ_exit, loopQ_ret, go_sem, entry, joinEsc, if_pos, reduceIte, Nat.reduceAdd, Nat.reduceLeDiff, Nat.reduceLT, Nat.reduceEqDiff]
      have := r y3 z3 (slI (H.length + 4) os.length cap) (.bool true) (.bool false) (.cells (encI os) true) hy30 (by omega)
      simp +contextual only [c_s_DrawIsSafeOrder, seqTl, Nat.add_zero, Nat.add_assoc, Wp_some, Wp_none, Wp_ite, Wc_some, Wc_none, Wc_ite, Wp_thenRun, seqQ_normal, seqQ_exit, seqQ_ret, Wp_inBlock, blkQ_normal, blkQ_ret, blkQ_same, blkQ_exit, Wp_opThen, opQ_at, Wp_guardP, retQ_normal, retQ_ret, loopQ_normal, loopQ_exit, loopQ_ret, go_sem, entry, joinEsc, if_pos, reduceIte, Nat.reduceAdd, Nat.reduceLeDiff, Nat.reduceLT, Nat.reduceEqDiff] at this
      exact this
    | true =>
      have hf := fun (B0 B1 B3 : Blk) => finish_sl2 (H := H) (s1 := 2) (n1 := ls.length) (c1 := c1) (s2 := 1) (n2 := os.length) (c2 := cap) (rfV a b o) rfl (fun _ => rfl) (L := H ++ [B0, B1, .cells (encL ls) true, B3, .cells (encI os) true]) ⟨_, rfl⟩ e none rfl (b1 := H.length + 2) (b2 := H.length + 4) (by omega) (by omega) (by omega) (by rw [blkAt_newk]; rfl) (by rw [blkAt_newk]; rfl) (under_encL _ _) (under_encI _ _)
      simp +contextual only [a_s_DrawIsSafeOrder, hf, Nat.add_zero, Nat.add_assoc, Wp_some, Wp_none, Wp_ite, Wc_some, Wc_none, Wc_ite, Wp_thenRun, seqQ_normal, seqQ_exit, seqQ_ret, Wp_inBlock, blkQ_normal, blkQ_ret, blkQ_same, blkQ_exit, Wp_opThen, opQ_at, Wp_guardP, retQ_normal, retQ_ret, loopQ_normal, loopQ_exit, loopQ_ret, go_sem, entry, joinEsc, if_pos, reduceIte, Nat.reduceAdd, Nat.reduceLeDiff, Nat.reduceLT, Nat.reduceEqDiff]
      exact ⟨a, b, o, ls, os, c1, cap, rfl, hn1, by omega, rfl⟩

end Go.Proofs.Ytlcklonakjhoiaa.Slim

/- Rafts: sides, reserves, safe sets and safe orders, on both sides. -/
namespace Go.Proofs.Ytlcklonakjhoiaa.Slim

open Go

set_option linter.unusedSimpArgs false

set_option linter.unusedVariables false

variable {pr : Prims} {H : List Blk} {e : Option Nat}

def lftR (a b o : Int) (ls : List Ld) (n : Int) : Int := overBits (resL a) n 0 ls (own0 a b o)

def rgtR (a b o : Int) (ls : List Ld) (n : Int) : Int := overBits (resR b) n 0 ls (own0 a b o)

theorem e_i_RaftReserve {q q' : Nat} {c c' : Option Nat} {ls : List Ld} {os : List Int} (hq : cellsAt H q = some (encL ls)) (h : cellsAt H q' = some (encI os)) (hls : ls.length ≤ 1048576) (hn : os.length ≤ 1048576) (a b o : Int) :
    call T pr f_i_RaftReserve [rfV a b o, slL q ls.length c, slI q' os.length c'] ⟨H, e⟩ = some (if setOk a b o ls os = true then .tup [.int .i64 (lftR a b o ls ((codeN 0 os : Nat) : Int)), .int .i64 (rgtR a b o ls ((codeN 0 os : Nat) : Int)), .bool true] else .tup [.int .i64 0, .int .i64 0, .bool false], ⟨H, e⟩) := by
  rw [call_eq t_i_RaftReserve]
  have hb := fun G => e_i_bitsOf (pr := pr) (e := none) (q := q) (c := c) (c' := c') (cells_mono h G) (by omega) hls
  have hr := fun G => e_i_Raft_reserve (pr := pr) (e := none) (c := c) (cells_mono hq G) (by omega) a b o
  have ha := fun G => e_i_areCargo (pr := pr) (e := none) (c := c) (cells_mono hq G) a b o
  unfold setOk
  cases h1 : cargoOk a b o ls with
  | false =>
    rw [Bool.false_and, if_neg (by simp)]
    cases h2 : rises ls.length (-1) os with
    | false => simp +contextual only [a_i_RaftReserve, c_i_RaftReserve, hb, ha, hr, h1, h2, go_sem, entry, joinEsc, if_pos, reduceIte, Nat.reduceAdd, Nat.reduceLeDiff, Nat.reduceLT, Nat.reduceEqDiff]
    | true => simp +contextual only [a_i_RaftReserve, c_i_RaftReserve, hb, ha, hr, h1, h2, go_sem, entry, joinEsc, if_pos, reduceIte, Nat.reduceAdd, Nat.reduceLeDiff, Nat.reduceLT, Nat.reduceEqDiff]
  | true =>
    rw [Bool.true_and]
    cases h2 : rises ls.length (-1) os with
    | false =>
      rw [if_neg (by simp)]
      simp +contextual only [a_i_RaftReserve, c_i_RaftReserve, hb, ha, hr, h1, h2, go_sem, entry, joinEsc, if_pos, reduceIte, Nat.reduceAdd, Nat.reduceLeDiff, Nat.reduceLT, Nat.reduceEqDiff]
    | true =>
      rw [if_pos rfl]
      have hcd := (code_lt (cargo_le h1) h2).2
      simp +contextual only [a_i_RaftReserve, c_i_RaftReserve, hb, ha, hr, h1, h2, hcd, lftR, rgtR, go_sem, entry, joinEsc, if_pos, reduceIte, Nat.reduceAdd, Nat.reduceLeDiff, Nat.reduceLT, Nat.reduceEqDiff]

theorem e_s_RaftReserve {q q' : Nat} {c c' : Option Nat} {ls : List Ld} {os : List Int} (hq : cellsAt H q = some (encL ls)) (h : cellsAt H q' = some (encI os)) (hls : ls.length ≤ 1048576) (hn : os.length ≤ 1048576) (a b o : Int) :
    call T pr f_s_RaftReserve [rfV a b o, slL q ls.length c, slI q' os.length c'] ⟨H, e⟩ = some (if setOk a b o ls os = true then .tup [.int .i64 (lftR a b o ls ((codeN 0 os : Nat) : Int)), .int .i64 (rgtR a b o ls ((codeN 0 os : Nat) : Int)), .bool true] else .tup [.int .i64 0, .int .i64 0, .bool false], ⟨H, e⟩) := by
  rw [call_eq t_s_RaftReserve]
  have hb := fun G => e_s_l10Code (pr := pr) (e := none) (c := c) (c' := c') (cells_mono hq G) (cells_mono h G) (by omega) a b o
  have hr := fun G => e_s_l10Reserve (pr := pr) (e := none) (c := c) (cells_mono hq G) (by omega) a b o
  cases h1 : setOk a b o ls os with
  | false => simp +contextual only [a_s_RaftReserve, c_s_RaftReserve, hb, hr, h1, go_sem, entry, joinEsc, if_pos, reduceIte, Nat.reduceAdd, Nat.reduceLeDiff, Nat.reduceLT, Nat.reduceEqDiff]
  | true => simp +contextual only [a_s_RaftReserve, c_s_RaftReserve, hb, hr, h1, lftR, rgtR, go_sem, entry, joinEsc, if_pos, reduceIte, Nat.reduceAdd, Nat.reduceLeDiff, Nat.reduceLT, Nat.reduceEqDiff]

/-- what RaftSide returns -/
def sideT (a b o : Int) (ls : List Ld) (os : List Int) : AV := if setOk a b o ls os = true then .tup [.int .i64 (sideR a b o ls ((codeN 0 os : Nat) : Int)), .bool true] else .tup [.int .i64 0, .bool false]

theorem e_i_RaftSide {q q' : Nat} {c c' : Option Nat} {ls : List Ld} {os : List Int} (hq : cellsAt H q = some (encL ls)) (h : cellsAt H q' = some (encI os)) (hls : ls.length ≤ 1048576) (hn : os.length ≤ 1048576) (a b o : Int) :
    call T pr f_i_RaftSide [rfV a b o, slL q ls.length c, slI q' os.length c'] ⟨H, e⟩ = some (sideT a b o ls os, ⟨H, e⟩) := by
  rw [call_eq t_i_RaftSide]
  have hb := fun G => e_i_RaftReserve (pr := pr) (e := none) (c := c) (c' := c') (cells_mono hq G) (cells_mono h G) hls hn a b o
  unfold sideT
  cases h1 : setOk a b o ls os with
  | false =>
    simp only [h1, Bool.false_eq_true, if_false] at hb
    simp +contextual only [a_i_RaftSide, c_i_RaftSide, hb, h1, Int.lt_irrefl, decide_false, go_sem, entry, joinEsc, if_pos, reduceIte, Nat.reduceAdd, Nat.reduceLeDiff, Nat.reduceLT, Nat.reduceEqDiff]
  | true =>
    simp only [h1, if_true] at hb
    have hs : sideR a b o ls ((codeN 0 os : Nat) : Int) = if lftR a b o ls ((codeN 0 os : Nat) : Int) < 0 then -1 else if rgtR a b o ls ((codeN 0 os : Nat) : Int) < 0 then 1 else 0 := rfl
    rw [hs]
    by_cases h2 : lftR a b o ls ((codeN 0 os : Nat) : Int) < 0
    · simp +contextual only [a_i_RaftSide, c_i_RaftSide, hb, h1, h2, decide_true, go_sem, entry, joinEsc, if_pos, reduceIte, Nat.reduceAdd, Nat.reduceLeDiff, Nat.reduceLT, Nat.reduceEqDiff]
    · by_cases h3 : rgtR a b o ls ((codeN 0 os : Nat) : Int) < 0
      · simp +contextual only [a_i_RaftSide, c_i_RaftSide, hb, h1, h2, h3, decide_true, decide_false, go_sem, entry, joinEsc, if_pos, reduceIte, Nat.reduceAdd, Nat.reduceLeDiff, Nat.reduceLT, Nat.reduceEqDiff]
      · simp +contextual only [a_i_RaftSide, c_i_RaftSide, hb, h1, h2, h3, decide_true, decide_false, go_sem, entry, joinEsc, if_pos, reduceIte, Nat.reduceAdd, Nat.reduceLeDiff, Nat.reduceLT, Nat.reduceEqDiff]

theorem e_s_RaftSide {q q' : Nat} {c c' : Option Nat} {ls : List Ld} {os : List Int} (hq : cellsAt H q = some (encL ls)) (h : cellsAt H q' = some (encI os)) (hls : ls.length ≤ 1048576) (hn : os.length ≤ 1048576) (a b o : Int) :
    call T pr f_s_RaftSide [rfV a b o, slL q ls.length c, slI q' os.length c'] ⟨H, e⟩ = some (sideT a b o ls os, ⟨H, e⟩) := by
  rw [call_eq t_s_RaftSide]
  have hb := fun G => e_s_l10Code (pr := pr) (e := none) (c := c) (c' := c') (cells_mono hq G) (cells_mono h G) (by omega) a b o
  have hr := fun G => e_s_l10Reserve (pr := pr) (e := none) (c := c) (cells_mono hq G) (by omega) a b o
  unfold sideT
  cases h1 : setOk a b o ls os with
  | false => simp +contextual only [a_s_RaftSide, c_s_RaftSide, hb, hr, h1, go_sem, entry, joinEsc, if_pos, reduceIte, Nat.reduceAdd, Nat.reduceLeDiff, Nat.reduceLT, Nat.reduceEqDiff]
  | true =>
    have hs : sideR a b o ls ((codeN 0 os : Nat) : Int) = if lftR a b o ls ((codeN 0 os : Nat) : Int) < 0 then -1 else if rgtR a b o ls ((codeN 0 os : Nat) : Int) < 0 then 1 else 0 := rfl
    rw [hs]
    by_cases h2 : lftR a b o ls ((codeN 0 os : Nat) : Int) < 0
    · have h2' := h2
      unfold lftR at h2'
      simp +contextual only [a_s_RaftSide, c_s_RaftSide, hb, hr, h1, h2, h2', decide_true, go_sem, entry, joinEsc, if_pos, reduceIte, Nat.reduceAdd, Nat.reduceLeDiff, Nat.reduceLT, Nat.reduceEqDiff]
    · have h2' := h2
      unfold lftR at h2'
      by_cases h3 : rgtR a b o ls ((codeN 0 os : Nat) : Int) < 0
      · have h3' := h3
        unfold rgtR at h3'
        simp +contextual only [a_s_RaftSide, c_s_RaftSide, hb, hr, h1, h2, h2', h3, h3', decide_true, decide_false, go_sem, entry, joinEsc, if_pos, reduceIte, Nat.reduceAdd, Nat.reduceLeDiff, Nat.reduceLT, Nat.reduceEqDiff]
      · have h3' := h3
        unfold rgtR at h3'
        simp +contextual only [a_s_RaftSide, c_s_RaftSide, hb, hr, h1, h2, h2', h3, h3', decide_true, decide_false, go_sem, entry, joinEsc, if_pos, reduceIte, Nat.reduceAdd, Nat.reduceLeDiff, Nat.reduceLT, Nat.reduceEqDiff]

/-- what SafeSets returns -/
def setsT (a b o : Int) (ls : List Ld) : AV := if cargoOk a b o ls = true then .tup [.int .i64 (cntS a b o ls (2 ^ ls.length)), .bool true] else .tup [.int .i64 0, .bool false]

theorem e_i_SafeSets {q : Nat} {c : Option Nat} {ls : List Ld} (hq : cellsAt H q = some (encL ls)) (a b o : Int) :
    call T pr f_i_SafeSets [rfV a b o, slL q ls.length c] ⟨H, e⟩ = some (setsT a b o ls, ⟨H, e⟩) := by
  apply Wc.eq
  rw [call_wc t_i_SafeSets]
  have ha := fun G => e_i_areCargo (pr := pr) (e := none) (c := c) (cells_mono hq G) a b o
  unfold setsT
  cases h1 : cargoOk a b o ls with
  | false => simp +contextual only [a_i_SafeSets, c_i_SafeSets, ha, h1, Wp_some, Wp_none, Wp_ite, Wc_some, Wc_none, Wc_ite, Wp_thenRun, seqQ_normal, seqQ_exit, seqQ_ret, Wp_inBlock, blkQ_normal, blkQ_ret, blkQ_same, blkQ_exit, Wp_opThen, opQ_at, Wp_guardP, retQ_normal, retQ_ret, loopQ_normal, loopQ_exit, loopQ_ret, go_sem, entry, joinEsc, if_pos, reduceIte, Nat.reduceAdd, Nat.reduceLeDiff, Nat.reduceLT, Nat.reduceEqDiff]
  | true =>
    have hn8 := cargo_le h1
    obtain ⟨p1, p2, p3⟩ := pow_facts ls.length (by omega)
    have hr := fun G => e_i_Raft_isSafe (pr := pr) (e := none) (c := c) (cells_mono hq G) (by omega) a b o
    simp +contextual only [a_i_SafeSets, c_i_SafeSets, ha, h1, shl_nat, p1, Wp_some, Wp_none, Wp_ite, Wc_some, Wc_none, Wc_ite, Wp_thenRun, seqQ_normal, seqQ_exit, seqQ_ret, Wp_inBlock, blkQ_normal, blkQ_ret, blkQ_same, blkQ_exit, Wp_opThen, opQ_at, Wp_guardP, retQ_normal, retQ_ret, loopQ_normal, loopQ_exit, loopQ_ret, go_sem, entry, joinEsc, if_pos, reduceIte, Nat.reduceAdd, Nat.reduceLeDiff, Nat.reduceLT, Nat.reduceEqDiff]
    refine Wp_loop (fun k st => ∃ (i : Nat) (w6 w7 w10 w11 : AV), i + k = 2 ^ ls.length ∧ st = ⟨[rfV a b o, slL q ls.length c, .ptr (some (H.length, 0)), .int .i64 0, .bool false, .int .i64 (cntS a b o ls i), w6, w7, .int .i64 ((2 ^ ls.length : Nat) : Int), .int .i64 i, w10, w11], ⟨H ++ [.cells [.int .i64 a, .int .i64 b, .int .i64 o] true], none⟩⟩) ?_ (2 ^ ls.length) _ ⟨0, _, _, _, _, Nat.zero_add _, rfl⟩
    rintro k _ ⟨i, w6, w7, w10, w11, hi, rfl⟩
    by_cases hk : k = 0
    · have hd : decide ((i : Int) < ((2 ^ ls.length : Nat) : Int)) = false := decide_eq_false (by omega)
      have hd' : ¬ i < 2 ^ ls.length := by omega
      have he : i = 2 ^ ls.length := by omega
      simp +contextual only [w_i_SafeSets_1, hd, hd', he, Nat.lt_irrefl, decide_false, Wp_some, Wp_none, Wp_ite, Wc_some, Wc_none, Wc_ite, Wp_thenRun, seqQ_normal, seqQ_exit, seqQ_ret, Wp_inBlock, blkQ_normal, blkQ_ret, blkQ_same, blkQ_exit, Wp_opThen, opQ_at, Wp_guardP, retQ_normal, retQ_ret, loopQ_normal, loopQ_exit, loopQ_ret, go_sem, entry, joinEsc, if_pos, reduceIte, Nat.reduceAdd, Nat.reduceLeDiff, Nat.reduceLT, Nat.reduceEqDiff]
    · have hd : decide ((i : Int) < ((2 ^ ls.length : Nat) : Int)) = true := decide_eq_true (by omega)
      have hd' : i < 2 ^ ls.length := by omega
      have hcl := cntS_le a b o ls i
      have hw := wrap_succ (show i < 9223372036854775807 by omega)
      have hwc := wrap_succ (show cntS a b o ls i < 9223372036854775807 by omega)
      have hct : cntS a b o ls (i + 1) = cntS a b o ls i + if safeW a b o ls (i : Int) = true then 1 else 0 := rfl
      cases hs : safeW a b o ls (i : Int) with
      | true =>
        rw [hs, if_pos rfl] at hct
        simp +contextual only [w_i_SafeSets_1, hd, hd', hr, hs, hw, hwc, decide_true, Wp_some, Wp_none, Wp_ite, Wc_some, Wc_none, Wc_ite, Wp_thenRun, seqQ_normal, seqQ_exit, seqQ_ret, Wp_inBlock, blkQ_normal, blkQ_ret, blkQ_same, blkQ_exit, Wp_opThen, opQ_at, Wp_guardP, retQ_normal, retQ_ret, loopQ_normal, loopQ_exit, loopQ_ret, go_sem, entry, joinEsc, if_pos, reduceIte, Nat.reduceAdd, Nat.reduceLeDiff, Nat.reduceLT, Nat.reduceEqDiff]
        exact ⟨k - 1, by omega, i + 1, _, _, _, _, by omega, by rw [hct]⟩
      | false =>
        rw [hs, if_neg (by simp)] at hct
        have hct : cntS a b o ls (i + 1) = cntS a b o ls i := hct
        simp +contextual only [w_i_SafeSets_1, hd, hd', hr, hs, hw, hwc, decide_true, Wp_some, Wp_none, Wp_ite, Wc_some, Wc_none, Wc_ite, Wp_thenRun, seqQ_normal, seqQ_exit, seqQ_ret, Wp_inBlock, blkQ_normal, blkQ_ret, blkQ_same, blkQ_exit, Wp_opThen, opQ_at, Wp_guardP, retQ_normal, retQ_ret, loopQ_normal, loopQ_exit, loopQ_ret, go_sem, entry, joinEsc, if_pos, reduceIte, Nat.reduceAdd, Nat.reduceLeDiff, Nat.reduceLT, Nat.reduceEqDiff]
        exact ⟨k - 1, by omega, i + 1, _, _, _, _, by omega, by rw [hct]⟩

theorem e_s_SafeSets {q : Nat} {c : Option Nat} {ls : List Ld} (hq : cellsAt H q = some (encL ls)) (a b o : Int) :
    call T pr f_s_SafeSets [rfV a b o, slL q ls.length c] ⟨H, e⟩ = some (setsT a b o ls, ⟨H, e⟩) := by
  apply Wc.eq
  rw [call_wc t_s_SafeSets]
  have ha := fun G => e_s_l10Cargo (pr := pr) (e := none) (c := c) (cells_mono hq G) a b o
  unfold setsT
  cases h1 : cargoOk a b o ls with
  | false => simp +contextual only [a_s_SafeSets, c_s_SafeSets, ha, h1, Wp_some, Wp_none, Wp_ite, Wc_some, Wc_none, Wc_ite, Wp_thenRun, seqQ_normal, seqQ_exit, seqQ_ret, Wp_inBlock, blkQ_normal, blkQ_ret, blkQ_same, blkQ_exit, Wp_opThen, opQ_at, Wp_guardP, retQ_normal, retQ_ret, loopQ_normal, loopQ_exit, loopQ_ret, go_sem, entry, joinEsc, if_pos, reduceIte, Nat.reduceAdd, Nat.reduceLeDiff, Nat.reduceLT, Nat.reduceEqDiff]
  | true =>
    have hn8 := cargo_le h1
    obtain ⟨p1, p2, p3⟩ := pow_facts ls.length (by omega)
    have hr := fun G => e_s_l10Safe (pr := pr) (e := none) (c := c) (cells_mono hq G) (by omega) a b o
    simp +contextual only [a_s_SafeSets, c_s_SafeSets, ha, h1, shl_nat, p1, Wp_some, Wp_none, Wp_ite, Wc_some, Wc_none, Wc_ite, Wp_thenRun, seqQ_normal, seqQ_exit, seqQ_ret, Wp_inBlock, blkQ_normal, blkQ_ret, blkQ_same, blkQ_exit, Wp_opThen, opQ_at, Wp_guardP, retQ_normal, retQ_ret, loopQ_normal, loopQ_exit, loopQ_ret, go_sem, entry, joinEsc, if_pos, reduceIte, Nat.reduceAdd, Nat.reduceLeDiff, Nat.reduceLT, Nat.reduceEqDiff]
    refine Wp_loop (fun k st => ∃ (i : Nat) (w7 w8 w9 : AV), i + k = 2 ^ ls.length ∧ st = ⟨[rfV a b o, slL q ls.length c, .ptr (some (H.length, 0)), .int .i64 0, .bool false, .int .i64 (cntS a b o ls i), .int .i64 i, w7, w8, w9], ⟨H ++ [.cells [.int .i64 a, .int .i64 b, .int .i64 o] true], none⟩⟩) ?_ (2 ^ ls.length) _ ⟨0, _, _, _, Nat.zero_add _, rfl⟩
    rintro k _ ⟨i, w7, w8, w9, hi, rfl⟩
    by_cases hk : k = 0
    · have hd : decide ((i : Int) < ((2 ^ ls.length : Nat) : Int)) = false := decide_eq_false (by omega)
      have hd' : ¬ i < 2 ^ ls.length := by omega
      have he : i = 2 ^ ls.length := by omega
      simp +contextual only [w_s_SafeSets_1, hd, hd', he, shl_nat, p1, Nat.lt_irrefl, decide_false, Wp_some, Wp_none, Wp_ite, Wc_some, Wc_none, Wc_ite, Wp_thenRun, seqQ_normal, seqQ_exit, seqQ_ret, Wp_inBlock, blkQ_normal, blkQ_ret, blkQ_same, blkQ_exit, Wp_opThen, opQ_at, Wp_guardP, retQ_normal, retQ_ret, loopQ_normal, loopQ_exit, loopQ_ret, go_sem, entry, joinEsc, if_pos, reduceIte, Nat.reduceAdd, Nat.reduceLeDiff, Nat.reduceLT, Nat.reduceEqDiff]
    · have hd : decide ((i : Int) < ((2 ^ ls.length : Nat) : Int)) = true := decide_eq_true (by omega)
      have hd' : i < 2 ^ ls.length := by omega
      have hcl := cntS_le a b o ls i
      have hw := wrap_succ (show i < 9223372036854775807 by omega)
      have hwc := wrap_succ (show cntS a b o ls i < 9223372036854775807 by omega)
      have hct : cntS a b o ls (i + 1) = cntS a b o ls i + if safeW a b o ls (i : Int) = true then 1 else 0 := rfl
      cases hs : safeW a b o ls (i : Int) with
      | true =>
        rw [hs, if_pos rfl] at hct
        simp +contextual only [w_s_SafeSets_1, hd, hd', hr, hs, hw, hwc, shl_nat, p1, decide_true, Wp_some, Wp_none, Wp_ite, Wc_some, Wc_none, Wc_ite, Wp_thenRun, seqQ_normal, seqQ_exit, seqQ_ret, Wp_inBlock, blkQ_normal, blkQ_ret, blkQ_same, blkQ_exit, Wp_opThen, opQ_at, Wp_guardP, retQ_normal, retQ_ret, loopQ_normal, loopQ_exit, loopQ_ret, go_sem, entry, joinEsc, if_pos, reduceIte, Nat.reduceAdd, Nat.reduceLeDiff, Nat.reduceLT, Nat.reduceEqDiff]
        exact ⟨k - 1, by omega, i + 1, _, _, _, by omega, by rw [hct]⟩
      | false =>
        rw [hs, if_neg (by simp)] at hct
        have hct : cntS a b o ls (i + 1) = cntS a b o ls i := hct
        simp +contextual only [w_s_SafeSets_1, hd, hd', hr, hs, hw, hwc, shl_nat, p1, decide_true, Wp_some, Wp_none, Wp_ite, Wc_some, Wc_none, Wc_ite, Wp_thenRun, seqQ_normal, seqQ_exit, seqQ_ret, Wp_inBlock, blkQ_normal, blkQ_ret, blkQ_same, blkQ_exit, Wp_opThen, opQ_at, Wp_guardP, retQ_normal, retQ_ret, loopQ_normal, loopQ_exit, loopQ_ret, go_sem, entry, joinEsc, if_pos, reduceIte, Nat.reduceAdd, Nat.reduceLeDiff, Nat.reduceLT, Nat.reduceEqDiff]
        exact ⟨k - 1, by omega, i + 1, _, _, _, by omega, by rw [hct]⟩

/-- an order of all items -/
def ordR (a b o : Int) (ls : List Ld) (os : List Int) : Bool := cargoOk a b o ls && (ordOk ls.length 0 os && decide (os.length = ls.length))

theorem e_i_IsSafeOrder {q q' : Nat} {c c' : Option Nat} {ls : List Ld} {os : List Int} (hq : cellsAt H q = some (encL ls)) (h : cellsAt H q' = some (encI os)) (hn : os.length ≤ 1048576) (a b o : Int) :
    call T pr f_i_IsSafeOrder [rfV a b o, slL q ls.length c, slI q' os.length c'] ⟨H, e⟩ = some (.tup [.bool (ordR a b o ls os && decide (tipFrom a b o ls 0 0 os = 0)), .bool (ordR a b o ls os)], ⟨H, e⟩) := by
  rw [call_eq t_i_IsSafeOrder]
  unfold ordR
  cases h1 : cargoOk a b o ls with
  | false => simp +contextual only [a_i_IsSafeOrder, c_i_IsSafeOrder, e_i_areCargo (cells_mono hq _), h1, Bool.false_and, go_sem, entry, joinEsc, if_pos, reduceIte, Nat.reduceAdd, Nat.reduceLeDiff, Nat.reduceLT, Nat.reduceEqDiff]
  | true =>
    have hn8 := cargo_le h1
    cases h2 : (ordOk ls.length 0 os && decide (os.length = ls.length)) with
    | false => simp +contextual only [a_i_IsSafeOrder, c_i_IsSafeOrder, e_i_areCargo (cells_mono hq _), e_i_isOrder hn8 (cells_mono h _) (show os.length ≤ 9223372036854775806 by omega), h1, h2, Bool.and_false, Bool.false_and, go_sem, entry, joinEsc, if_pos, reduceIte, Nat.reduceAdd, Nat.reduceLeDiff, Nat.reduceLT, Nat.reduceEqDiff]
    | true =>
      have ho := (Bool.and_eq_true_iff.mp h2).1
      have hp : decide ((tipFrom a b o ls 0 0 os : Int) = 0) = decide (tipFrom a b o ls 0 0 os = 0) := decide_eq_decide.mpr (by omega)
      simp +contextual only [a_i_IsSafeOrder, c_i_IsSafeOrder, e_i_areCargo (cells_mono hq _), e_i_isOrder hn8 (cells_mono h _) (show os.length ≤ 9223372036854775806 by omega), e_i_Raft_firstTip hn8 (cells_mono hq _) (show ls.length ≤ 9223372036854775806 by omega) (cells_mono h _) (show os.length ≤ 9223372036854775806 by omega) ho, h1, h2, hp, Bool.and_true, Bool.true_and, go_sem, entry, joinEsc, if_pos, reduceIte, Nat.reduceAdd, Nat.reduceLeDiff, Nat.reduceLT, Nat.reduceEqDiff]

theorem e_s_IsSafeOrder {q q' : Nat} {c c' : Option Nat} {ls : List Ld} {os : List Int} (hq : cellsAt H q = some (encL ls)) (h : cellsAt H q' = some (encI os)) (hn : os.length ≤ 1048576) (a b o : Int) :
    call T pr f_s_IsSafeOrder [rfV a b o, slL q ls.length c, slI q' os.length c'] ⟨H, e⟩ = some (.tup [.bool (ordR a b o ls os && decide (tipFrom a b o ls 0 0 os = 0)), .bool (ordR a b o ls os)], ⟨H, e⟩) := by
  rw [call_eq t_s_IsSafeOrder]
  unfold ordR
  cases h1 : (cargoOk a b o ls && (ordOk ls.length 0 os && decide (os.length = ls.length))) with
  | false => simp +contextual only [a_s_IsSafeOrder, c_s_IsSafeOrder, e_s_l10Order (cells_mono hq _) (cells_mono h _) (show os.length ≤ 9223372036854775806 by omega), h1, Bool.false_and, go_sem, entry, joinEsc, if_pos, reduceIte, Nat.reduceAdd, Nat.reduceLeDiff, Nat.reduceLT, Nat.reduceEqDiff]
  | true =>
    have hc := (Bool.and_eq_true_iff.mp h1).1
    have hn8 := cargo_le hc
    have ho := (Bool.and_eq_true_iff.mp (Bool.and_eq_true_iff.mp h1).2).1
    have ht := fun G => e_s_l10Tip (pr := pr) (e := none) (c := c) (c' := c') hn8 (cells_mono hq G) (show ls.length ≤ 9223372036854775806 by omega) (cells_mono h G) (show os.length ≤ 9223372036854775806 by omega) ho a b o
    by_cases h2 : tipFrom a b o ls 0 0 os = 0
    · simp only [h2, if_true] at ht ⊢
      simp +contextual only [a_s_IsSafeOrder, c_s_IsSafeOrder, e_s_l10Order (cells_mono hq _) (cells_mono h _) (show os.length ≤ 9223372036854775806 by omega), ht, h1, show ((-1 : Int) < 0) by omega, decide_true, Bool.and_true, go_sem, entry, joinEsc, if_pos, reduceIte, Nat.reduceAdd, Nat.reduceLeDiff, Nat.reduceLT, Nat.reduceEqDiff]
    · simp only [h2, if_false] at ht
      have h3 : ¬ ((tipFrom a b o ls 0 0 os : Int) < 0) := by omega
      simp +contextual only [a_s_IsSafeOrder, c_s_IsSafeOrder, e_s_l10Order (cells_mono hq _) (cells_mono h _) (show os.length ≤ 9223372036854775806 by omega), ht, h1, h2, h3, decide_false, Bool.and_false, go_sem, entry, joinEsc, if_pos, reduceIte, Nat.reduceAdd, Nat.reduceLeDiff, Nat.reduceLT, Nat.reduceEqDiff]

theorem e_s_IsRaft (a b o : Int) : call T pr f_s_IsRaft [rfV a b o] ⟨H, e⟩ = some (.bool (raftOk a b o), ⟨H, e⟩) := by
  rw [call_eq t_s_IsRaft]
  simp +contextual only [a_s_IsRaft, c_s_IsRaft, e_s_l10Raft, go_sem, entry, joinEsc, if_pos, reduceIte, Nat.reduceAdd, Nat.reduceLeDiff, Nat.reduceLT, Nat.reduceEqDiff]

theorem e_l_rHas {q : Nat} {c : Option Nat} {ls : List Int} (h : cellsAt H q = some (encI ls)) (hn : ls.length ≤ 1048576) (x : Int) (n : Nat) (hnl : n ≤ ls.length) : call T pr f_l_rHas [slI q n c, .int .i64 x] ⟨H, e⟩ = some (.bool (decide (x ∈ ls.take n)), ⟨H, e⟩) := by
  apply Wc.eq
  rw [call_wc t_l_rHas]
  simp +contextual only [a_l_rHas, c_l_rHas, Wp_some, Wp_none, Wp_ite, Wc_some, Wc_none, Wc_ite, Wp_thenRun, seqQ_normal, seqQ_exit, seqQ_ret, Wp_inBlock, blkQ_normal, blkQ_ret, blkQ_same, blkQ_exit, Wp_opThen, opQ_at, Wp_guardP, retQ_normal, retQ_ret, loopQ_normal, loopQ_exit, loopQ_ret, go_sem, entry, joinEsc, if_pos, reduceIte, Nat.reduceAdd, Nat.reduceLeDiff, Nat.reduceLT, Nat.reduceEqDiff]
  refine Wp_loop (fun k st => ∃ (i : Nat) (w4 w5 : AV), i + k = n ∧ x ∉ ls.take i ∧ st = ⟨[slI q n c, .int .i64 x, .bool false, .int .i64 i, w4, w5], ⟨H, none⟩⟩) ?_ n _ ⟨0, _, _, Nat.zero_add _, by simp, rfl⟩
  rintro k _ ⟨i, w4, w5, hi, hx, rfl⟩
  by_cases hk : k = 0
  · have hd' : ¬ i < n := by omega
    have he : i = n := by omega
    subst he
    simp +contextual only [w_l_rHas_1, hx, Nat.lt_irrefl, decide_false, Wp_some, Wp_none, Wp_ite, Wc_some, Wc_none, Wc_ite, Wp_thenRun, seqQ_normal, seqQ_exit, seqQ_ret, Wp_inBlock, blkQ_normal, blkQ_ret, blkQ_same, blkQ_exit, Wp_opThen, opQ_at, Wp_guardP, retQ_normal, retQ_ret, loopQ_normal, loopQ_exit, loopQ_ret, finish_one_eq, finish_one_eq0, finish_two_eq, finish_two_eq0, roots_slice_new, roots_slice_new0, roots_slice_none, roots_ptr_new, roots_ptr_new0, roots_int, roots_bool, roots_str, roots_agg, roots_tup, roots_cons, roots_nil, rename_slice, rename_slice_none, rename_ptr, rename_int, rename_bool, rename_str, rename_agg, rename_tup, rename_cons, rename_nil, keepBlks_nil, keepBlks_cons, flatAll_nil, flatAll_cons, flatBlk_cells, dedup_nil, dedup_one, dedup_two, renum_one, renum_one0, renum_two0, renum_two1, clean_none', clean_some, minEsc_none, minEsc_some, Nat.add_left_cancel_iff, Nat.le_add_right, Nat.le_refl, decide_true, go_sem, entry, joinEsc, if_pos, reduceIte, Nat.reduceAdd, Nat.reduceLeDiff, Nat.reduceLT, Nat.reduceEqDiff]
  · have hd' : i < n := by omega
    have hil : i < ls.length := by omega
    have hl : ls[i]? = some ls[i] := List.getElem?_eq_getElem hil
    have hw := wrap_succ (show i < 9223372036854775807 by omega)
    have hts : ls.take (i + 1) = ls.take i ++ [ls[i]] := List.take_succ_eq_append_getElem hil
    by_cases hxe : ls[i] = x
    · have hin : x ∈ ls.take n := by
        rw [← hxe]
        have := List.getElem_mem (l := ls.take n) (n := i) (by rw [List.length_take]; omega)
        rwa [List.getElem_take] at this
      simp +contextual only [w_l_rHas_1, h, hd', hxe, hin, part_encI _ hl, Nat.mul_one, decide_true, Wp_some, Wp_none, Wp_ite, Wc_some, Wc_none, Wc_ite, Wp_thenRun, seqQ_normal, seqQ_exit, seqQ_ret, Wp_inBlock, blkQ_normal, blkQ_ret, blkQ_same, blkQ_exit, Wp_opThen, opQ_at, Wp_guardP, retQ_normal, retQ_ret, loopQ_normal, loopQ_exit, loopQ_ret, finish_one_eq, finish_one_eq0, finish_two_eq, finish_two_eq0, roots_slice_new, roots_slice_new0, roots_slice_none, roots_ptr_new, roots_ptr_new0, roots_int, roots_bool, roots_str, roots_agg, roots_tup, roots_cons, roots_nil, rename_slice, rename_slice_none, rename_ptr, rename_int, rename_bool, rename_str, rename_agg, rename_tup, rename_cons, rename_nil, keepBlks_nil, keepBlks_cons, flatAll_nil, flatAll_cons, flatBlk_cells, dedup_nil, dedup_one, dedup_two, renum_one, renum_one0, renum_two0, renum_two1, clean_none', clean_some, minEsc_none, minEsc_some, Nat.add_left_cancel_iff, Nat.le_add_right, Nat.le_refl, decide_true, go_sem, entry, joinEsc, if_pos, reduceIte, Nat.reduceAdd, Nat.reduceLeDiff, Nat.reduceLT, Nat.reduceEqDiff]
    · have hnx : x ∉ ls.take (i + 1) := by
        rw [hts, List.mem_append, List.mem_singleton]
        rintro (h | h)
        · exact hx h
        · exact hxe h.symm
      simp +contextual only [w_l_rHas_1, h, hd', hxe, hw, part_encI _ hl, Nat.mul_one, decide_true, decide_false, Wp_some, Wp_none, Wp_ite, Wc_some, Wc_none, Wc_ite, Wp_thenRun, seqQ_normal, seqQ_exit, seqQ_ret, Wp_inBlock, blkQ_normal, blkQ_ret, blkQ_same, blkQ_exit, Wp_opThen, opQ_at, Wp_guardP, retQ_normal, retQ_ret, loopQ_normal, loopQ_exit, loopQ_ret, go_sem, entry, joinEsc, if_pos, reduceIte, Nat.reduceAdd, Nat.reduceLeDiff, Nat.reduceLT, Nat.reduceEqDiff]
      exact ⟨k - 1, by omega, i + 1, _, _, by omega, hnx, rfl⟩

end Go.Proofs.Ytlcklonakjhoiaa.Slim

/- Rafts: the law on sets and first tips: its loops. -/
namespace Go.Proofs.Ytlcklonakjhoiaa.Slim

open Go

set_option linter.unusedSimpArgs false

set_option linter.unusedVariables false

variable {pr : Prims} {H : List Blk} {e : Option Nat}

theorem encI_snoc (xs : List Int) (x : Int) : encI xs ++ [AV.int .i64 x] = encI (xs ++ [x]) := by simp [encI]

/-- the items of a set, listed -/
theorem rafts_1 {a0 a1 a2 a4 a5 a6 a7 a8 a9 a10 a11 a12 a13 a14 a15 a16 a17 a18 a19 a20 a21 a22 a23 a24 a25 a26 a27 a28 a29 a30 a31 a35 a36 a37 a38 a39 a40 a41 a42 a43 a44 a45 a46 a47 a48 a49 a50 a51 a54 a55 a56 a57 a58 a59 a60 a61 a62 a52 a53 : AV} {q n m : Nat} {c : Option Nat} (hn8 : n ≤ 8) (hm : m < 2 ^ n) :
    Wp (run T pr (.loop w_l_FnRafts_1) ⟨[a0, a1, a2, slL q n c, a4, a5, a6, a7, a8, a9, a10, a11, a12, a13, a14, a15, a16, a17, a18, a19, a20, a21, a22, a23, a24, a25, a26, a27, a28, a29, a30, a31, .int .i64 m, slI H.length 0 (some 0), .int .i64 0, a35, a36, a37, a38, a39, a40, a41, a42, a43, a44, a45, a46, a47, a48, a49, a50, a51, a52, a53, a54, a55, a56, a57, a58, a59, a60, a61, a62], ⟨H ++ [.cells [] true], none⟩⟩) (fun ex st => ex = .exit 2 ∧ ∃ (L : List Blk) (b : Nat) (c' : Option Nat) (w52 w53 : AV), Grown H L ∧ L[b]? = some (.cells (encI (setL n m)) true) ∧ st = ⟨[a0, a1, a2, slL q n c, a4, a5, a6, a7, a8, a9, a10, a11, a12, a13, a14, a15, a16, a17, a18, a19, a20, a21, a22, a23, a24, a25, a26, a27, a28, a29, a30, a31, .int .i64 m, slI b (setL n m).length c', .int .i64 n, a35, a36, a37, a38, a39, a40, a41, a42, a43, a44, a45, a46, a47, a48, a49, a50, a51, w52, w53, a54, a55, a56, a57, a58, a59, a60, a61, a62], ⟨L, none⟩⟩) := by
  have hp8 : (2 : Nat) ^ n ≤ 2 ^ 8 := Nat.pow_le_pow_right (by omega) hn8
  have h256 : (2 : Nat) ^ 8 = 256 := by decide
  refine Wp_loop (fun k st => ∃ (i : Nat) (L : List Blk) (b : Nat) (c' : Option Nat) (w52 w53 : AV), i + k = n ∧ H.length ≤ b ∧ (c' = some 0 → (setL i m).length = 0) ∧ Grown H L ∧ L[b]? = some (.cells (encI (setL i m)) true) ∧ st = ⟨[a0, a1, a2, slL q n c, a4, a5, a6, a7, a8, a9, a10, a11, a12, a13, a14, a15, a16, a17, a18, a19, a20, a21, a22, a23, a24, a25, a26, a27, a28, a29, a30, a31, .int .i64 m, slI b (setL i m).length c', .int .i64 i, a35, a36, a37, a38, a39, a40, a41, a42, a43, a44, a45, a46, a47, a48, a49, a50, a51, w52, w53, a54, a55, a56, a57, a58, a59, a60, a61, a62], ⟨L, none⟩⟩) ?_ n _
    ⟨0, _, H.length, some 0, _, _, Nat.zero_add _, Nat.le_refl _, fun _ => rfl, ⟨_, rfl⟩, by rw [blkAt_new0]; rfl, rfl⟩
  rintro k _ ⟨i, L, b, c', w52, w53, hi, hb, hcap, hg, hL, rfl⟩
  by_cases hk : k = 0
  · have hd' : ¬ i < n := by omega
    have he : i = n := by omega
    subst he
    simp (maxSteps := 2000000) +contextual only [w_l_FnRafts_1, Nat.lt_irrefl, decide_false, Wp_some, Wp_none, Wp_ite, Wc_some, Wc_none, Wc_ite, Wp_thenRun, seqQ_normal, seqQ_exit, seqQ_ret, Wp_inBlock, blkQ_normal, blkQ_ret, blkQ_same, blkQ_exit, Wp_opThen, opQ_at, Wp_guardP, retQ_normal, retQ_ret, loopQ_normal, loopQ_exit, loopQ_ret, go_sem, entry, joinEsc, if_pos, reduceIte, Nat.reduceAdd, Nat.reduceLeDiff, Nat.reduceLT, Nat.reduceEqDiff]
    exact ⟨L, b, c', _, _, hg, hL, rfl⟩
  · have hd' : i < n := by omega
    have hw := wrap_succ (show i < 9223372036854775807 by omega)
    have hsu := setL_succ i m
    have hlen := setL_len i m
    cases hbit : m.testBit i with
    | false =>
      have hb0 := bit_clear (c := m) (i := i) (by omega) (by omega) hbit
      rw [hbit, if_neg (by simp), List.append_nil] at hsu
      simp (maxSteps := 2000000) +contextual only [w_l_FnRafts_1, hd', shr_nat, hb0, hw, show ¬ ((0 : Int) = 1) by omega, decide_false, decide_true, Wp_some, Wp_none, Wp_ite, Wc_some, Wc_none, Wc_ite, Wp_thenRun, seqQ_normal, seqQ_exit, seqQ_ret, Wp_inBlock, blkQ_normal, blkQ_ret, blkQ_same, blkQ_exit, Wp_opThen, opQ_at, Wp_guardP, retQ_normal, retQ_ret, loopQ_normal, loopQ_exit, loopQ_ret, go_sem, entry, joinEsc, if_pos, reduceIte, Nat.reduceAdd, Nat.reduceLeDiff, Nat.reduceLT, Nat.reduceEqDiff]
      exact ⟨k - 1, by omega, i + 1, L, b, c', _, _, by omega, hb, by rw [hsu]; exact hcap, hg, by rw [hsu]; exact hL, by rw [hsu]⟩
    | true =>
      have hb1 := bit_set (c := m) (i := i) (by omega) (by omega) hbit
      rw [hbit, if_pos rfl] at hsu
      simp (maxSteps := 2000000) +contextual only [w_l_FnRafts_1, fillParts, hd', shr_nat, hb1, hw, decide_true, Wp_some, Wp_none, Wp_ite, Wc_some, Wc_none, Wc_ite, Wp_thenRun, seqQ_normal, seqQ_exit, seqQ_ret, Wp_inBlock, blkQ_normal, blkQ_ret, blkQ_same, blkQ_exit, Wp_opThen, opQ_at, Wp_guardP, retQ_normal, retQ_ret, loopQ_normal, loopQ_exit, loopQ_ret, go_sem, entry, joinEsc, if_pos, reduceIte, Nat.reduceAdd, Nat.reduceLeDiff, Nat.reduceLT, Nat.reduceEqDiff]
      refine wc_ap (k := 1) (new := [.int .i64 i]) (get_more hL _) (src_new _ 1 1 _ _ L.length (by simp +contextual only [go_sem, entry, joinEsc, if_pos, reduceIte, Nat.reduceAdd, Nat.reduceLeDiff, Nat.reduceLT, Nat.reduceEqDiff]) rfl) (by simp) rfl (by unfold maxBytes; omega) hcap ?_
      intro L2 e1 e2 e3 e4
      rw [encI_snoc, ← hsu] at e3
      simp (maxSteps := 2000000) +contextual only [hw, Wp_some, Wp_none, Wp_ite, Wc_some, Wc_none, Wc_ite, Wp_thenRun, seqQ_normal, seqQ_exit, seqQ_ret, Wp_inBlock, blkQ_normal, blkQ_ret, blkQ_same, blkQ_exit, Wp_opThen, opQ_at, Wp_guardP, retQ_normal, retQ_ret, loopQ_normal, loopQ_exit, loopQ_ret, go_sem, entry, joinEsc, if_pos, reduceIte, Nat.reduceAdd, Nat.reduceLeDiff, Nat.reduceLT, Nat.reduceEqDiff]
      rw [show (setL i m).length + 1 = (setL (i + 1) m).length by rw [hsu]; simp]
      exact ⟨k - 1, by omega, i + 1, L2, _, none, _, _, by omega, by have := hg.le; omega, by simp, e4 _ (hg.more _) hb, by simpa using e3, rfl⟩

/-- the safe sets, counted by their sides -/
theorem rafts_2 {a0 a1 a4 a5 a6 a7 a8 a9 a10 a11 a12 a13 a14 a15 a16 a17 a18 a19 a20 a21 a22 a23 a24 a25 a26 a27 a28 a29 a30 a37 a38 a39 a40 a41 a42 a43 a44 a45 a46 a47 a48 a49 a50 a56 a57 a58 a59 a60 a61 a62 a33 a34 a35 a36 a51 a52 a53 a54 a55 : AV} {q u : Nat} {c : Option Nat} {ls : List Ld} {a b o : Int} (hq : cellsAt H q = some (encL ls)) (hu : cellsAt H u = some [.int .i64 a, .int .i64 b, .int .i64 o]) (hok : cargoOk a b o ls = true) :
    Wp (run T pr (.loop w_l_FnRafts_2) ⟨[a0, a1, .ptr (some (u, 0)), slL q ls.length c, a4, a5, a6, a7, a8, a9, a10, a11, a12, a13, a14, a15, a16, a17, a18, a19, a20, a21, a22, a23, a24, a25, a26, a27, a28, a29, a30, .int .i64 0, .int .i64 0, a33, a34, a35, a36, a37, a38, a39, a40, a41, a42, a43, a44, a45, a46, a47, a48, a49, a50, a51, a52, a53, a54, a55, a56, a57, a58, a59, a60, a61, a62], ⟨H, none⟩⟩) (fun ex st => ex = .exit 0 ∧ ∃ (L : List Blk) (w33 w34 w35 w36 w51 w52 w53 w54 w55 : AV), Grown H L ∧ st = ⟨[a0, a1, .ptr (some (u, 0)), slL q ls.length c, a4, a5, a6, a7, a8, a9, a10, a11, a12, a13, a14, a15, a16, a17, a18, a19, a20, a21, a22, a23, a24, a25, a26, a27, a28, a29, a30, .int .i64 (cntS a b o ls (2 ^ ls.length)), .int .i64 ((2 ^ ls.length : Nat) : Int), w33, w34, w35, w36, a37, a38, a39, a40, a41, a42, a43, a44, a45, a46, a47, a48, a49, a50, w51, w52, w53, w54, w55, a56, a57, a58, a59, a60, a61, a62], ⟨L, none⟩⟩) := by
  have hn8 := cargo_le hok
  obtain ⟨p1, p2, p3⟩ := pow_facts ls.length (by omega)
  refine Wp_loop (fun k st => ∃ (i : Nat) (L : List Blk) (w33 w34 w35 w36 w51 w52 w53 w54 w55 : AV), i + k = 2 ^ ls.length ∧ Grown H L ∧ st = ⟨[a0, a1, .ptr (some (u, 0)), slL q ls.length c, a4, a5, a6, a7, a8, a9, a10, a11, a12, a13, a14, a15, a16, a17, a18, a19, a20, a21, a22, a23, a24, a25, a26, a27, a28, a29, a30, .int .i64 (cntS a b o ls i), .int .i64 i, w33, w34, w35, w36, a37, a38, a39, a40, a41, a42, a43, a44, a45, a46, a47, a48, a49, a50, w51, w52, w53, w54, w55, a56, a57, a58, a59, a60, a61, a62], ⟨L, none⟩⟩) ?_ (2 ^ ls.length) _
    ⟨0, _, _, _, _, _, _, _, _, _, _, Nat.zero_add _, Grown.refl _, rfl⟩
  rintro k _ ⟨i, L, w33, w34, w35, w36, w51, w52, w53, w54, w55, hi, hg, rfl⟩
  by_cases hk : k = 0
  · have hd' : ¬ i < 2 ^ ls.length := by omega
    have he : i = 2 ^ ls.length := by omega
    have hd : decide ((i : Int) < ((2 ^ ls.length : Nat) : Int)) = false := decide_eq_false (by omega)
    simp (maxSteps := 2000000) +contextual only [w_l_FnRafts_2, shl_nat, p1, hd, hd', he, Nat.lt_irrefl, decide_false, Wp_some, Wp_none, Wp_ite, Wc_some, Wc_none, Wc_ite, Wp_thenRun, seqQ_normal, seqQ_exit, seqQ_ret, Wp_inBlock, blkQ_normal, blkQ_ret, blkQ_same, blkQ_exit, Wp_opThen, opQ_at, Wp_guardP, retQ_normal, retQ_ret, loopQ_normal, loopQ_exit, loopQ_ret, go_sem, entry, joinEsc, if_pos, reduceIte, Nat.reduceAdd, Nat.reduceLeDiff, Nat.reduceLT, Nat.reduceEqDiff]
    exact ⟨L, _, _, _, _, _, _, _, _, _, hg, rfl⟩
  · have hd' : i < 2 ^ ls.length := by omega
    have hd : decide ((i : Int) < ((2 ^ ls.length : Nat) : Int)) = true := decide_eq_true (by omega)
    have hw := wrap_succ (show i < 9223372036854775807 by omega)
    have hcl := cntS_le a b o ls i
    have hwc := wrap_succ (show cntS a b o ls i < 9223372036854775807 by omega)
    have hct : cntS a b o ls (i + 1) = cntS a b o ls i + if safeW a b o ls (i : Int) = true then 1 else 0 := rfl
    obtain ⟨f1, f2⟩ := setL_facts ls.length (by omega) i hd'
    have hset : setOk a b o ls (setL ls.length i) = true := by unfold setOk; rw [hok, f1]; rfl
    simp (maxSteps := 2000000) +contextual only [w_l_FnRafts_2, fillParts, shl_nat, p1, hd, hd', decide_true, Wp_some, Wp_none, Wp_ite, Wc_some, Wc_none, Wc_ite, Wp_thenRun, seqQ_normal, seqQ_exit, seqQ_ret, Wp_inBlock, blkQ_normal, blkQ_ret, blkQ_same, blkQ_exit, Wp_opThen, opQ_at, Wp_guardP, retQ_normal, retQ_ret, loopQ_normal, loopQ_exit, loopQ_ret, go_sem, entry, joinEsc, if_pos, reduceIte, Nat.reduceAdd, Nat.reduceLeDiff, Nat.reduceLT, Nat.reduceEqDiff]
    refine (rafts_1 (H := L) hn8 hd').mono ?_
    rintro ex st ⟨rfl, L', b', c', w52', w53', hg', hL', rfl⟩
    obtain ⟨G', rfl⟩ := hg'
    obtain ⟨G, rfl⟩ := hg
    rw [List.append_assoc] at hL' ⊢
    have hls : (setL ls.length i).length ≤ 1048576 := Nat.le_trans (setL_len _ _) (by omega)
    have hr := e_i_RaftSide (pr := pr) (H := H ++ (G ++ G')) (e := none) (c := c) (c' := c') (cells_mono hq _) (cellsAt_of hL') (by omega) hls a b o
    unfold sideT at hr
    rw [hset, if_pos rfl, f2] at hr
    have hz := sideR_zero a b o ls (i : Int)
    have hu' := cells_mono hu (G ++ G')
    cases hs : safeW a b o ls (i : Int) with
    | true =>
      rw [hs, if_pos rfl] at hct
      rw [hz.mpr hs] at hr
      simp (maxSteps := 2000000) +contextual only [hr, hu', hw, hwc, decide_true, Wp_some, Wp_none, Wp_ite, Wc_some, Wc_none, Wc_ite, Wp_thenRun, seqQ_normal, seqQ_exit, seqQ_ret, Wp_inBlock, blkQ_normal, blkQ_ret, blkQ_same, blkQ_exit, Wp_opThen, opQ_at, Wp_guardP, retQ_normal, retQ_ret, loopQ_normal, loopQ_exit, loopQ_ret, go_sem, entry, joinEsc, if_pos, reduceIte, Nat.reduceAdd, Nat.reduceLeDiff, Nat.reduceLT, Nat.reduceEqDiff]
      exact ⟨k - 1, by omega, i + 1, _, _, _, _, _, _, _, _, _, _, by omega, ⟨_, rfl⟩, by rw [hct]⟩
    | false =>
      rw [hs, if_neg (by simp)] at hct
      have hct : cntS a b o ls (i + 1) = cntS a b o ls i := hct
      have hnz : ¬ sideR a b o ls (i : Int) = 0 := fun h => by rw [hz.mp h] at hs; cases hs
      simp (maxSteps := 2000000) +contextual only [hr, hu', hw, hwc, hnz, decide_false, Wp_some, Wp_none, Wp_ite, Wc_some, Wc_none, Wc_ite, Wp_thenRun, seqQ_normal, seqQ_exit, seqQ_ret, Wp_inBlock, blkQ_normal, blkQ_ret, blkQ_same, blkQ_exit, Wp_opThen, opQ_at, Wp_guardP, retQ_normal, retQ_ret, loopQ_normal, loopQ_exit, loopQ_ret, go_sem, entry, joinEsc, if_pos, reduceIte, Nat.reduceAdd, Nat.reduceLeDiff, Nat.reduceLT, Nat.reduceEqDiff]
      exact ⟨k - 1, by omega, i + 1, _, _, _, _, _, _, _, _, _, _, by omega, ⟨_, rfl⟩, by rw [hct]⟩

/-- the items among these, listed -/
def hasL (os : List Int) (i : Nat) : List Int := ((List.range i).filter fun (j : Nat) => decide ((j : Int) ∈ os)).map fun (j : Nat) => (j : Int)

theorem hasL_succ (os : List Int) (i : Nat) : hasL os (i + 1) = hasL os i ++ (if (i : Int) ∈ os then [(i : Int)] else []) := by
  unfold hasL
  rw [List.range_succ, List.filter_append, List.map_append]
  by_cases h : (i : Int) ∈ os <;> simp [h]

theorem hasL_len (os : List Int) (n : Nat) : (hasL os n).length ≤ n := by
  unfold hasL
  rw [List.length_map]
  exact Nat.le_trans (List.length_filter_le _ _) (by simp)

theorem rafts_3 {a0 a1 a2 a3 a4 a5 a6 a7 a8 a9 a10 a11 a12 a13 a14 a15 a16 a17 a18 a19 a22 a23 a24 a25 a26 a27 a28 a29 a30 a31 a32 a33 a34 a35 a36 a37 a41 a42 a43 a44 a45 a46 a47 a48 a49 a50 a51 a52 a53 a54 a55 a56 a57 a58 a61 a62 a59 a60 : AV} {q q' n K : Nat} {c c' : Option Nat} {os : List Int} (hn8 : n ≤ 8) (hq' : cellsAt H q' = some (encI os)) (hos : os.length ≤ 1048576) (hK : K ≤ os.length) :
    Wp (run T pr (.loop w_l_FnRafts_3) ⟨[a0, a1, a2, a3, a4, a5, a6, a7, a8, a9, a10, a11, a12, a13, a14, a15, a16, a17, a18, a19, slL q n c, slI q' os.length c', a22, a23, a24, a25, a26, a27, a28, a29, a30, a31, a32, a33, a34, a35, a36, a37, .int .i64 K, slI H.length 0 (some 0), .int .i64 0, a41, a42, a43, a44, a45, a46, a47, a48, a49, a50, a51, a52, a53, a54, a55, a56, a57, a58, a59, a60, a61, a62], ⟨H ++ [.cells [] true], none⟩⟩) (fun ex st => ex = .exit 6 ∧ ∃ (L : List Blk) (b : Nat) (c'' : Option Nat) (w59 w60 : AV), Grown H L ∧ L[b]? = some (.cells (encI (hasL (os.take K) n)) true) ∧ st = ⟨[a0, a1, a2, a3, a4, a5, a6, a7, a8, a9, a10, a11, a12, a13, a14, a15, a16, a17, a18, a19, slL q n c, slI q' os.length c', a22, a23, a24, a25, a26, a27, a28, a29, a30, a31, a32, a33, a34, a35, a36, a37, .int .i64 K, slI b (hasL (os.take K) n).length c'', .int .i64 n, a41, a42, a43, a44, a45, a46, a47, a48, a49, a50, a51, a52, a53, a54, a55, a56, a57, a58, w59, w60, a61, a62], ⟨L, none⟩⟩) := by
  refine Wp_loop (fun k st => ∃ (i : Nat) (L : List Blk) (b : Nat) (c'' : Option Nat) (w59 w60 : AV), i + k = n ∧ H.length ≤ b ∧ (c'' = some 0 → (hasL (os.take K) i).length = 0) ∧ Grown H L ∧ L[b]? = some (.cells (encI (hasL (os.take K) i)) true) ∧ st = ⟨[a0, a1, a2, a3, a4, a5, a6, a7, a8, a9, a10, a11, a12, a13, a14, a15, a16, a17, a18, a19, slL q n c, slI q' os.length c', a22, a23, a24, a25, a26, a27, a28, a29, a30, a31, a32, a33, a34, a35, a36, a37, .int .i64 K, slI b (hasL (os.take K) i).length c'', .int .i64 i, a41, a42, a43, a44, a45, a46, a47, a48, a49, a50, a51, a52, a53, a54, a55, a56, a57, a58, w59, w60, a61, a62], ⟨L, none⟩⟩) ?_ n _
    ⟨0, _, H.length, some 0, _, _, Nat.zero_add _, Nat.le_refl _, fun _ => rfl, ⟨_, rfl⟩, by rw [blkAt_new0]; rfl, rfl⟩
  rintro k _ ⟨i, L, b, c'', w59, w60, hi, hb, hcap, hg, hL, rfl⟩
  by_cases hk : k = 0
  · have hd' : ¬ i < n := by omega
    have he : i = n := by omega
    subst he
    simp (maxSteps := 2000000) +contextual only [w_l_FnRafts_3, Nat.lt_irrefl, decide_false, Wp_some, Wp_none, Wp_ite, Wc_some, Wc_none, Wc_ite, Wp_thenRun, seqQ_normal, seqQ_exit, seqQ_ret, Wp_inBlock, blkQ_normal, blkQ_ret, blkQ_same, blkQ_exit, Wp_opThen, opQ_at, Wp_guardP, retQ_normal, retQ_ret, loopQ_normal, loopQ_exit, loopQ_ret, go_sem, entry, joinEsc, if_pos, reduceIte, Nat.reduceAdd, Nat.reduceLeDiff, Nat.reduceLT, Nat.reduceEqDiff]
    exact ⟨L, b, c'', _, _, hg, hL, rfl⟩
  · have hd' : i < n := by omega
    have hw := wrap_succ (show i < 9223372036854775807 by omega)
    have hsu := hasL_succ (os.take K) i
    have hlen := hasL_len (os.take K) i
    have hqL : cellsAt L q' = some (encI os) := by
      obtain ⟨G, rfl⟩ := hg
      exact cells_mono hq' G
    have hrh := e_l_rHas (pr := pr) (H := L) (e := none) (c := c') hqL hos (i : Int) K hK
    have hsl := slHiV_c 1 q' os.length K c' hK
    by_cases hin : (i : Int) ∈ os.take K
    · rw [if_pos hin] at hsu
      simp (maxSteps := 2000000) +contextual only [w_l_FnRafts_3, fillParts, aop_slHi, hsl, hrh, hd', hin, hw, decide_true, Wp_some, Wp_none, Wp_ite, Wc_some, Wc_none, Wc_ite, Wp_thenRun, seqQ_normal, seqQ_exit, seqQ_ret, Wp_inBlock, blkQ_normal, blkQ_ret, blkQ_same, blkQ_exit, Wp_opThen, opQ_at, Wp_guardP, retQ_normal, retQ_ret, loopQ_normal, loopQ_exit, loopQ_ret, go_sem, entry, joinEsc, if_pos, reduceIte, Nat.reduceAdd, Nat.reduceLeDiff, Nat.reduceLT, Nat.reduceEqDiff]
      refine wc_ap (k := 1) (new := [.int .i64 i]) (get_more hL _) (src_new _ 1 1 _ _ L.length (by simp +contextual only [go_sem, entry, joinEsc, if_pos, reduceIte, Nat.reduceAdd, Nat.reduceLeDiff, Nat.reduceLT, Nat.reduceEqDiff]) rfl) (by simp) rfl (by unfold maxBytes; omega) hcap ?_
      intro L2 e1 e2 e3 e4
      rw [encI_snoc, ← hsu] at e3
      simp (maxSteps := 2000000) +contextual only [hw, Wp_some, Wp_none, Wp_ite, Wc_some, Wc_none, Wc_ite, Wp_thenRun, seqQ_normal, seqQ_exit, seqQ_ret, Wp_inBlock, blkQ_normal, blkQ_ret, blkQ_same, blkQ_exit, Wp_opThen, opQ_at, Wp_guardP, retQ_normal, retQ_ret, loopQ_normal, loopQ_exit, loopQ_ret, go_sem, entry, joinEsc, if_pos, reduceIte, Nat.reduceAdd, Nat.reduceLeDiff, Nat.reduceLT, Nat.reduceEqDiff]
      rw [show (hasL (os.take K) i).length + 1 = (hasL (os.take K) (i + 1)).length by rw [hsu]; simp]
      exact ⟨k - 1, by omega, i + 1, L2, _, none, _, _, by omega, by have := hg.le; omega, by simp, e4 _ (hg.more _) hb, by simpa using e3, rfl⟩
    · rw [if_neg hin, List.append_nil] at hsu
      simp (maxSteps := 2000000) +contextual only [w_l_FnRafts_3, aop_slHi, hsl, hrh, hd', hin, hw, decide_false, decide_true, Wp_some, Wp_none, Wp_ite, Wc_some, Wc_none, Wc_ite, Wp_thenRun, seqQ_normal, seqQ_exit, seqQ_ret, Wp_inBlock, blkQ_normal, blkQ_ret, blkQ_same, blkQ_exit, Wp_opThen, opQ_at, Wp_guardP, retQ_normal, retQ_ret, loopQ_normal, loopQ_exit, loopQ_ret, go_sem, entry, joinEsc, if_pos, reduceIte, Nat.reduceAdd, Nat.reduceLeDiff, Nat.reduceLT, Nat.reduceEqDiff]
      exact ⟨k - 1, by omega, i + 1, L, b, c'', _, _, by omega, hb, by rw [hsu]; exact hcap, hg, by rw [hsu]; exact hL, by rw [hsu]⟩

/-- a first tip, or -1 -/
def fstI (t : Nat) : Int := if t = 0 then -1 else (t : Int)

theorem rafts_4 {a0 a1 a2 a3 a4 a5 a6 a7 a8 a9 a10 a11 a12 a13 a14 a15 a16 a17 a18 a22 a23 a24 a25 a26 a27 a28 a29 a30 a31 a32 a33 a34 a35 a36 a43 a44 a45 a46 a47 a48 a49 a50 a51 a52 a53 a54 a55 a56 a57 a39 a40 a41 a42 a58 a59 a60 a61 a62 : AV} {q q' u : Nat} {c c' : Option Nat} {ls : List Ld} {os : List Int} {a b o : Int} (hq : cellsAt H q = some (encL ls)) (hq' : cellsAt H q' = some (encI os)) (hu : cellsAt H u = some [.int .i64 a, .int .i64 b, .int .i64 o]) (hok : ordR a b o ls os = true) :
    Wp (run T pr (.loop w_l_FnRafts_4) ⟨[a0, a1, a2, a3, a4, a5, a6, a7, a8, a9, a10, a11, a12, a13, a14, a15, a16, a17, a18, .ptr (some (u, 0)), slL q ls.length c, slI q' os.length c', a22, a23, a24, a25, a26, a27, a28, a29, a30, a31, a32, a33, a34, a35, a36, .int .i64 (-1), .int .i64 1, a39, a40, a41, a42, a43, a44, a45, a46, a47, a48, a49, a50, a51, a52, a53, a54, a55, a56, a57, a58, a59, a60, a61, a62], ⟨H, none⟩⟩) (fun ex st => ex = .exit 4 ∧ ∃ (L : List Blk) (w38 w39 w40 w41 w42 w58 w59 w60 w61 w62 : AV), st = ⟨[a0, a1, a2, a3, a4, a5, a6, a7, a8, a9, a10, a11, a12, a13, a14, a15, a16, a17, a18, .ptr (some (u, 0)), slL q ls.length c, slI q' os.length c', a22, a23, a24, a25, a26, a27, a28, a29, a30, a31, a32, a33, a34, a35, a36, .int .i64 (fstI (tipFrom a b o ls 0 0 os)), w38, w39, w40, w41, w42, a43, a44, a45, a46, a47, a48, a49, a50, a51, a52, a53, a54, a55, a56, a57, w58, w59, w60, w61, w62], ⟨L, none⟩⟩) := by
  unfold ordR at hok
  rw [Bool.and_eq_true, Bool.and_eq_true, decide_eq_true_eq] at hok
  obtain ⟨hcg, hor, hlen⟩ := hok
  have hn8 := cargo_le hcg
  refine Wp_loop (fun k st => ∃ (i : Nat) (L : List Blk) (w39 w40 w41 w42 w58 w59 w60 w61 w62 : AV), i + k = os.length ∧ Grown H L ∧ st = ⟨[a0, a1, a2, a3, a4, a5, a6, a7, a8, a9, a10, a11, a12, a13, a14, a15, a16, a17, a18, .ptr (some (u, 0)), slL q ls.length c, slI q' os.length c', a22, a23, a24, a25, a26, a27, a28, a29, a30, a31, a32, a33, a34, a35, a36, .int .i64 (fstI (tipFrom a b o ls 0 0 (os.take i))), .int .i64 ((i + 1 : Nat) : Int), w39, w40, w41, w42, a43, a44, a45, a46, a47, a48, a49, a50, a51, a52, a53, a54, a55, a56, a57, w58, w59, w60, w61, w62], ⟨L, none⟩⟩) ?_ os.length _
    ⟨0, _, _, _, _, _, _, _, _, _, _, Nat.zero_add _, Grown.refl _, rfl⟩
  rintro k _ ⟨i, L, w39, w40, w41, w42, w58, w59, w60, w61, w62, hi, hg, rfl⟩
  by_cases hk : k = 0
  · have he : i = os.length := by omega
    have hd : decide (((i + 1 : Nat) : Int) ≤ (os.length : Int)) = false := decide_eq_false (by omega)
    have hd' : ¬ i + 1 ≤ os.length := by omega
    have hta : os.take i = os := List.take_of_length_le (by omega)
    simp (maxSteps := 2000000) +contextual only [w_l_FnRafts_4, hd, hd', hta, decide_false, Wp_some, Wp_none, Wp_ite, Wc_some, Wc_none, Wc_ite, Wp_thenRun, seqQ_normal, seqQ_exit, seqQ_ret, Wp_inBlock, blkQ_normal, blkQ_ret, blkQ_same, blkQ_exit, Wp_opThen, opQ_at, Wp_guardP, retQ_normal, retQ_ret, loopQ_normal, loopQ_exit, loopQ_ret, go_sem, entry, joinEsc, if_pos, reduceIte, Nat.reduceAdd, Nat.reduceLeDiff, Nat.reduceLT, Nat.reduceEqDiff]
    exact ⟨L, _, _, _, _, _, _, _, _, _, _, rfl⟩
  · have hd : decide (((i + 1 : Nat) : Int) ≤ (os.length : Int)) = true := decide_eq_true (by omega)
    have hd' : i + 1 ≤ os.length := by omega
    have hqL : cellsAt L q' = some (encI os) := by
      obtain ⟨G, rfl⟩ := hg
      exact cells_mono hq' G
    have hw : IntKind.i64.wrap ((i + 1 : Nat) + 1 : Int) = ((i + 1 + 1 : Nat) : Int) := wrap_succ (show i + 1 < 9223372036854775807 by omega)
    simp (maxSteps := 2000000) +contextual only [w_l_FnRafts_4, fillParts, hd, hd', decide_true, Wp_some, Wp_none, Wp_ite, Wc_some, Wc_none, Wc_ite, Wp_thenRun, seqQ_normal, seqQ_exit, seqQ_ret, Wp_inBlock, blkQ_normal, blkQ_ret, blkQ_same, blkQ_exit, Wp_opThen, opQ_at, Wp_guardP, retQ_normal, retQ_ret, loopQ_normal, loopQ_exit, loopQ_ret, go_sem, entry, joinEsc, if_pos, reduceIte, Nat.reduceAdd, Nat.reduceLeDiff, Nat.reduceLT, Nat.reduceEqDiff]
    refine (rafts_3 (H := L) (K := i + 1) hn8 hqL (by omega) hd').mono ?_
    rintro ex st ⟨rfl, L', b', c'', w59', w60', hg', hL', rfl⟩
    obtain ⟨G', rfl⟩ := hg'
    obtain ⟨G, rfl⟩ := hg
    rw [List.append_assoc] at hL' ⊢
    have hot := ordOk_take os 0 (i + 1) hor
    have hset : hasL (os.take (i + 1)) ls.length = setL ls.length (codeN 0 (os.take (i + 1))) := setL_of_mem hn8 hot
    obtain ⟨m1, _⟩ := code_mem hn8 _ 0 (Nat.two_pow_pos _) hot
    obtain ⟨f1, f2⟩ := setL_facts ls.length (by omega) _ m1
    rw [hset] at hL' ⊢
    have hls : (setL ls.length (codeN 0 (os.take (i + 1)))).length ≤ 1048576 := Nat.le_trans (setL_len _ _) (by omega)
    have hr := e_i_RaftSide (pr := pr) (H := H ++ (G ++ G')) (e := none) (c := c) (c' := c'') (cells_mono hq _) (cellsAt_of hL') (by omega) hls a b o
    have hsok : setOk a b o ls (setL ls.length (codeN 0 (os.take (i + 1)))) = true := by unfold setOk; rw [hcg, f1]; rfl
    unfold sideT at hr
    rw [hsok, if_pos rfl, f2] at hr
    have hz := sideR_zero a b o ls ((codeN 0 (os.take (i + 1)) : Nat) : Int)
    have hu' := cells_mono hu (G ++ G')
    have hts : os.take (i + 1) = os.take i ++ [os[i]'(by omega)] := List.take_succ_eq_append_getElem (by omega)
    have hsn := tipFrom_snoc (a := a) (b := b) (o := o) (ls := ls) (os.take i) 0 0 (os[i]'(by omega))
    rw [← codeN_snoc, ← hts, List.length_take, Nat.min_eq_left (by omega), Nat.zero_add] at hsn
    generalize tipFrom a b o ls 0 0 (os.take i) = t at *
    by_cases ht : t = 0
    · subst ht
      have hf1 : fstI 0 = -1 := rfl
      have hlt : ((-1 : Int) < 0) := by omega
      rw [if_pos rfl] at hsn
      cases hs : safeW a b o ls ((codeN 0 (os.take (i + 1)) : Nat) : Int) with
      | true =>
        rw [hs, if_pos rfl] at hsn
        rw [hz.mpr hs] at hr
        simp (maxSteps := 2000000) +contextual only [hr, hu', hw, hf1, hlt, decide_true, Wp_some, Wp_none, Wp_ite, Wc_some, Wc_none, Wc_ite, Wp_thenRun, seqQ_normal, seqQ_exit, seqQ_ret, Wp_inBlock, blkQ_normal, blkQ_ret, blkQ_same, blkQ_exit, Wp_opThen, opQ_at, Wp_guardP, retQ_normal, retQ_ret, loopQ_normal, loopQ_exit, loopQ_ret, go_sem, entry, joinEsc, if_pos, reduceIte, Nat.reduceAdd, Nat.reduceLeDiff, Nat.reduceLT, Nat.reduceEqDiff]
        exact ⟨k - 1, by omega, i + 1, _, _, _, _, _, _, _, _, _, _, by omega, ⟨_, rfl⟩, by rw [hsn]; rfl⟩
      | false =>
        rw [hs, if_neg (by simp)] at hsn
        have hnz : ¬ sideR a b o ls ((codeN 0 (os.take (i + 1)) : Nat) : Int) = 0 := fun h => by rw [hz.mp h] at hs; cases hs
        have hnz' : decide (sideR a b o ls ((codeN 0 (os.take (i + 1)) : Nat) : Int) = 0) = false := decide_eq_false hnz
        have hf2 : fstI (i + 1) = ((i + 1 : Nat) : Int) := rfl
        simp (maxSteps := 2000000) +contextual only [hr, hu', hw, hf1, hlt, hnz, hnz', decide_true, decide_false, Wp_some, Wp_none, Wp_ite, Wc_some, Wc_none, Wc_ite, Wp_thenRun, seqQ_normal, seqQ_exit, seqQ_ret, Wp_inBlock, blkQ_normal, blkQ_ret, blkQ_same, blkQ_exit, Wp_opThen, opQ_at, Wp_guardP, retQ_normal, retQ_ret, loopQ_normal, loopQ_exit, loopQ_ret, go_sem, entry, joinEsc, if_pos, reduceIte, Nat.reduceAdd, Nat.reduceLeDiff, Nat.reduceLT, Nat.reduceEqDiff]
        exact ⟨k - 1, by omega, i + 1, _, _, _, _, _, _, _, _, _, _, by omega, ⟨_, rfl⟩, by rw [hsn]; rfl⟩
    · have hf1 : fstI t = (t : Int) := by unfold fstI; rw [if_neg ht]
      rw [if_neg ht] at hsn
      have hlt : ¬ ((t : Int) < 0) := by omega
      by_cases hnz : sideR a b o ls ((codeN 0 (os.take (i + 1)) : Nat) : Int) = 0
      · rw [hnz] at hr
        simp (maxSteps := 2000000) +contextual only [hr, hu', hw, hf1, hlt, decide_true, decide_false, Wp_some, Wp_none, Wp_ite, Wc_some, Wc_none, Wc_ite, Wp_thenRun, seqQ_normal, seqQ_exit, seqQ_ret, Wp_inBlock, blkQ_normal, blkQ_ret, blkQ_same, blkQ_exit, Wp_opThen, opQ_at, Wp_guardP, retQ_normal, retQ_ret, loopQ_normal, loopQ_exit, loopQ_ret, go_sem, entry, joinEsc, if_pos, reduceIte, Nat.reduceAdd, Nat.reduceLeDiff, Nat.reduceLT, Nat.reduceEqDiff]
        exact ⟨k - 1, by omega, i + 1, _, _, _, _, _, _, _, _, _, _, by omega, ⟨_, rfl⟩, by rw [hsn, hf1]⟩
      · have hnz' : decide (sideR a b o ls ((codeN 0 (os.take (i + 1)) : Nat) : Int) = 0) = false := decide_eq_false hnz
        simp (maxSteps := 2000000) +contextual only [hr, hu', hw, hf1, hlt, hnz, hnz', decide_true, decide_false, Wp_some, Wp_none, Wp_ite, Wc_some, Wc_none, Wc_ite, Wp_thenRun, seqQ_normal, seqQ_exit, seqQ_ret, Wp_inBlock, blkQ_normal, blkQ_ret, blkQ_same, blkQ_exit, Wp_opThen, opQ_at, Wp_guardP, retQ_normal, retQ_ret, loopQ_normal, loopQ_exit, loopQ_ret, go_sem, entry, joinEsc, if_pos, reduceIte, Nat.reduceAdd, Nat.reduceLeDiff, Nat.reduceLT, Nat.reduceEqDiff]
        exact ⟨k - 1, by omega, i + 1, _, _, _, _, _, _, _, _, _, _, by omega, ⟨_, rfl⟩, by rw [hsn, hf1]⟩

end Go.Proofs.Ytlcklonakjhoiaa.Slim

/- Rafts: the law on sets and first tips. -/
namespace Go.Proofs.Ytlcklonakjhoiaa.Slim

open Go

set_option linter.unusedSimpArgs false

set_option linter.unusedVariables false

variable {pr : Prims} {H : List Blk} {e : Option Nat}

/-- behind the set's part: the order's part -/
theorem rafts_end {w0 w2 w3 w4 w5 w6 w7 w8 w9 w10 w11 w12 w13 w14 w15 w16 w17 w18 w24 w25 w27 w28 w29 w30 w31 w32 w33 w34 w35 w36 w37 w38 w39 w40 w41 w42 w43 w44 w45 w46 w47 w48 w49 w50 w51 w52 w53 w54 w55 w56 w57 w58 w59 w60 w61 w62 : AV} {m0 : Mem} {q q' u : Nat} {c c' : Option Nat} {ls : List Ld} {os : List Int} {a b o : Int} (hm0 : m0.H = H) {L : List Blk} (hg : Grown H L) (hq : cellsAt L q = some (encL ls)) (hq' : cellsAt L q' = some (encI os)) (hu : cellsAt L u = some [.int .i64 a, .int .i64 b, .int .i64 o]) :
    Wp (run T pr (seqTl (seqTl (seqTl (seqTl (seqTl (seqTl (seqTl (seqTl (seqTl (seqTl (seqTl (seqTl (seqTl (seqTl (seqTl (seqTl (seqTl c_l_FnRafts))))))))))))))))) ⟨[w0, .bool false, w2, w3, w4, w5, w6, w7, w8, w9, w10, w11, w12, w13, w14, w15, w16, w17, w18, .ptr (some (u, 0)), slL q ls.length c, slI q' os.length c', .bool (ordR a b o ls os && decide (tipFrom a b o ls 0 0 os = 0)), .bool (ordR a b o ls os), w24, w25, .int .i64 (tipW a b o ls os), w27, w28, w29, w30, w31, w32, w33, w34, w35, w36, w37, w38, w39, w40, w41, w42, w43, w44, w45, w46, w47, w48, w49, w50, w51, w52, w53, w54, w55, w56, w57, w58, w59, w60, w61, w62], ⟨L, none⟩⟩) (retQ a_l_FnRafts m0 fun v m => v = .bool true) := by
  have hfin : ∀ (L : List Blk), finish 1 m0.H.length m0.esc (.bool true) ⟨L, none⟩ = some (.bool true, ⟨L.take m0.H.length, m0.esc⟩) := fun L => by
    unfold finish
    simp [AV.under, clean]
  cases hor : ordR a b o ls os with
  | false => simp (maxSteps := 2000000) +contextual only [a_l_FnRafts, c_l_FnRafts, seqTl, hfin, Wp_some, Wp_none, Wp_ite, Wc_some, Wc_none, Wc_ite, Wp_thenRun, seqQ_normal, seqQ_exit, seqQ_ret, Wp_inBlock, blkQ_normal, blkQ_ret, blkQ_same, blkQ_exit, Wp_opThen, opQ_at, Wp_guardP, retQ_normal, retQ_ret, loopQ_normal, loopQ_exit, loopQ_ret, go_sem, entry, joinEsc, if_pos, reduceIte, Nat.reduceAdd, Nat.reduceLeDiff, Nat.reduceLT, Nat.reduceEqDiff]
  | true =>
    have htw : tipW a b o ls os = tipFrom a b o ls 0 0 os := by
      unfold tipW
      unfold ordR at hor
      rw [if_pos hor]
    simp (maxSteps := 2000000) +contextual only [c_l_FnRafts, seqTl, Wp_some, Wp_none, Wp_ite, Wc_some, Wc_none, Wc_ite, Wp_thenRun, seqQ_normal, seqQ_exit, seqQ_ret, Wp_inBlock, blkQ_normal, blkQ_ret, blkQ_same, blkQ_exit, Wp_opThen, opQ_at, Wp_guardP, retQ_normal, retQ_ret, loopQ_normal, loopQ_exit, loopQ_ret, go_sem, entry, joinEsc, if_pos, reduceIte, Nat.reduceAdd, Nat.reduceLeDiff, Nat.reduceLT, Nat.reduceEqDiff]
    refine (rafts_4 (H := L) hq hq' hu hor).mono ?_
    rintro ex st ⟨rfl, L', w38', w39', w40', w41', w42', w58', w59', w60', w61', w62', rfl⟩
    rw [htw]
    generalize tipFrom a b o ls 0 0 os = t
    by_cases ht : t = 0
    · subst ht
      have hf1 : fstI 0 = -1 := rfl
      simp (maxSteps := 2000000) +contextual only [a_l_FnRafts, hf1, hfin, show ((-1 : Int) < 0) by omega, beq_self_eq_true, decide_true, Wp_some, Wp_none, Wp_ite, Wc_some, Wc_none, Wc_ite, Wp_thenRun, seqQ_normal, seqQ_exit, seqQ_ret, Wp_inBlock, blkQ_normal, blkQ_ret, blkQ_same, blkQ_exit, Wp_opThen, opQ_at, Wp_guardP, retQ_normal, retQ_ret, loopQ_normal, loopQ_exit, loopQ_ret, go_sem, entry, joinEsc, if_pos, reduceIte, Nat.reduceAdd, Nat.reduceLeDiff, Nat.reduceLT, Nat.reduceEqDiff]
    · have hf1 : fstI t = (t : Int) := by unfold fstI; rw [if_neg ht]
      have hlt : ¬ ((t : Int) < 0) := by omega
      simp (maxSteps := 2000000) +contextual only [a_l_FnRafts, hf1, ht, hlt, hfin, beq_self_eq_true, decide_true, decide_false, Wp_some, Wp_none, Wp_ite, Wc_some, Wc_none, Wc_ite, Wp_thenRun, seqQ_normal, seqQ_exit, seqQ_ret, Wp_inBlock, blkQ_normal, blkQ_ret, blkQ_same, blkQ_exit, Wp_opThen, opQ_at, Wp_guardP, retQ_normal, retQ_ret, loopQ_normal, loopQ_exit, loopQ_ret, go_sem, entry, joinEsc, if_pos, reduceIte, Nat.reduceAdd, Nat.reduceLeDiff, Nat.reduceLT, Nat.reduceEqDiff]

set_option maxHeartbeats 4000000 in
theorem wc_FnRafts {p0 : Option (Nat × Nat)} {s0 n0 : Nat} {c0 : Option Nat} (hc0 : n0 ≤ 65536 → CodeAt H (.slice p0 s0 n0 c0)) : Wc (call T pr f_l_FnRafts [.slice p0 s0 n0 c0] ⟨H, none⟩) (fun v m => v = .bool true) := by
  rw [call_wc t_l_FnRafts]
  by_cases hb : 65536 < n0
  · have hb' : decide ((65536 : Int) < ((n0 : Nat) : Int)) = true := decide_eq_true (by omega)
    simp +contextual only [a_l_FnRafts, c_l_FnRafts, e_l_rBig, hb', Wp_some, Wp_none, Wp_ite, Wc_some, Wc_none, Wc_ite, Wp_thenRun, seqQ_normal, seqQ_exit, seqQ_ret, Wp_inBlock, blkQ_normal, blkQ_ret, blkQ_same, blkQ_exit, Wp_opThen, opQ_at, Wp_guardP, retQ_normal, retQ_ret, loopQ_normal, loopQ_exit, loopQ_ret, finish_one_eq, finish_one_eq0, finish_two_eq, finish_two_eq0, roots_slice_new, roots_slice_new0, roots_slice_none, roots_ptr_new, roots_ptr_new0, roots_int, roots_bool, roots_str, roots_agg, roots_tup, roots_cons, roots_nil, rename_slice, rename_slice_none, rename_ptr, rename_int, rename_bool, rename_str, rename_agg, rename_tup, rename_cons, rename_nil, keepBlks_nil, keepBlks_cons, flatAll_nil, flatAll_cons, flatBlk_cells, dedup_nil, dedup_one, dedup_two, renum_one, renum_one0, renum_two0, renum_two1, clean_none', clean_some, minEsc_none, minEsc_some, Nat.add_left_cancel_iff, Nat.le_add_right, Nat.le_refl, decide_true, go_sem, entry, joinEsc, if_pos, reduceIte, Nat.reduceAdd, Nat.reduceLeDiff, Nat.reduceLT, Nat.reduceEqDiff]
  · have hb' : decide ((65536 : Int) < ((n0 : Nat) : Int)) = false := decide_eq_false (by omega)
    have hc := hc0 (by omega)
    have bxx : ∀ x : Bool, (!decide (x = x)) = false := fun x => by simp
    obtain ⟨R3, hR3⟩ : ∃ R, R = seqTl (seqTl (seqTl (seqTl (seqTl (seqTl (seqTl (seqTl (seqTl (seqTl (seqTl (seqTl (seqTl (seqTl (seqTl (seqTl (seqTl c_l_FnRafts)))))))))))))))) := ⟨_, rfl⟩
    obtain ⟨R, hR⟩ : ∃ R, R = seqTl (seqTl (seqTl (seqTl (seqTl (seqTl (seqTl (seqTl (seqTl c_l_FnRafts)))))))) := ⟨_, rfl⟩
    have hcR : R = .seq (seqHd R) (.seq (seqHd (seqTl R)) (.seq (seqHd (seqTl (seqTl R))) (.seq (seqHd (seqTl (seqTl (seqTl R)))) (.seq (seqHd (seqTl (seqTl (seqTl (seqTl R))))) (.seq (seqHd (seqTl (seqTl (seqTl (seqTl (seqTl R)))))) (.seq (seqHd (seqTl (seqTl (seqTl (seqTl (seqTl (seqTl R))))))) (.seq (seqHd (seqTl (seqTl (seqTl (seqTl (seqTl (seqTl (seqTl R)))))))) R3))))))) := by rw [hR, hR3]; rfl
    have hcut : c_l_FnRafts = .seq (seqHd c_l_FnRafts) (.seq (seqHd (seqTl c_l_FnRafts)) (.seq (seqHd (seqTl (seqTl c_l_FnRafts))) (.seq (seqHd (seqTl (seqTl (seqTl c_l_FnRafts)))) (.seq (seqHd (seqTl (seqTl (seqTl (seqTl c_l_FnRafts))))) (.seq (seqHd (seqTl (seqTl (seqTl (seqTl (seqTl c_l_FnRafts)))))) (.seq (seqHd (seqTl (seqTl (seqTl (seqTl (seqTl (seqTl c_l_FnRafts))))))) (.seq (seqHd (seqTl (seqTl (seqTl (seqTl (seqTl (seqTl (seqTl c_l_FnRafts)))))))) (.seq (seqHd (seqTl (seqTl (seqTl (seqTl (seqTl (seqTl (seqTl (seqTl c_l_FnRafts))))))))) R)))))))) := by rw [hR]; rfl
    have r : ∀ (a b o : Int) (ls : List Ld) (os : List Int) (c1 : Option Nat) (x l y cnt : Int) (ok two : Bool) (w4 w7 w8 w11 w12 w13 w14 w17 w18 w19 w20 w21 w22 w23 w24 w25 w26 w27 w28 w29 w30 w31 w32 w33 w34 w35 w36 w37 w38 w39 w40 w41 w42 w43 w44 w45 w46 w47 w48 w49 w50 w51 w52 w53 w54 w55 w56 w57 w58 w59 w60 w61 w62 : AV), ls.length ≤ 9 → (ok = true → (x = 0 ↔ 0 ≤ l ∧ 0 ≤ y)) → two = cargoOk a b o ls → (two = true → cnt = (cntS a b o ls (2 ^ ls.length) : Nat)) →
        Wp (run T pr R ⟨[.slice p0 s0 n0 c0, .bool false, .ptr (some (H.length + 2, 0)), slL H.length ls.length c1, w4, .int .i64 x, .bool ok, w7, w8, .int .i64 l, .int .i64 y, w11, w12, w13, w14, .int .i64 cnt, .bool two, w17, w18, w19, w20, w21, w22, w23, w24, w25, w26, w27, w28, w29, w30, w31, w32, w33, w34, w35, w36, w37, w38, w39, w40, w41, w42, w43, w44, w45, w46, w47, w48, w49, w50, w51, w52, w53, w54, w55, w56, w57, w58, w59, w60, w61, w62], ⟨H ++ [.cells (encL ls) true, .cells (encI os) true, .cells [.int .i64 a, .int .i64 b, .int .i64 o] true], none⟩⟩) (retQ a_l_FnRafts ⟨H, none⟩ fun v m => v = .bool true) := by
      rintro a b o ls os c1 x l y cnt ok two w4 w7 w8 w11 w12 w13 w14 w17 w18 w19 w20 w21 w22 w23 w24 w25 w26 w27 w28 w29 w30 w31 w32 w33 w34 w35 w36 w37 w38 w39 w40 w41 w42 w43 w44 w45 w46 w47 w48 w49 w50 w51 w52 w53 w54 w55 w56 w57 w58 w59 w60 w61 w62 hls hxy htwo hcnt
      rw [hcR]
      simp (maxSteps := 2000000) +contextual only [hR, c_l_FnRafts, seqTl, seqHd, Wp_some, Wp_none, Wp_ite, Wc_some, Wc_none, Wc_ite, Wp_thenRun, seqQ_normal, seqQ_exit, seqQ_ret, Wp_inBlock, blkQ_normal, blkQ_ret, blkQ_same, blkQ_exit, Wp_opThen, opQ_at, Wp_guardP, retQ_normal, retQ_ret, loopQ_normal, loopQ_exit, loopQ_ret, go_sem, entry, joinEsc, if_pos, reduceIte, Nat.reduceAdd, Nat.reduceLeDiff, Nat.reduceLT, Nat.reduceEqDiff]
      refine (wc_DrawIsSafeOrder (hc.more _)).mono ?_
      rintro v m ⟨a', b', o', ls', os', c3, c4, rfl, hn1, hn2, rfl⟩
      have his := fun L e' (h1 : cellsAt L (H.length + 3) = some (encL ls')) (h2 : cellsAt L (H.length + 4) = some (encI os')) => e_i_IsSafeOrder (pr := pr) (H := L) (e := e') (c := c3) (c' := c4) h1 h2 (by omega) a' b' o'
      have hss := fun L e' (h1 : cellsAt L (H.length + 3) = some (encL ls')) (h2 : cellsAt L (H.length + 4) = some (encI os')) => e_s_IsSafeOrder (pr := pr) (H := L) (e := e') (c := c3) (c' := c4) h1 h2 (by omega) a' b' o'
      have hif := fun L e' (h1 : cellsAt L (H.length + 3) = some (encL ls')) (h2 : cellsAt L (H.length + 4) = some (encI os')) => e_i_FirstTip (pr := pr) (H := L) (e := e') (c := c3) (c' := c4) h1 h2 (by omega) a' b' o'
      have hsf := fun L e' (h1 : cellsAt L (H.length + 3) = some (encL ls')) (h2 : cellsAt L (H.length + 4) = some (encI os')) => e_s_FirstTip (pr := pr) (H := L) (e := e') (c := c3) (c' := c4) h1 h2 (by omega) a' b' o'
      have hpos : decide (0 < tipW a' b' o' ls' os') = (ordR a' b' o' ls' os' && !(ordR a' b' o' ls' os' && decide (tipFrom a' b' o' ls' 0 0 os' = 0))) := by
        unfold tipW
        have hor : ordR a' b' o' ls' os' = (cargoOk a' b' o' ls' && (ordOk ls'.length 0 os' && decide (os'.length = ls'.length))) := rfl
        rw [← hor]
        cases ordR a' b' o' ls' os' with
        | false => simp
        | true =>
          simp only [if_true, Bool.true_and]
          rw [Bool.eq_iff_iff]
          simp
          omega
      have hend := fun L hg hq hq' hu z0 z2 z3 z4 z5 z6 z7 z8 z9 z10 z11 z12 z13 z14 z15 z16 z17 z18 z24 z25 z27 z28 z29 z30 z31 z32 z33 z34 z35 z36 z37 z38 z39 z40 z41 z42 z43 z44 z45 z46 z47 z48 z49 z50 z51 z52 z53 z54 z55 z56 z57 z58 z59 z60 z61 z62 => rafts_end (pr := pr) (H := H) (m0 := ⟨H, none⟩) (L := L) (q := H.length + 3) (q' := H.length + 4) (u := H.length + 5) (c := c3) (c' := c4) (ls := ls') (os := os') (a := a') (b := b') (o := o') (w0 := z0) (w2 := z2) (w3 := z3) (w4 := z4) (w5 := z5) (w6 := z6) (w7 := z7) (w8 := z8) (w9 := z9) (w10 := z10) (w11 := z11) (w12 := z12) (w13 := z13) (w14 := z14) (w15 := z15) (w16 := z16) (w17 := z17) (w18 := z18) (w24 := z24) (w25 := z25) (w27 := z27) (w28 := z28) (w29 := z29) (w30 := z30) (w31 := z31) (w32 := z32) (w33 := z33) (w34 := z34) (w35 := z35) (w36 := z36) (w37 := z37) (w38 := z38) (w39 := z39) (w40 := z40) (w41 := z41) (w42 := z42) (w43 := z43) (w44 := z44) (w45 := z45) (w46 := z46) (w47 := z47) (w48 := z48) (w49 := z49) (w50 := z50) (w51 := z51) (w52 := z52) (w53 := z53) (w54 := z54) (w55 := z55) (w56 := z56) (w57 := z57) (w58 := z58) (w59 := z59) (w60 := z60) (w61 := z61) (w62 := z62) rfl hg hq hq' hu
      rw [← hR3] at hend
      rw [hpos] at hif hsf
      generalize (ordR a' b' o' ls' os' && decide (tipFrom a' b' o' ls' 0 0 os' = 0)) = sf at *
      generalize ordR a' b' o' ls' os' = three at *
      generalize tipW a' b' o' ls' os' = tip at *
      have hfour : ∀ x : Bool, (!(x == x)) = false := fun x => by simp
      simp (maxSteps := 2000000) +contextual only [his, hss, hif, hsf, bxx, hfour, beq_self_eq_true, decide_true, Nat.add_assoc, Wp_some, Wp_none, Wp_ite, Wc_some, Wc_none, Wc_ite, Wp_thenRun, seqQ_normal, seqQ_exit, seqQ_ret, Wp_inBlock, blkQ_normal, blkQ_ret, blkQ_same, blkQ_exit, Wp_opThen, opQ_at, Wp_guardP, retQ_normal, retQ_ret, loopQ_normal, loopQ_exit, loopQ_ret, go_sem, entry, joinEsc, if_pos, reduceIte, Nat.reduceAdd, Nat.reduceLeDiff, Nat.reduceLT, Nat.reduceEqDiff]
      refine (wc_DrawIsRaft (hc.more _)).mono ?_
      rintro v m ⟨a2, b2, o2, rfl, rfl⟩
      have hir := fun L e' => e_i_IsRaft (pr := pr) (H := L) (e := e') a2 b2 o2
      have hsr := fun L e' => e_s_IsRaft (pr := pr) (H := L) (e := e') a2 b2 o2
      generalize raftOk a2 b2 o2 = rk at *
      have hbr : ok = false ∨ (ok = true ∧ x = 0 ∧ 0 ≤ l ∧ 0 ≤ y) ∨ (ok = true ∧ ¬ x = 0 ∧ 0 ≤ l ∧ ¬ 0 ≤ y) ∨ (ok = true ∧ ¬ x = 0 ∧ ¬ 0 ≤ l) := by
        cases ok with
        | false => exact .inl rfl
        | true =>
          have := hxy rfl
          by_cases h1 : x = 0
          · exact .inr (.inl ⟨rfl, h1, this.mp h1⟩)
          · by_cases h2 : 0 ≤ l
            · exact .inr (.inr (.inl ⟨rfl, h1, h2, fun h3 => h1 (this.mpr ⟨h2, h3⟩)⟩))
            · exact .inr (.inr (.inr ⟨rfl, h1, h2⟩))
      cases two with
      | false =>
        rcases hbr with rfl | ⟨rfl, h1, h2, h3⟩ | ⟨rfl, h1, h2, h3⟩ | ⟨rfl, h1, h2⟩
        · simp (maxSteps := 2000000) +contextual only [hir, hsr, bxx, hfour, Nat.add_assoc, Wp_some, Wp_none, Wp_ite, Wc_some, Wc_none, Wc_ite, Wp_thenRun, seqQ_normal, seqQ_exit, seqQ_ret, Wp_inBlock, blkQ_normal, blkQ_ret, blkQ_same, blkQ_exit, Wp_opThen, opQ_at, Wp_guardP, retQ_normal, retQ_ret, loopQ_normal, loopQ_exit, loopQ_ret, go_sem, entry, joinEsc, if_pos, reduceIte, Nat.reduceAdd, Nat.reduceLeDiff, Nat.reduceLT, Nat.reduceEqDiff]
          exact hend _ ⟨_, rfl⟩ (by simp +contextual only [go_sem, entry, joinEsc, if_pos, reduceIte, Nat.reduceAdd, Nat.reduceLeDiff, Nat.reduceLT, Nat.reduceEqDiff]) (by simp +contextual only [go_sem, entry, joinEsc, if_pos, reduceIte, Nat.reduceAdd, Nat.reduceLeDiff, Nat.reduceLT, Nat.reduceEqDiff]) (by simp +contextual only [go_sem, entry, joinEsc, if_pos, reduceIte, Nat.reduceAdd, Nat.reduceLeDiff, Nat.reduceLT, Nat.reduceEqDiff]) _ _ _ _ _ _ _ _ _ _ _ _ _ _ _ _ _ _ _ _ _ _ _ _ _ _ _ _ _ _ _ _ _ _ _ _ _ _ _ _ _ _ _ _ _ _ _ _ _ _ _ _ _ _ _ _
        · simp (maxSteps := 2000000) +contextual only [hir, hsr, bxx, hfour, h1, h2, h3, ge_iff_le, beq_self_eq_true, decide_true, decide_false, Nat.add_assoc, Wp_some, Wp_none, Wp_ite, Wc_some, Wc_none, Wc_ite, Wp_thenRun, seqQ_normal, seqQ_exit, seqQ_ret, Wp_inBlock, blkQ_normal, blkQ_ret, blkQ_same, blkQ_exit, Wp_opThen, opQ_at, Wp_guardP, retQ_normal, retQ_ret, loopQ_normal, loopQ_exit, loopQ_ret, go_sem, entry, joinEsc, if_pos, reduceIte, Nat.reduceAdd, Nat.reduceLeDiff, Nat.reduceLT, Nat.reduceEqDiff]
          exact hend _ ⟨_, rfl⟩ (by simp +contextual only [go_sem, entry, joinEsc, if_pos, reduceIte, Nat.reduceAdd, Nat.reduceLeDiff, Nat.reduceLT, Nat.reduceEqDiff]) (by simp +contextual only [go_sem, entry, joinEsc, if_pos, reduceIte, Nat.reduceAdd, Nat.reduceLeDiff, Nat.reduceLT, Nat.reduceEqDiff]) (by simp +contextual only [go_sem, entry, joinEsc, if_pos, reduceIte, Nat.reduceAdd, Nat.reduceLeDiff, Nat.reduceLT, Nat.reduceEqDiff]) _ _ _ _ _ _ _ _ _ _ _ _ _ _ _ _ _ _ _ _ _ _ _ _ _ _ _ _ _ _ _ _ _ _ _ _ _ _ _ _ _ _ _ _ _ _ _ _ _ _ _ _ _ _ _ _
        · simp (maxSteps := 2000000) +contextual only [hir, hsr, bxx, hfour, h1, h2, h3, ge_iff_le, beq_self_eq_true, decide_true, decide_false, Nat.add_assoc, Wp_some, Wp_none, Wp_ite, Wc_some, Wc_none, Wc_ite, Wp_thenRun, seqQ_normal, seqQ_exit, seqQ_ret, Wp_inBlock, blkQ_normal, blkQ_ret, blkQ_same, blkQ_exit, Wp_opThen, opQ_at, Wp_guardP, retQ_normal, retQ_ret, loopQ_normal, loopQ_exit, loopQ_ret, go_sem, entry, joinEsc, if_pos, reduceIte, Nat.reduceAdd, Nat.reduceLeDiff, Nat.reduceLT, Nat.reduceEqDiff]
          exact hend _ ⟨_, rfl⟩ (by simp +contextual only [go_sem, entry, joinEsc, if_pos, reduceIte, Nat.reduceAdd, Nat.reduceLeDiff, Nat.reduceLT, Nat.reduceEqDiff]) (by simp +contextual only [go_sem, entry, joinEsc, if_pos, reduceIte, Nat.reduceAdd, Nat.reduceLeDiff, Nat.reduceLT, Nat.reduceEqDiff]) (by simp +contextual only [go_sem, entry, joinEsc, if_pos, reduceIte, Nat.reduceAdd, Nat.reduceLeDiff, Nat.reduceLT, Nat.reduceEqDiff]) _ _ _ _ _ _ _ _ _ _ _ _ _ _ _ _ _ _ _ _ _ _ _ _ _ _ _ _ _ _ _ _ _ _ _ _ _ _ _ _ _ _ _ _ _ _ _ _ _ _ _ _ _ _ _ _
        · simp (maxSteps := 2000000) +contextual only [hir, hsr, bxx, hfour, h1, h2, ge_iff_le, beq_self_eq_true, decide_true, decide_false, Nat.add_assoc, Wp_some, Wp_none, Wp_ite, Wc_some, Wc_none, Wc_ite, Wp_thenRun, seqQ_normal, seqQ_exit, seqQ_ret, Wp_inBlock, blkQ_normal, blkQ_ret, blkQ_same, blkQ_exit, Wp_opThen, opQ_at, Wp_guardP, retQ_normal, retQ_ret, loopQ_normal, loopQ_exit, loopQ_ret, go_sem, entry, joinEsc, if_pos, reduceIte, Nat.reduceAdd, Nat.reduceLeDiff, Nat.reduceLT, Nat.reduceEqDiff]
          exact hend _ ⟨_, rfl⟩ (by simp +contextual only [go_sem, entry, joinEsc, if_pos, reduceIte, Nat.reduceAdd, Nat.reduceLeDiff, Nat.reduceLT, Nat.reduceEqDiff]) (by simp +contextual only [go_sem, entry, joinEsc, if_pos, reduceIte, Nat.reduceAdd, Nat.reduceLeDiff, Nat.reduceLT, Nat.reduceEqDiff]) (by simp +contextual only [go_sem, entry, joinEsc, if_pos, reduceIte, Nat.reduceAdd, Nat.reduceLeDiff, Nat.reduceLT, Nat.reduceEqDiff]) _ _ _ _ _ _ _ _ _ _ _ _ _ _ _ _ _ _ _ _ _ _ _ _ _ _ _ _ _ _ _ _ _ _ _ _ _ _ _ _ _ _ _ _ _ _ _ _ _ _ _ _ _ _ _ _
      | true =>
        have hcn := hcnt rfl
        have hbx : decide ((cntS a b o ls (2 ^ ls.length) : Int) = (cntS a b o ls (2 ^ ls.length) : Int)) = true := decide_eq_true rfl
        rcases hbr with rfl | ⟨rfl, h1, h2, h3⟩ | ⟨rfl, h1, h2, h3⟩ | ⟨rfl, h1, h2⟩
        · simp (maxSteps := 2000000) +contextual only [hir, hsr, bxx, hfour, Nat.add_assoc, Wp_some, Wp_none, Wp_ite, Wc_some, Wc_none, Wc_ite, Wp_thenRun, seqQ_normal, seqQ_exit, seqQ_ret, Wp_inBlock, blkQ_normal, blkQ_ret, blkQ_same, blkQ_exit, Wp_opThen, opQ_at, Wp_guardP, retQ_normal, retQ_ret, loopQ_normal, loopQ_exit, loopQ_ret, go_sem, entry, joinEsc, if_pos, reduceIte, Nat.reduceAdd, Nat.reduceLeDiff, Nat.reduceLT, Nat.reduceEqDiff]
          refine (rafts_2 (q := H.length) (u := H.length + 2) (by simp +contextual only [go_sem, entry, joinEsc, if_pos, reduceIte, Nat.reduceAdd, Nat.reduceLeDiff, Nat.reduceLT, Nat.reduceEqDiff]) (by simp +contextual only [go_sem, entry, joinEsc, if_pos, reduceIte, Nat.reduceAdd, Nat.reduceLeDiff, Nat.reduceLT, Nat.reduceEqDiff]) htwo.symm).mono ?_
          rintro ex st ⟨rfl, L, w33', w34', w35', w36', w51', w52', w53', w54', w55', hg', rfl⟩
          obtain ⟨G', rfl⟩ := hg'
          simp (maxSteps := 2000000) +contextual only [hcn, bxx, decide_true, Wp_some, Wp_none, Wp_ite, Wc_some, Wc_none, Wc_ite, Wp_thenRun, seqQ_normal, seqQ_exit, seqQ_ret, Wp_inBlock, blkQ_normal, blkQ_ret, blkQ_same, blkQ_exit, Wp_opThen, opQ_at, Wp_guardP, retQ_normal, retQ_ret, loopQ_normal, loopQ_exit, loopQ_ret, go_sem, entry, joinEsc, if_pos, reduceIte, Nat.reduceAdd, Nat.reduceLeDiff, Nat.reduceLT, Nat.reduceEqDiff]
          refine hend _ ⟨_, rfl⟩ ?_ ?_ ?_ _ _ _ _ _ _ _ _ _ _ _ _ _ _ _ _ _ _ _ _ _ _ _ _ _ _ _ _ _ _ _ _ _ _ _ _ _ _ _ _ _ _ _ _ _ _ _ _ _ _ _ _ _ _ _ _ <;> simp +contextual only [go_sem, entry, joinEsc, if_pos, reduceIte, Nat.reduceAdd, Nat.reduceLeDiff, Nat.reduceLT, Nat.reduceEqDiff]
        · simp (maxSteps := 2000000) +contextual only [hir, hsr, bxx, hfour, h1, h2, h3, ge_iff_le, beq_self_eq_true, decide_true, decide_false, Nat.add_assoc, Wp_some, Wp_none, Wp_ite, Wc_some, Wc_none, Wc_ite, Wp_thenRun, seqQ_normal, seqQ_exit, seqQ_ret, Wp_inBlock, blkQ_normal, blkQ_ret, blkQ_same, blkQ_exit, Wp_opThen, opQ_at, Wp_guardP, retQ_normal, retQ_ret, loopQ_normal, loopQ_exit, loopQ_ret, go_sem, entry, joinEsc, if_pos, reduceIte, Nat.reduceAdd, Nat.reduceLeDiff, Nat.reduceLT, Nat.reduceEqDiff]
          refine (rafts_2 (q := H.length) (u := H.length + 2) (by simp +contextual only [go_sem, entry, joinEsc, if_pos, reduceIte, Nat.reduceAdd, Nat.reduceLeDiff, Nat.reduceLT, Nat.reduceEqDiff]) (by simp +contextual only [go_sem, entry, joinEsc, if_pos, reduceIte, Nat.reduceAdd, Nat.reduceLeDiff, Nat.reduceLT, Nat.reduceEqDiff]) htwo.symm).mono ?_
          rintro ex st ⟨rfl, L, w33', w34', w35', w36', w51', w52', w53', w54', w55', hg', rfl⟩
          obtain ⟨G', rfl⟩ := hg'
          simp (maxSteps := 2000000) +contextual only [hcn, bxx, decide_true, Wp_some, Wp_none, Wp_ite, Wc_some, Wc_none, Wc_ite, Wp_thenRun, seqQ_normal, seqQ_exit, seqQ_ret, Wp_inBlock, blkQ_normal, blkQ_ret, blkQ_same, blkQ_exit, Wp_opThen, opQ_at, Wp_guardP, retQ_normal, retQ_ret, loopQ_normal, loopQ_exit, loopQ_ret, go_sem, entry, joinEsc, if_pos, reduceIte, Nat.reduceAdd, Nat.reduceLeDiff, Nat.reduceLT, Nat.reduceEqDiff]
          refine hend _ ⟨_, rfl⟩ ?_ ?_ ?_ _ _ _ _ _ _ _ _ _ _ _ _ _ _ _ _ _ _ _ _ _ _ _ _ _ _ _ _ _ _ _ _ _ _ _ _ _ _ _ _ _ _ _ _ _ _ _ _ _ _ _ _ _ _ _ _ <;> simp +contextual only [go_sem, entry, joinEsc, if_pos, reduceIte, Nat.reduceAdd, Nat.reduceLeDiff, Nat.reduceLT, Nat.reduceEqDiff]
        · simp (maxSteps := 2000000) +contextual only [hir, hsr, bxx, hfour, h1, h2, h3, ge_iff_le, beq_self_eq_true, decide_true, decide_false, Nat.add_assoc, Wp_some, Wp_none, Wp_ite, Wc_some, Wc_none, Wc_ite, Wp_thenRun, seqQ_normal, seqQ_exit, seqQ_ret, Wp_inBlock, blkQ_normal, blkQ_ret, blkQ_same, blkQ_exit, Wp_opThen, opQ_at, Wp_guardP, retQ_normal, retQ_ret, loopQ_normal, loopQ_exit, loopQ_ret, go_sem, entry, joinEsc, if_pos, reduceIte, Nat.reduceAdd, Nat.reduceLeDiff, Nat.reduceLT, Nat.reduceEqDiff]
          refine (rafts_2 (q := H.length) (u := H.length + 2) (by simp +contextual only [go_sem, entry, joinEsc, if_pos, reduceIte, Nat.reduceAdd, Nat.reduceLeDiff, Nat.reduceLT, Nat.reduceEqDiff]) (by simp +contextual only [go_sem, entry, joinEsc, if_pos, reduceIte, Nat.reduceAdd, Nat.reduceLeDiff, Nat.reduceLT, Nat.reduceEqDiff]) htwo.symm).mono ?_
          rintro ex st ⟨rfl, L, w33', w34', w35', w36', w51', w52', w53', w54', w55', hg', rfl⟩
          obtain ⟨G', rfl⟩ := hg'
          simp (maxSteps := 2000000) +contextual only [hcn, bxx, decide_true, Wp_some, Wp_none, Wp_ite, Wc_some, Wc_none, Wc_ite, Wp_thenRun, seqQ_normal, seqQ_exit, seqQ_ret, Wp_inBlock, blkQ_normal, blkQ_ret, blkQ_same, blkQ_exit, Wp_opThen, opQ_at, Wp_guardP, retQ_normal, retQ_ret, loopQ_normal, loopQ_exit, loopQ_ret, go_sem, entry, joinEsc, if_pos, reduceIte, Nat.reduceAdd, Nat.reduceLeDiff, Nat.reduceLT, Nat.reduceEqDiff]
          refine hend _ ⟨_, rfl⟩ ?_ ?_ ?_ _ _ _ _ _ _ _ _ _ _ _ _ _ _ _ _ _ _ _ _ _ _ _ _ _ _ _ _ _ _ _ _ _ _ _ _ _ _ _ _ _ _ _ _ _ _ _ _ _ _ _ _ _ _ _ _ <;> simp +contextual only [go_sem, entry, joinEsc, if_pos, reduceIte, Nat.reduceAdd, Nat.reduceLeDiff, Nat.reduceLT, Nat.reduceEqDiff]
        · simp (maxSteps := 2000000) +contextual only [hir, hsr, bxx, hfour, h1, h2, ge_iff_le, beq_self_eq_true, decide_true, decide_false, Nat.add_assoc, Wp_some, Wp_none, Wp_ite, Wc_some, Wc_none, Wc_ite, Wp_thenRun, seqQ_normal, seqQ_exit, seqQ_ret, Wp_inBlock, blkQ_normal, blkQ_ret, blkQ_same, blkQ_exit, Wp_opThen, opQ_at, Wp_guardP, retQ_normal, retQ_ret, loopQ_normal, loopQ_exit, loopQ_ret, go_sem, entry, joinEsc, if_pos, reduceIte, Nat.reduceAdd, Nat.reduceLeDiff, Nat.reduceLT, Nat.reduceEqDiff]
          refine (rafts_2 (q := H.length) (u := H.length + 2) (by simp +contextual only [go_sem, entry, joinEsc, if_pos, reduceIte, Nat.reduceAdd, Nat.reduceLeDiff, Nat.reduceLT, Nat.reduceEqDiff]) (by simp +contextual only [go_sem, entry, joinEsc, if_pos, reduceIte, Nat.reduceAdd, Nat.reduceLeDiff, Nat.reduceLT, Nat.reduceEqDiff]) htwo.symm).mono ?_
          rintro ex st ⟨rfl, L, w33', w34', w35', w36', w51', w52', w53', w54', w55', hg', rfl⟩
          obtain ⟨G', rfl⟩ := hg'
          simp (maxSteps := 2000000) +contextual only [hcn, bxx, decide_true, Wp_some, Wp_none, Wp_ite, Wc_some, Wc_none, Wc_ite, Wp_thenRun, seqQ_normal, seqQ_exit, seqQ_ret, Wp_inBlock, blkQ_normal, blkQ_ret, blkQ_same, blkQ_exit, Wp_opThen, opQ_at, Wp_guardP, retQ_normal, retQ_ret, loopQ_normal, loopQ_exit, loopQ_ret, go_sem, entry, joinEsc, if_pos, reduceIte, Nat.reduceAdd, Nat.reduceLeDiff, Nat.reduceLT, Nat.reduceEqDiff]
          refine hend _ ⟨_, rfl⟩ ?_ ?_ ?_ _ _ _ _ _ _ _ _ _ _ _ _ _ _ _ _ _ _ _ _ _ _ _ _ _ _ _ _ _ _ _ _ _ _ _ _ _ _ _ _ _ _ _ _ _ _ _ _ _ _ _ _ _ _ _ _ <;> simp +contextual only [go_sem, entry, joinEsc, if_pos, reduceIte, Nat.reduceAdd, Nat.reduceLeDiff, Nat.reduceLT, Nat.reduceEqDiff]
    show Wp (run T pr c_l_FnRafts _) _
    rw [hcut]
    simp (maxSteps := 2000000) +contextual only [a_l_FnRafts, c_l_FnRafts, seqTl, seqHd, e_l_rBig, hb', Wp_some, Wp_none, Wp_ite, Wc_some, Wc_none, Wc_ite, Wp_thenRun, seqQ_normal, seqQ_exit, seqQ_ret, Wp_inBlock, blkQ_normal, blkQ_ret, blkQ_same, blkQ_exit, Wp_opThen, opQ_at, Wp_guardP, retQ_normal, retQ_ret, loopQ_normal, loopQ_exit, loopQ_ret, go_sem, entry, joinEsc, if_pos, reduceIte, Nat.reduceAdd, Nat.reduceLeDiff, Nat.reduceLT, Nat.reduceEqDiff]
    refine (wc_DrawRaftSide hc).mono ?_
    rintro v m ⟨a, b, o, ls, os, c1, c2, rfl, hn1, hn2, rfl⟩
    have hss := fun L e' (h1 : cellsAt L H.length = some (encL ls)) (h2 : cellsAt L (H.length + 1) = some (encI os)) => e_i_RaftSide (pr := pr) (H := L) (e := e') (c := c1) (c' := c2) h1 h2 (by omega) (by omega) a b o
    have hss' := fun L e' (h1 : cellsAt L H.length = some (encL ls)) (h2 : cellsAt L (H.length + 1) = some (encI os)) => e_s_RaftSide (pr := pr) (H := L) (e := e') (c := c1) (c' := c2) h1 h2 (by omega) (by omega) a b o
    have hrr := fun L e' (h1 : cellsAt L H.length = some (encL ls)) (h2 : cellsAt L (H.length + 1) = some (encI os)) => e_i_RaftReserve (pr := pr) (H := L) (e := e') (c := c1) (c' := c2) h1 h2 (by omega) (by omega) a b o
    have hrr' := fun L e' (h1 : cellsAt L H.length = some (encL ls)) (h2 : cellsAt L (H.length + 1) = some (encI os)) => e_s_RaftReserve (pr := pr) (H := L) (e := e') (c := c1) (c' := c2) h1 h2 (by omega) (by omega) a b o
    have hst := fun L e' (h1 : cellsAt L H.length = some (encL ls)) => e_i_SafeSets (pr := pr) (H := L) (e := e') (c := c1) h1 a b o
    have hst' := fun L e' (h1 : cellsAt L H.length = some (encL ls)) => e_s_SafeSets (pr := pr) (H := L) (e := e') (c := c1) h1 a b o
    have hbb : ∀ x : Bool, (!(x == x)) = false := fun x => by simp
    unfold sideT at hss hss'
    unfold setsT at hst hst'
    cases hcg : cargoOk a b o ls with
    | false =>
      have hset : setOk a b o ls os = false := by unfold setOk; rw [hcg]; rfl
      simp only [hset, hcg, Bool.false_eq_true, if_false] at hss hss' hrr hrr' hst hst'
      simp (maxSteps := 2000000) +contextual only [hss, hss', hrr, hrr', hst, hst', bxx, hbb, beq_self_eq_true, decide_true, Nat.add_assoc, Wp_some, Wp_none, Wp_ite, Wc_some, Wc_none, Wc_ite, Wp_thenRun, seqQ_normal, seqQ_exit, seqQ_ret, Wp_inBlock, blkQ_normal, blkQ_ret, blkQ_same, blkQ_exit, Wp_opThen, opQ_at, Wp_guardP, retQ_normal, retQ_ret, loopQ_normal, loopQ_exit, loopQ_ret, go_sem, entry, joinEsc, if_pos, reduceIte, Nat.reduceAdd, Nat.reduceLeDiff, Nat.reduceLT, Nat.reduceEqDiff]
      exact r a b o ls os c1 0 0 0 0 false false _ _ _ _ _ _ _ _ _ _ _ _ _ _ _ _ _ _ _ _ _ _ _ _ _ _ _ _ _ _ _ _ _ _ _ _ _ _ _ _ _ _ _ _ _ _ _ _ _ _ _ _ _ hn1 (by simp) hcg.symm (by simp)
    | true =>
      simp only [hcg, if_true] at hst hst'
      cases hset : setOk a b o ls os with
      | false =>
        simp only [hset, Bool.false_eq_true, if_false] at hss hss' hrr hrr'
        simp (maxSteps := 2000000) +contextual only [hss, hss', hrr, hrr', hst, hst', bxx, hbb, beq_self_eq_true, decide_true, Nat.add_assoc, Wp_some, Wp_none, Wp_ite, Wc_some, Wc_none, Wc_ite, Wp_thenRun, seqQ_normal, seqQ_exit, seqQ_ret, Wp_inBlock, blkQ_normal, blkQ_ret, blkQ_same, blkQ_exit, Wp_opThen, opQ_at, Wp_guardP, retQ_normal, retQ_ret, loopQ_normal, loopQ_exit, loopQ_ret, go_sem, entry, joinEsc, if_pos, reduceIte, Nat.reduceAdd, Nat.reduceLeDiff, Nat.reduceLT, Nat.reduceEqDiff]
        exact r a b o ls os c1 0 0 0 _ false true _ _ _ _ _ _ _ _ _ _ _ _ _ _ _ _ _ _ _ _ _ _ _ _ _ _ _ _ _ _ _ _ _ _ _ _ _ _ _ _ _ _ _ _ _ _ _ _ _ _ _ _ _ hn1 (by simp) hcg.symm (fun _ => rfl)
      | true =>
        simp only [hset, if_true] at hss hss' hrr hrr'
        simp (maxSteps := 2000000) +contextual only [hss, hss', hrr, hrr', hst, hst', bxx, hbb, beq_self_eq_true, decide_true, Nat.add_assoc, Wp_some, Wp_none, Wp_ite, Wc_some, Wc_none, Wc_ite, Wp_thenRun, seqQ_normal, seqQ_exit, seqQ_ret, Wp_inBlock, blkQ_normal, blkQ_ret, blkQ_same, blkQ_exit, Wp_opThen, opQ_at, Wp_guardP, retQ_normal, retQ_ret, loopQ_normal, loopQ_exit, loopQ_ret, go_sem, entry, joinEsc, if_pos, reduceIte, Nat.reduceAdd, Nat.reduceLeDiff, Nat.reduceLT, Nat.reduceEqDiff]
        refine r a b o ls os c1 _ _ _ _ true true _ _ _ _ _ _ _ _ _ _ _ _ _ _ _ _ _ _ _ _ _ _ _ _ _ _ _ _ _ _ _ _ _ _ _ _ _ _ _ _ _ _ _ _ _ _ _ _ _ _ _ _ _ hn1 (fun _ => ?_) hcg.symm (fun _ => rfl)
        rw [sideR_zero]
        unfold safeW lftR rgtR
        rw [Bool.and_eq_true, decide_eq_true_eq, decide_eq_true_eq]

theorem law_Rafts {av : AV} {zs : List Int} (h : ArgB H av zs) : ∃ m', call T pr f_l_FnRafts [av] ⟨H, none⟩ = some (.bool true, m') := by
  obtain ⟨p, sz, n, c, rfl, hc⟩ := h.form
  obtain ⟨v, m, h1, rfl⟩ := wc_FnRafts (pr := pr) hc
  exact ⟨m, h1⟩

end Go.Proofs.Ytlcklonakjhoiaa.Slim
