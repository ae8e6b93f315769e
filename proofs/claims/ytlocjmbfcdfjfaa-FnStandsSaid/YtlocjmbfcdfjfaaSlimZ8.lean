/- The slim machine: what slices.Delete does to the memory. -/
import Derived.Test.YtlocjmbfcdfjfaaSlimZ7
import Derived.Deep.RegionLaw
import Derived.WalkKit
import Derived.OwnWalk
import Derived.Lib.Walk
import Derived.Lib.SliceRun
import Derived.Lib.Slices
import Derived.Shelf.RegionOpenPlain
import Derived.Deep.LoopGhost
import Derived.Below
/- The slim machine: what slices.Delete does to the memory. -/
namespace Go.Proofs.Ytlocjmbfcdfjfaa.Slim
open Go Go.Lib Go.RowKit
set_option linter.unusedVariables false
set_option linter.unusedSimpArgs false

theorem clear_one {P : Program} (w : World) (t e ty : TypeId) (z : Value) (ht : P.underlying t = some (.slice e)) (hv : ∀ w, (zeroValue e).run P w = .ok z w) (h1 : ∀ v ∈ z.cells.toList, v.oneCell' = true) (b o c : Nat)
    (hc : ∀ j, j < z.cells.size → (w.cell? ⟨b, o + j, none⟩).isSome = true) (hf : ∀ j, j < z.cells.size → w.frozen? ⟨b, o + j, none⟩ = false) :
    (Builtin.clear_ #[t] ty #[.slice (some ⟨b, o, none⟩) 1 c]).run P w = .ok (.tuple #[]) (w.setCells b o z.cells.toList) := by
  have hzc : (Builtin.zeroCells z.cells 1).toList = z.cells.toList := by
    simp [Builtin.zeroCells]
    apply List.ext_getElem
    · simp
    · intro i h1 h2
      simp at h2
      simp [Nat.mod_eq_of_lt h2, getElem!_pos z.cells i h2]
  have hst := run_storeCells_cells (P := P) b o z.cells.toList 0 w (by simpa using hc) (by simpa using hf) h1
  simp only [Nat.add_zero] at hst
  simp [Builtin.clear_, run_underlying ht, hv, hzc, hst]

section
variable {ι : Emb} {m : Mem} {w : World}

/-- of a block an end is no longer told -/
theorem Rel.trim (R : Rel ι m w) {b : Nat} {cs : List AV} {wr : Bool} (hb : m.H[b]? = some (.cells cs wr)) (k : Nat) :
    Rel ι { m with H := m.H.set b (.cells (cs.take k) wr) } w ∧ Ext ι m w ι { m with H := m.H.set b (.cells (cs.take k) wr) } w := by
  have hbl : b < m.H.length := (List.getElem?_eq_some_iff.mp hb).1
  have hset : ∀ (b' : Nat) cs' wr', (m.H.set b (.cells (cs.take k) wr))[b']? = some (Blk.cells cs' wr') → ∃ cs'', m.H[b']? = some (Blk.cells cs'' wr') ∧ cs' = if b = b' then cs''.take k else cs'' := by
    intro b' cs' wr' h
    rw [List.getElem?_set] at h
    split at h
    · rename_i hbb
      subst hbb
      cases h
      exact ⟨cs, hb, by simp⟩
    · rename_i hbb
      exact ⟨cs', h, by simp [hbb]⟩
  refine R.of0 ⟨⟨by simp [R.len], R.low, fun b' cs' wr' h => ?_, fun b1 b2 cs1 cs2 wr' c d c' d' hne h1 h2 h3 h4 => ?_⟩, ⟨Emb.le_refl _, Nat.le_refl _, Nat.le_refl _, Shapes.refl _, fun r hr => ?_, fun _ _ _ => rfl, rfl, rfl, rfl⟩⟩
  · obtain ⟨cs'', h1, rfl⟩ := hset _ _ _ h
    obtain ⟨c, d, h2, hC⟩ := R.at' b' cs'' wr' h1
    refine ⟨c, d, h2, ?_⟩
    split
    · obtain ⟨us, h3, h4⟩ := hC.vals
      refine ⟨⟨us.take k, h3.take k, fun j v hj => h4 j v ?_⟩, ?_, hC.free⟩
      · rw [List.getElem?_take] at hj
        split at hj
        · exact hj
        · cases hj
      · have := all_sub hC.cell 0 k
        rwa [List.drop_zero] at this
    · exact hC
  · obtain ⟨e1, g1, _⟩ := hset _ _ _ h1
    obtain ⟨e2, g2, _⟩ := hset _ _ _ h2
    exact R.inj b1 b2 e1 e2 wr' c d c' d' hne g1 g2 h3 h4
  · obtain ⟨b', cs', d', h1, h2⟩ := hr
    obtain ⟨e1, g1, _⟩ := hset _ _ _ h1
    exact .inl ⟨b', e1, d', g1, h2⟩

theorem del_rel {P : Program} (R : Rel ι m w) {b n sz i : Nat} {cap : Option Nat} {cs : List AV} {v : Value} (hb : m.H[b]? = some (.cells cs true)) (hcs : cs.length = n * sz) (hi : i < n) (hv : V ι w (.slice (some (b, 0)) sz n cap) v) :
    ∃ (c x k : Nat) (news : List Value), v = .slice (some ⟨c, x, none⟩) n k ∧ n ≤ k ∧ news.length = (n - (i + 1)) * sz ∧
      (∀ t u, news[t]? = some u → w.drew.cell? ⟨c, x + (i + 1) * sz + t, none⟩ = some u) ∧ (∀ u ∈ news, u.oneCell' = true) ∧
      (∀ t, t < (n - (i + 1)) * sz → (w.drew.cell? ⟨c, x + i * sz + t, none⟩).isSome = true ∧ w.drew.frozen? ⟨c, x + i * sz + t, none⟩ = false) ∧
      (∀ t, t < sz → ((w.drew.setCells c (x + i * sz) news).cell? ⟨c, x + (i + (n - (i + 1))) * sz + t, none⟩).isSome = true ∧ (w.drew.setCells c (x + i * sz) news).frozen? ⟨c, x + (i + (n - (i + 1))) * sz + t, none⟩ = false) ∧
      ∃ ι', V ι' ((w.drew.setCells c (x + i * sz) news).setCells c (x + (i + (n - (i + 1))) * sz) (List.replicate sz (.int .i64 0))) (.slice (some (m.H.length + 1, 0)) sz (n - 1) none) (.slice (some ⟨c, x, none⟩) (i + (n - (i + 1))) k) ∧
        Rel ι' ⟨m.H.set b .dead ++ [.dead, .cells (cs.take (i * sz) ++ cs.drop ((i + 1) * sz)) true], m.esc⟩ ((w.drew.setCells c (x + i * sz) news).setCells c (x + (i + (n - (i + 1))) * sz) (List.replicate sz (.int .i64 0))) ∧
        Ext ι m w ι' ⟨m.H.set b .dead ++ [.dead, .cells (cs.take (i * sz) ++ cs.drop ((i + 1) * sz)) true], m.esc⟩ ((w.drew.setCells c (x + i * sz) news).setCells c (x + (i + (n - (i + 1))) * sz) (List.replicate sz (.int .i64 0))) := by
  obtain ⟨c, d, x, k, e, M, g1, rfl, g3, g4, g5, g6, g7⟩ := hv
  obtain ⟨c', d', g1', hC⟩ := R.at' b cs true hb
  rw [g1] at g1'
  cases g1'
  have hx : x = d := by rcases g4 with h | ⟨h, _⟩ <;> omega
  subst hx
  obtain ⟨us, hu, hcell⟩ := hC.vals
  obtain ⟨e', M', g5', hfree⟩ := hC.free rfl
  rw [g5] at g5'
  cases g5'
  have hul : us.length = n * sz := hu.length.trans hcs
  have hkM : x + k * sz ≤ M := by rcases g6 with h | h <;> omega
  have hnk : n * sz ≤ k * sz := Nat.mul_le_mul_right _ g3
  have e1 : (i + 1) * sz + (n - (i + 1)) * sz = n * sz := by rw [← Nat.add_mul]; congr 1; omega
  have e2 : (i + 1) * sz = i * sz + sz := by rw [Nat.add_mul, Nat.one_mul]
  have e3 : (i + (n - (i + 1))) * sz = i * sz + (n - (i + 1)) * sz := Nat.add_mul _ _ _
  have hbl : b < m.H.length := (List.getElem?_eq_some_iff.mp hb).1
  have R0 := R.drew
  have hu0 : VL ι w.drew cs us := VL.mono (w := w) (w' := w.drew) (Emb.le_refl _) (fun _ _ h => h) _ _ hu
  have hM : w.drew.shape? c = some (e, M) := g5
  obtain ⟨_, r1, r2⟩ := Rel.inplace (P := P) (b := b) (old := cs) (cs := cs.take (i * sz)) (new := cs.drop ((i + 1) * sz)) (us := us.take (i * sz)) (vs := us.drop ((i + 1) * sz)) R0 hb g1 hM (hu0.take _)
    (fun j v hj => by
      rw [List.getElem?_take] at hj
      split at hj
      · exact hcell j v hj
      · cases hj) (by have := all_sub hC.cell 0 (i * sz); rwa [List.drop_zero] at this)
    (hu0.drop _) (by have := all_sub hC.cell ((i + 1) * sz) cs.length; rwa [List.take_of_length_le (by simp)] at this) (by simp; omega)
  have htl : (us.take (i * sz)).length = i * sz := by rw [List.length_take]; omega
  rw [htl] at r1 r2
  have hH1 : (m.H.set b .dead ++ [Blk.cells (cs.take (i * sz) ++ cs.drop ((i + 1) * sz)) true])[m.H.length]? = some (.cells (cs.take (i * sz) ++ cs.drop ((i + 1) * sz)) true) := by
    rw [List.getElem?_append_right (by simp)]; simp
  have hι1 : (ι ++ [some (c, x)])[m.H.length]? = some (some (c, x)) := by rw [← R.len]; exact emb_last _ _
  obtain ⟨c', d', q1, hC1⟩ := r1.at' m.H.length _ true hH1
  rw [hι1] at q1
  cases q1
  obtain ⟨us1, hu1, hcell1⟩ := hC1.vals
  obtain ⟨e', M', g5', hfree1⟩ := hC1.free rfl
  have hM1 := r2.shapes _ _ hM
  rw [hM1] at g5'
  cases g5'
  have hal : (cs.take (i * sz) ++ cs.drop ((i + 1) * sz)).length = (i + (n - (i + 1))) * sz := by
    rw [List.length_append, List.length_take, List.length_drop]; omega
  have hu1l : us1.length = (i + (n - (i + 1))) * sz := hu1.length.trans hal
  obtain ⟨_, r3, r4⟩ := Rel.inplace (P := P) (b := m.H.length) (old := cs.take (i * sz) ++ cs.drop ((i + 1) * sz)) (cs := cs.take (i * sz) ++ cs.drop ((i + 1) * sz)) (new := List.replicate sz (AV.int .i64 0)) (us := us1) (vs := List.replicate sz (.int .i64 0)) r1 hH1 hι1 hM1 hu1 hcell1 hC1.cell
    (VL.replicate (c := .int .i64 0) (y := .int .i64 0) rfl sz) (by simp [AV.isCell]) (by right; simp; omega)
  rw [hu1l] at r3 r4
  have hH2 : (m.H.set b .dead ++ [Blk.cells (cs.take (i * sz) ++ cs.drop ((i + 1) * sz)) true]).set m.H.length .dead ++ [Blk.cells (cs.take (i * sz) ++ cs.drop ((i + 1) * sz) ++ List.replicate sz (AV.int .i64 0)) true] =
      m.H.set b .dead ++ [.dead, .cells (cs.take (i * sz) ++ cs.drop ((i + 1) * sz) ++ List.replicate sz (AV.int .i64 0)) true] := by
    rw [List.set_append_right _ _ (by simp)]
    simp
  simp only [hH2] at r3 r4
  obtain ⟨r5, r6⟩ := r3.trim (b := m.H.length + 1) (cs := cs.take (i * sz) ++ cs.drop ((i + 1) * sz) ++ List.replicate sz (AV.int .i64 0)) (wr := true) (by
    show (m.H.set b .dead ++ [.dead, _])[m.H.length + 1]? = _
    rw [List.getElem?_append_right (by simp)]; simp) ((i + (n - (i + 1))) * sz)
  have hH3 : (m.H.set b .dead ++ [.dead, Blk.cells (cs.take (i * sz) ++ cs.drop ((i + 1) * sz) ++ List.replicate sz (AV.int .i64 0)) true]).set (m.H.length + 1) (.cells ((cs.take (i * sz) ++ cs.drop ((i + 1) * sz) ++ List.replicate sz (AV.int .i64 0)).take ((i + (n - (i + 1))) * sz)) true) =
      m.H.set b .dead ++ [.dead, .cells (cs.take (i * sz) ++ cs.drop ((i + 1) * sz)) true] := by
    rw [List.set_append_right _ _ (by simp), List.take_left' hal]
    simp
  simp only [hH3] at r5 r6
  refine ⟨c, x, k, us.drop ((i + 1) * sz), rfl, g3, by rw [List.length_drop]; omega, fun t u ht => ?_, fun u hu' => ?_, fun t ht => ?_, fun t ht => ?_, _, ?_, r5, ((Ext.drew ι m w).trans r2).trans (r4.trans r6)⟩
  · rw [List.getElem?_drop] at ht
    have := hcell _ _ ht
    rw [← Nat.add_assoc] at this
    exact this
  · exact oneCells hu hC.cell u (List.mem_of_mem_drop hu')
  · obtain ⟨y, hy⟩ := shape_cell hM (show x + i * sz + t < M by omega)
    exact ⟨by rw [hy]; rfl, hfree _ (by omega)⟩
  · obtain ⟨y, hy⟩ := shape_cell hM1 (show x + (i + (n - (i + 1))) * sz + t < M by omega)
    exact ⟨by rw [hy]; rfl, hfree1 _ (by omega)⟩
  · refine ⟨c, x, x, k, e, M, ?_, ?_, by omega, .inl rfl, r6.shapes _ _ (r4.shapes _ _ hM1), .inr hkM, fun q hq => by cases hq⟩
    · rw [show m.H.length + 1 = (ι ++ [some (c, x)]).length by simp [R.len]]
      exact emb_last _ _
    · rw [show i + (n - (i + 1)) = n - 1 by omega]

end

end Go.Proofs.Ytlocjmbfcdfjfaa.Slim

/- The slim functions of this seat (printed by a program; each is checked against the program by the kernel in SlimOk). -/
namespace Go.Proofs.Ytlocjmbfcdfjfaa.Slim
open Go
abbrev f_main_main : FuncId := 0
abbrev f_gosem_cut : FuncId := 1
abbrev f_gosem_cut_init : FuncId := 2
abbrev f_l_FnExactNewStand : FuncId := 3
abbrev f_l_FnExactIsStand : FuncId := 4
abbrev f_l_FnExactRowPull : FuncId := 5
abbrev f_l_FnExactNewConsole : FuncId := 6
abbrev f_l_FnExactDoTask : FuncId := 7
abbrev f_l_FnStands : FuncId := 8
abbrev f_l_FnRowPulls : FuncId := 9
abbrev f_l_FnExactDoTasks : FuncId := 10
abbrev f_s_NewStand : FuncId := 11
abbrev f_i_NewStand : FuncId := 12
abbrev f_l_eqStand : FuncId := 13
abbrev f_l_markStand : FuncId := 14
abbrev f_l_heldStand : FuncId := 15
abbrev f_l_szStand : FuncId := 16
abbrev f_s_IsStand : FuncId := 17
abbrev f_l_toStand : FuncId := 18
abbrev f_i_IsStand : FuncId := 19
abbrev f_s_RowPull : FuncId := 20
abbrev f_i_RowPull : FuncId := 21
abbrev f_s_NewConsole : FuncId := 22
abbrev f_i_NewConsole : FuncId := 23
abbrev f_l_eqConsole : FuncId := 24
abbrev f_l_markConsole : FuncId := 25
abbrev f_l_heldConsole : FuncId := 26
abbrev f_s_DoTask : FuncId := 27
abbrev f_l_toTask : FuncId := 28
abbrev f_i_DoTask : FuncId := 29
abbrev f_l_vBig : FuncId := 30
abbrev f_s_DrawNewStand : FuncId := 31
abbrev f_s_DrawDoTask : FuncId := 32
abbrev f_l_vCut : FuncId := 33
abbrev f_s_DrawDoTasks : FuncId := 34
abbrev f_i_DoTasks : FuncId := 35
abbrev f_s_DoTasks : FuncId := 36
abbrev f_l_vStand : FuncId := 37
abbrev f_i_TipSide : FuncId := 38
abbrev f_l_vRow : FuncId := 39
abbrev f_l_vChain : FuncId := 40
abbrev f_s_DrawRowPull : FuncId := 41
abbrev f_i_WeightOf : FuncId := 42
abbrev f_i_LeastPull : FuncId := 43
abbrev f_i_ChainGain : FuncId := 44
abbrev f_l_szTaskS : FuncId := 45
abbrev f_l_toTaskS : FuncId := 46
abbrev f_l_eqTaskS : FuncId := 47
abbrev f_l_markTaskS : FuncId := 48
abbrev f_s_l2Base : FuncId := 49
abbrev f_s_l12Own : FuncId := 50
abbrev f_l_eqLoadS : FuncId := 51
abbrev f_l_eqStageS : FuncId := 52
abbrev f_l_markLoadS : FuncId := 53
abbrev f_l_markStageS : FuncId := 54
abbrev f_l_heldLoadS : FuncId := 55
abbrev f_l_heldStageS : FuncId := 56
abbrev f_l_szLoadS : FuncId := 57
abbrev f_l_szStageS : FuncId := 58
abbrev f_s_l12Good : FuncId := 59
abbrev f_l_toLoadS : FuncId := 60
abbrev f_l_toStageS : FuncId := 61
abbrev f_i_IsRow : FuncId := 62
abbrev f_i_isBase : FuncId := 63
abbrev f_i_isChain : FuncId := 64
abbrev f_i_within : FuncId := 65
abbrev f_s_LeastPull : FuncId := 66
abbrev f_s_l2Weight : FuncId := 67
abbrev f_i_weightOf : FuncId := 68
abbrev f_i_copyStand : FuncId := 69
abbrev f_l_eqLog : FuncId := 70
abbrev f_s_l12Do : FuncId := 71
abbrev f_slices_Delete_Si_Load_i_Load : FuncId := 72
abbrev f_slices_Delete_Si_Stage_i_Stage : FuncId := 73
abbrev f_i_tipSide : FuncId := 74
abbrev f_s_l1Cur_placeIn : FuncId := 75
abbrev f_s_l1Cur_stand : FuncId := 76
abbrev f_s_l1Cur_task12 : FuncId := 77
abbrev f_s_l1Cur_pick : FuncId := 78
abbrev f_s_DrawIsStand : FuncId := 79
abbrev f_i_PullFor : FuncId := 80
abbrev f_i_chainGain : FuncId := 81
abbrev f_l_eqTask : FuncId := 82
abbrev f_s_l2In : FuncId := 83
abbrev f_l_eqLoad : FuncId := 84
abbrev f_l_eqStage : FuncId := 85
abbrev f_s_l2On : FuncId := 86
abbrev f_s_l7Stages : FuncId := 87
abbrev f_s_l1In : FuncId := 88
abbrev f_l_toLoad : FuncId := 89
abbrev f_l_toStage : FuncId := 90
abbrev f_slices_ContainsFunc_Si_Load_i_Load : FuncId := 91
abbrev f_i_IsRow_1 : FuncId := 92
abbrev f_i_isPlace : FuncId := 93
abbrev f_i_isWeight : FuncId := 94
abbrev f_i_IsStage : FuncId := 95
abbrev f_s_l7Ask : FuncId := 96
abbrev f_s_l7Chain : FuncId := 97
abbrev f_slices_Clone_Si_Load_i_Load : FuncId := 98
abbrev f_slices_Clone_Si_Stage_i_Stage : FuncId := 99
abbrev f_s_l12May : FuncId := 100
abbrev f_s_l12Make : FuncId := 101
abbrev f_s_l2Side : FuncId := 102
abbrev f_i_momentAbout : FuncId := 103
abbrev f_s_l1Cur_one : FuncId := 104
abbrev f_s_l1Cur_among : FuncId := 105
abbrev f_s_l1Most : FuncId := 106
abbrev f_s_l1Least : FuncId := 107
abbrev f_s_l1Cur_stage7 : FuncId := 108
abbrev f_s_l1Cur_next : FuncId := 109
abbrev f_i_isHaul : FuncId := 110
abbrev f_i_fraction : FuncId := 111
abbrev f_i_stageGain : FuncId := 112
abbrev f_s_l2Row : FuncId := 113
abbrev f_s_l7Stage : FuncId := 114
abbrev f_slices_IndexFunc_Si_Load_i_Load : FuncId := 115
abbrev f_i_isRatio : FuncId := 116
abbrev f_s_l7Gain : FuncId := 117
abbrev f_s_l2Cut : FuncId := 118
abbrev f_s_l2Moment : FuncId := 119
abbrev f_i_divisor : FuncId := 120
abbrev f_s_l7Two : FuncId := 121
abbrev f_s_l2Gcd : FuncId := 122
abbrev f_runtime_boundsError_Error : FuncId := 123
abbrev f_runtime_boundsError_RuntimeError : FuncId := 124
abbrev f_runtime_errorString_Error : FuncId := 125
abbrev f_runtime_errorString_RuntimeError : FuncId := 126
abbrev f_runtime_plainError_Error : FuncId := 127
abbrev f_runtime_plainError_RuntimeError : FuncId := 128
abbrev f_runtime_errorAddressString_Error : FuncId := 129
abbrev f_runtime_errorAddressString_RuntimeError : FuncId := 130
abbrev f_runtime_TypeAssertionError_Error : FuncId := 131
abbrev f_runtime_TypeAssertionError_RuntimeError : FuncId := 132
abbrev f_runtime_PanicNilError_Error : FuncId := 133
abbrev f_runtime_PanicNilError_RuntimeError : FuncId := 134
abbrev f_internal_abi_Type_Align : FuncId := 135
abbrev f_internal_runtime_maps_unhashableTypeError_Error : FuncId := 136
abbrev f_internal_runtime_maps_unhashableTypeError_RuntimeError : FuncId := 137
abbrev f_s_l1Cur_any1 : FuncId := 138
abbrev f_internal_abi_Kind_String : FuncId := 139
def c_gosem_cut_init : ACode :=
 (.region [⟨.call (.c (.fn f_gosem_cut [] [])) [], none⟩] [])
def a_gosem_cut_init : AFun := ⟨[], 1, c_gosem_cut_init, [], 1⟩
def c_l_FnExactNewStand : ACode :=
 (.seq (.region [⟨.mv (.c (.bool false)), none⟩] [(2, 0)])
 (.seq (.region [⟨.mv (.t 0), none⟩, ⟨.mv (.t 1), none⟩, ⟨.call (.c (.fn f_s_NewStand [] [])) [(.l 0), (.l 1)], none⟩, ⟨.mv (.l 2), none⟩, ⟨.extract 0 (.l 3), none⟩, ⟨.extract 1 (.l 3), none⟩, ⟨.alloc [.slice none 0 0 none, .int .i64 (0), .int .i64 (0), .slice none 0 0 none, .int .i64 (0), .int .i64 (0)], none⟩, ⟨.store 6 (.l 6) (.l 4), none⟩, ⟨.mv (.l 5), none⟩] [(3, 6), (4, 8)])
 (.seq (.region [⟨.mv (.t 0), none⟩, ⟨.mv (.t 1), none⟩, ⟨.call (.c (.fn f_i_NewStand [] [])) [(.l 0), (.l 1)], none⟩, ⟨.mv (.l 2), none⟩, ⟨.extract 0 (.l 3), none⟩, ⟨.extract 1 (.l 3), none⟩, ⟨.alloc [.slice none 0 0 none, .int .i64 (0), .int .i64 (0), .slice none 0 0 none, .int .i64 (0), .int .i64 (0)], none⟩, ⟨.store 6 (.l 6) (.l 4), none⟩, ⟨.mv (.l 5), none⟩] [(5, 6), (6, 8)])
 (.seq (.seq (.region [⟨.load true 6 (.t 5), none⟩, ⟨.load true 6 (.t 3), none⟩, ⟨.call (.c (.fn f_l_eqStand [] [])) [(.l 0), (.l 1)], none⟩, ⟨.un .not (.l 2), none⟩, ⟨.mv (.l 3), none⟩, ⟨.mv (.t 6), some ((.l 4), false)⟩, ⟨.mv (.t 4), some ((.l 4), false)⟩, ⟨.bin 2 .neq (.l 5) (.l 6), some ((.l 4), false)⟩, ⟨.pick (.l 4) (.c (.bool true)) (.l 7), none⟩] [(11, 8)])
 (.cond (.t 11) (.seq (.region [⟨.mv (.c (.bool false)), none⟩] [(2, 0)])
 .ret) .skip))
 (.seq (.region [⟨.mv (.c (.int .i64 (1))), none⟩] [(7, 0)])
 (.seq (.region [⟨.load true 6 (.t 5), none⟩, ⟨.mv (.t 7), none⟩, ⟨.call (.c (.fn f_l_markStand [] [])) [(.l 0), (.l 1)], none⟩, ⟨.mv (.l 2), none⟩] [(7, 3)])
 (.seq (.region [⟨.mv (.c (.int .i64 (1))), none⟩] [(8, 0)])
 (.seq (.region [⟨.load true 6 (.t 5), none⟩, ⟨.mv (.t 8), none⟩, ⟨.call (.c (.fn f_l_heldStand [] [])) [(.l 0), (.l 1)], none⟩, ⟨.mv (.l 2), none⟩] [(8, 3)])
 (.seq (.seq (.region [⟨.mv (.t 8), none⟩, ⟨.bin 0 .lss (.l 0) (.c (.int .i64 (0))), none⟩] [(12, 1)])
 (.cond (.t 12) (.seq (.region [⟨.mv (.c (.bool false)), none⟩] [(2, 0)])
 .ret) .skip))
 (.seq (.seq (.region [⟨.mv (.t 8), none⟩, ⟨.mv (.t 7), none⟩, ⟨.bin 0 .neq (.l 0) (.l 1), none⟩] [(13, 2)])
 (.cond (.t 13) (.seq (.region [⟨.mv (.c (.bool false)), none⟩] [(2, 0)])
 .ret) .skip))
 (.seq (.region [⟨.mv (.t 0), none⟩, ⟨.mv (.t 1), none⟩, ⟨.call (.c (.fn f_i_NewStand [] [])) [(.l 0), (.l 1)], none⟩, ⟨.mv (.l 2), none⟩, ⟨.extract 0 (.l 3), none⟩, ⟨.extract 1 (.l 3), none⟩, ⟨.alloc [.slice none 0 0 none, .int .i64 (0), .int .i64 (0), .slice none 0 0 none, .int .i64 (0), .int .i64 (0)], none⟩, ⟨.store 6 (.l 6) (.l 4), none⟩, ⟨.mv (.l 5), none⟩] [(9, 6), (10, 8)])
 (.seq (.seq (.region [⟨.load true 6 (.t 9), none⟩, ⟨.load true 6 (.t 3), none⟩, ⟨.call (.c (.fn f_l_eqStand [] [])) [(.l 0), (.l 1)], none⟩, ⟨.un .not (.l 2), none⟩, ⟨.mv (.l 3), none⟩, ⟨.mv (.t 10), some ((.l 4), false)⟩, ⟨.mv (.t 4), some ((.l 4), false)⟩, ⟨.bin 2 .neq (.l 5) (.l 6), some ((.l 4), false)⟩, ⟨.pick (.l 4) (.c (.bool true)) (.l 7), none⟩] [(14, 8)])
 (.cond (.t 14) (.seq (.region [⟨.mv (.c (.bool false)), none⟩] [(2, 0)])
 .ret) .skip))
 (.seq (.region [⟨.mv (.c (.int .i64 (1))), none⟩] [(8, 0)])
 (.seq (.region [⟨.load true 6 (.t 5), none⟩, ⟨.mv (.t 8), none⟩, ⟨.call (.c (.fn f_l_heldStand [] [])) [(.l 0), (.l 1)], none⟩, ⟨.mv (.l 2), none⟩] [(8, 3)])
 (.seq (.seq (.region [⟨.mv (.t 8), none⟩, ⟨.bin 0 .lss (.l 0) (.c (.int .i64 (0))), none⟩] [(15, 1)])
 (.cond (.t 15) (.seq (.region [⟨.mv (.c (.bool false)), none⟩] [(2, 0)])
 .ret) .skip))
 (.seq (.seq (.region [⟨.mv (.t 8), none⟩, ⟨.mv (.t 7), none⟩, ⟨.bin 0 .neq (.l 0) (.l 1), none⟩] [(16, 2)])
 (.cond (.t 16) (.seq (.region [⟨.mv (.c (.bool false)), none⟩] [(2, 0)])
 .ret) .skip))
 (.seq (.region [⟨.mv (.c (.bool true)), none⟩] [(2, 0)])
 .ret)))))))))))))))))
def a_l_FnExactNewStand : AFun := ⟨[0, 1, 4, 5, 6, 7, 8, 9, 10, 11, 12, 33, 41, 44, 59, 64, 67], 68, c_l_FnExactNewStand, [.tmp 2], 1⟩
def c_l_FnExactIsStand : ACode :=
 (.seq (.region [⟨.box (.t 0), none⟩, ⟨.mv (.c (.bool false)), none⟩] [(1, 0), (2, 1)])
 (.seq (.region [⟨.mv (.c (.int .i64 (1048576))), none⟩] [(3, 0)])
 (.seq (.region [⟨.load true 6 (.t 1), none⟩, ⟨.mv (.t 3), none⟩, ⟨.call (.c (.fn f_l_szStand [] [])) [(.l 0), (.l 1)], none⟩, ⟨.mv (.l 2), none⟩] [(3, 3)])
 (.seq (.seq (.region [⟨.mv (.t 3), none⟩, ⟨.bin 0 .lss (.l 0) (.c (.int .i64 (0))), none⟩] [(7, 1)])
 (.cond (.t 7) (.seq (.region [⟨.mv (.c (.bool true)), none⟩] [(2, 0)])
 .ret) .skip))
 (.seq (.region [⟨.load true 6 (.t 1), none⟩, ⟨.call (.c (.fn f_l_toStand [] [])) [(.l 0)], none⟩, ⟨.call (.c (.fn f_s_IsStand [] [])) [(.l 1)], none⟩, ⟨.mv (.l 2), none⟩] [(4, 3)])
 (.seq (.region [⟨.load true 6 (.t 1), none⟩, ⟨.call (.c (.fn f_l_toStand [] [])) [(.l 0)], none⟩, ⟨.alloc [.slice none 0 0 none, .int .i64 (0), .int .i64 (0), .slice none 0 0 none, .int .i64 (0), .int .i64 (0)], none⟩, ⟨.store 6 (.l 2) (.l 1), none⟩] [(5, 2)])
 (.seq (.region [⟨.load true 6 (.t 5), none⟩, ⟨.call (.c (.fn f_i_IsStand [] [])) [(.l 0)], none⟩, ⟨.mv (.l 1), none⟩] [(6, 2)])
 (.seq (.seq (.region [⟨.mv (.t 6), none⟩, ⟨.mv (.t 4), none⟩, ⟨.bin 2 .neq (.l 0) (.l 1), none⟩] [(8, 2)])
 (.cond (.t 8) (.seq (.region [⟨.mv (.c (.bool false)), none⟩] [(2, 0)])
 .ret) .skip))
 (.seq (.seq (.draw [⟨.load true 6 (.t 5), none, []⟩, ⟨.load true 6 (.t 1), none, []⟩, ⟨.call (.c (.fn f_l_toStand [] [])) [(.l 1)], none, [(0, ⟨.load true 6 (.t 5), none⟩)]⟩, ⟨.call (.c (.fn f_l_eqStand [] [])) [(.l 0), (.l 2)], none, []⟩, ⟨.un .not (.l 3), none, []⟩] [(9, 4)])
 (.cond (.t 9) (.seq (.region [⟨.mv (.c (.bool false)), none⟩] [(2, 0)])
 .ret) .skip))
 (.seq (.region [⟨.mv (.c (.bool true)), none⟩] [(2, 0)])
 .ret))))))))))
def a_l_FnExactIsStand : AFun := ⟨[0, 1, 2, 3, 4, 5, 6, 11, 21, 26], 27, c_l_FnExactIsStand, [.tmp 2], 1⟩
def c_l_FnExactRowPull : ACode :=
 (.seq (.region [⟨.box (.t 0), none⟩, ⟨.mv (.c (.bool false)), none⟩] [(1, 0), (2, 1)])
 (.seq (.region [⟨.mv (.c (.int .i64 (1048576))), none⟩] [(3, 0)])
 (.seq (.region [⟨.load true 6 (.t 1), none⟩, ⟨.mv (.t 3), none⟩, ⟨.call (.c (.fn f_l_szStand [] [])) [(.l 0), (.l 1)], none⟩, ⟨.mv (.l 2), none⟩] [(3, 3)])
 (.seq (.seq (.region [⟨.mv (.t 3), none⟩, ⟨.bin 0 .lss (.l 0) (.c (.int .i64 (0))), none⟩] [(9, 1)])
 (.cond (.t 9) (.seq (.region [⟨.mv (.c (.bool true)), none⟩] [(2, 0)])
 .ret) .skip))
 (.seq (.region [⟨.load true 6 (.t 1), none⟩, ⟨.call (.c (.fn f_l_toStand [] [])) [(.l 0)], none⟩, ⟨.call (.c (.fn f_s_RowPull [] [])) [(.l 1)], none⟩, ⟨.mv (.l 2), none⟩, ⟨.extract 0 (.l 3), none⟩, ⟨.extract 1 (.l 3), none⟩, ⟨.mv (.l 4), none⟩, ⟨.mv (.l 5), none⟩] [(4, 6), (5, 7)])
 (.seq (.region [⟨.load true 6 (.t 1), none⟩, ⟨.call (.c (.fn f_l_toStand [] [])) [(.l 0)], none⟩, ⟨.alloc [.slice none 0 0 none, .int .i64 (0), .int .i64 (0), .slice none 0 0 none, .int .i64 (0), .int .i64 (0)], none⟩, ⟨.store 6 (.l 2) (.l 1), none⟩] [(6, 2)])
 (.seq (.region [⟨.load true 6 (.t 6), none⟩, ⟨.call (.c (.fn f_i_RowPull [] [])) [(.l 0)], none⟩, ⟨.mv (.l 1), none⟩, ⟨.extract 0 (.l 2), none⟩, ⟨.extract 1 (.l 2), none⟩, ⟨.mv (.l 3), none⟩, ⟨.mv (.l 4), none⟩] [(7, 5), (8, 6)])
 (.seq (.seq (.region [⟨.mv (.t 7), none⟩, ⟨.mv (.t 4), none⟩, ⟨.bin 0 .neq (.l 0) (.l 1), none⟩, ⟨.mv (.l 2), none⟩, ⟨.mv (.t 8), some ((.l 3), false)⟩, ⟨.mv (.t 5), some ((.l 3), false)⟩, ⟨.bin 2 .neq (.l 4) (.l 5), some ((.l 3), false)⟩, ⟨.pick (.l 3) (.c (.bool true)) (.l 6), none⟩] [(10, 7)])
 (.cond (.t 10) (.seq (.region [⟨.mv (.c (.bool false)), none⟩] [(2, 0)])
 .ret) .skip))
 (.seq (.seq (.draw [⟨.load true 6 (.t 6), none, []⟩, ⟨.load true 6 (.t 1), none, []⟩, ⟨.call (.c (.fn f_l_toStand [] [])) [(.l 1)], none, [(0, ⟨.load true 6 (.t 6), none⟩)]⟩, ⟨.call (.c (.fn f_l_eqStand [] [])) [(.l 0), (.l 2)], none, []⟩, ⟨.un .not (.l 3), none, []⟩] [(11, 4)])
 (.cond (.t 11) (.seq (.region [⟨.mv (.c (.bool false)), none⟩] [(2, 0)])
 .ret) .skip))
 (.seq (.region [⟨.mv (.c (.bool true)), none⟩] [(2, 0)])
 .ret))))))))))
def a_l_FnExactRowPull : AFun := ⟨[0, 1, 2, 3, 4, 5, 6, 7, 8, 13, 34, 39], 40, c_l_FnExactRowPull, [.tmp 2], 1⟩
def c_l_FnExactNewConsole : ACode :=
 (.seq (.region [⟨.box (.t 0), none⟩, ⟨.mv (.c (.bool false)), none⟩] [(1, 0), (2, 1)])
 (.seq (.region [⟨.mv (.c (.int .i64 (1048576))), none⟩] [(3, 0)])
 (.seq (.region [⟨.load true 6 (.t 1), none⟩, ⟨.mv (.t 3), none⟩, ⟨.call (.c (.fn f_l_szStand [] [])) [(.l 0), (.l 1)], none⟩, ⟨.mv (.l 2), none⟩] [(3, 3)])
 (.seq (.seq (.region [⟨.mv (.t 3), none⟩, ⟨.bin 0 .lss (.l 0) (.c (.int .i64 (0))), none⟩] [(14, 1)])
 (.cond (.t 14) (.seq (.region [⟨.mv (.c (.bool true)), none⟩] [(2, 0)])
 .ret) .skip))
 (.seq (.region [⟨.load true 6 (.t 1), none⟩, ⟨.call (.c (.fn f_l_toStand [] [])) [(.l 0)], none⟩, ⟨.call (.c (.fn f_s_NewConsole [] [])) [(.l 1)], none⟩, ⟨.mv (.l 2), none⟩, ⟨.extract 0 (.l 3), none⟩, ⟨.extract 1 (.l 3), none⟩, ⟨.alloc [.slice none 0 0 none, .int .i64 (0), .int .i64 (0), .slice none 0 0 none, .int .i64 (0), .int .i64 (0), .str ⟨#[]⟩, .str ⟨#[]⟩, .int .i64 (0)], none⟩, ⟨.store 9 (.l 6) (.l 4), none⟩, ⟨.mv (.l 5), none⟩] [(4, 6), (5, 8)])
 (.seq (.region [⟨.load true 6 (.t 1), none⟩, ⟨.call (.c (.fn f_l_toStand [] [])) [(.l 0)], none⟩, ⟨.alloc [.slice none 0 0 none, .int .i64 (0), .int .i64 (0), .slice none 0 0 none, .int .i64 (0), .int .i64 (0)], none⟩, ⟨.store 6 (.l 2) (.l 1), none⟩] [(6, 2)])
 (.seq (.region [⟨.load true 6 (.t 6), none⟩, ⟨.call (.c (.fn f_i_NewConsole [] [])) [(.l 0)], none⟩, ⟨.mv (.l 1), none⟩, ⟨.extract 0 (.l 2), none⟩, ⟨.extract 1 (.l 2), none⟩, ⟨.alloc [.slice none 0 0 none, .int .i64 (0), .int .i64 (0), .slice none 0 0 none, .int .i64 (0), .int .i64 (0), .str ⟨#[]⟩, .str ⟨#[]⟩, .int .i64 (0)], none⟩, ⟨.store 9 (.l 5) (.l 3), none⟩, ⟨.mv (.l 4), none⟩] [(7, 5), (8, 7)])
 (.seq (.seq (.region [⟨.load true 9 (.t 7), none⟩, ⟨.load true 9 (.t 4), none⟩, ⟨.call (.c (.fn f_l_eqConsole [] [])) [(.l 0), (.l 1)], none⟩, ⟨.un .not (.l 2), none⟩, ⟨.mv (.l 3), none⟩, ⟨.mv (.t 8), some ((.l 4), false)⟩, ⟨.mv (.t 5), some ((.l 4), false)⟩, ⟨.bin 2 .neq (.l 5) (.l 6), some ((.l 4), false)⟩, ⟨.pick (.l 4) (.c (.bool true)) (.l 7), none⟩] [(15, 8)])
 (.cond (.t 15) (.seq (.region [⟨.mv (.c (.bool false)), none⟩] [(2, 0)])
 .ret) .skip))
 (.seq (.seq (.draw [⟨.load true 6 (.t 6), none, []⟩, ⟨.load true 6 (.t 1), none, []⟩, ⟨.call (.c (.fn f_l_toStand [] [])) [(.l 1)], none, [(0, ⟨.load true 6 (.t 6), none⟩)]⟩, ⟨.call (.c (.fn f_l_eqStand [] [])) [(.l 0), (.l 2)], none, []⟩, ⟨.un .not (.l 3), none, []⟩] [(16, 4)])
 (.cond (.t 16) (.seq (.region [⟨.mv (.c (.bool false)), none⟩] [(2, 0)])
 .ret) .skip))
 (.seq (.region [⟨.mv (.c (.int .i64 (1))), none⟩] [(9, 0)])
 (.seq (.region [⟨.load true 6 (.t 6), none⟩, ⟨.mv (.t 9), none⟩, ⟨.call (.c (.fn f_l_markStand [] [])) [(.l 0), (.l 1)], none⟩, ⟨.mv (.l 2), none⟩] [(9, 3)])
 (.seq (.seq (.region [⟨.mv (.t 9), none⟩, ⟨.bin 0 .lss (.l 0) (.c (.int .i64 (0))), none⟩, ⟨.mv (.l 1), none⟩, ⟨.load true 9 (.t 7), some ((.l 2), false)⟩, ⟨.load true 9 (.t 4), some ((.l 2), false)⟩, ⟨.call (.c (.fn f_l_eqConsole [] [])) [(.l 3), (.l 4)], some ((.l 2), false)⟩, ⟨.un .not (.l 5), some ((.l 2), false)⟩, ⟨.pick (.l 2) (.c (.bool true)) (.l 6), none⟩, ⟨.mv (.l 7), none⟩, ⟨.mv (.t 8), some ((.l 8), false)⟩, ⟨.mv (.t 5), some ((.l 8), false)⟩, ⟨.bin 2 .neq (.l 9) (.l 10), some ((.l 8), false)⟩, ⟨.pick (.l 8) (.c (.bool true)) (.l 11), none⟩] [(17, 12)])
 (.cond (.t 17) (.seq (.region [⟨.mv (.c (.bool false)), none⟩] [(2, 0)])
 .ret) .skip))
 (.seq (.region [⟨.mv (.c (.int .i64 (1))), none⟩] [(10, 0)])
 (.seq (.region [⟨.load true 9 (.t 7), none⟩, ⟨.mv (.t 10), none⟩, ⟨.call (.c (.fn f_l_markConsole [] [])) [(.l 0), (.l 1)], none⟩, ⟨.mv (.l 2), none⟩] [(10, 3)])
 (.seq (.region [⟨.mv (.c (.int .i64 (1))), none⟩] [(11, 0)])
 (.seq (.region [⟨.load true 9 (.t 7), none⟩, ⟨.mv (.t 11), none⟩, ⟨.call (.c (.fn f_l_heldConsole [] [])) [(.l 0), (.l 1)], none⟩, ⟨.mv (.l 2), none⟩] [(11, 3)])
 (.seq (.seq (.region [⟨.mv (.t 11), none⟩, ⟨.bin 0 .lss (.l 0) (.c (.int .i64 (0))), none⟩] [(18, 1)])
 (.cond (.t 18) (.seq (.region [⟨.mv (.c (.bool false)), none⟩] [(2, 0)])
 .ret) .skip))
 (.seq (.seq (.region [⟨.mv (.t 11), none⟩, ⟨.mv (.t 10), none⟩, ⟨.bin 0 .neq (.l 0) (.l 1), none⟩] [(19, 2)])
 (.cond (.t 19) (.seq (.region [⟨.mv (.c (.bool false)), none⟩] [(2, 0)])
 .ret) .skip))
 (.seq (.region [⟨.load true 6 (.t 1), none⟩, ⟨.call (.c (.fn f_l_toStand [] [])) [(.l 0)], none⟩, ⟨.call (.c (.fn f_i_NewConsole [] [])) [(.l 1)], none⟩, ⟨.mv (.l 2), none⟩, ⟨.extract 0 (.l 3), none⟩, ⟨.extract 1 (.l 3), none⟩, ⟨.alloc [.slice none 0 0 none, .int .i64 (0), .int .i64 (0), .slice none 0 0 none, .int .i64 (0), .int .i64 (0), .str ⟨#[]⟩, .str ⟨#[]⟩, .int .i64 (0)], none⟩, ⟨.store 9 (.l 6) (.l 4), none⟩, ⟨.mv (.l 5), none⟩] [(12, 6), (13, 8)])
 (.seq (.seq (.region [⟨.load true 9 (.t 12), none⟩, ⟨.load true 9 (.t 4), none⟩, ⟨.call (.c (.fn f_l_eqConsole [] [])) [(.l 0), (.l 1)], none⟩, ⟨.un .not (.l 2), none⟩, ⟨.mv (.l 3), none⟩, ⟨.mv (.t 13), some ((.l 4), false)⟩, ⟨.mv (.t 5), some ((.l 4), false)⟩, ⟨.bin 2 .neq (.l 5) (.l 6), some ((.l 4), false)⟩, ⟨.pick (.l 4) (.c (.bool true)) (.l 7), none⟩] [(20, 8)])
 (.cond (.t 20) (.seq (.region [⟨.mv (.c (.bool false)), none⟩] [(2, 0)])
 .ret) .skip))
 (.seq (.region [⟨.mv (.c (.int .i64 (1))), none⟩] [(11, 0)])
 (.seq (.region [⟨.load true 9 (.t 7), none⟩, ⟨.mv (.t 11), none⟩, ⟨.call (.c (.fn f_l_heldConsole [] [])) [(.l 0), (.l 1)], none⟩, ⟨.mv (.l 2), none⟩] [(11, 3)])
 (.seq (.seq (.region [⟨.mv (.t 11), none⟩, ⟨.bin 0 .lss (.l 0) (.c (.int .i64 (0))), none⟩] [(21, 1)])
 (.cond (.t 21) (.seq (.region [⟨.mv (.c (.bool false)), none⟩] [(2, 0)])
 .ret) .skip))
 (.seq (.seq (.region [⟨.mv (.t 11), none⟩, ⟨.mv (.t 10), none⟩, ⟨.bin 0 .neq (.l 0) (.l 1), none⟩] [(22, 2)])
 (.cond (.t 22) (.seq (.region [⟨.mv (.c (.bool false)), none⟩] [(2, 0)])
 .ret) .skip))
 (.seq (.region [⟨.mv (.c (.bool true)), none⟩] [(2, 0)])
 .ret)))))))))))))))))))))))))
def a_l_FnExactNewConsole : AFun := ⟨[0, 1, 2, 3, 4, 5, 6, 7, 8, 9, 10, 11, 12, 13, 18, 40, 45, 61, 69, 72, 87, 92, 95], 96, c_l_FnExactNewConsole, [.tmp 2], 1⟩
def c_l_FnExactDoTask : ACode :=
 (.seq (.region [⟨.box (.t 0), none⟩, ⟨.box (.t 1), none⟩, ⟨.mv (.c (.bool false)), none⟩] [(2, 0), (3, 1), (4, 2)])
 (.seq (.region [⟨.mv (.c (.int .i64 (1048576))), none⟩] [(5, 0)])
 (.seq (.region [⟨.load true 6 (.t 2), none⟩, ⟨.mv (.t 5), none⟩, ⟨.call (.c (.fn f_l_szStand [] [])) [(.l 0), (.l 1)], none⟩, ⟨.mv (.l 2), none⟩] [(5, 3)])
 (.seq (.seq (.region [⟨.mv (.t 5), none⟩, ⟨.bin 0 .lss (.l 0) (.c (.int .i64 (0))), none⟩] [(16, 1)])
 (.cond (.t 16) (.seq (.region [⟨.mv (.c (.bool true)), none⟩] [(4, 0)])
 .ret) .skip))
 (.seq (.draw [⟨.load true 6 (.t 2), none, []⟩, ⟨.load true 4 (.t 3), none, []⟩, ⟨.call (.c (.fn f_l_toStand [] [])) [(.l 0)], none, [(1, ⟨.load true 4 (.t 3), none⟩)]⟩, ⟨.call (.c (.fn f_l_toTask [] [])) [(.l 1)], none, []⟩, ⟨.call (.c (.fn f_s_DoTask [] [])) [(.l 2), (.l 3)], none, []⟩, ⟨.mv (.l 4), none, []⟩, ⟨.extract 0 (.l 5), none, []⟩, ⟨.extract 1 (.l 5), none, []⟩, ⟨.alloc [.slice none 0 0 none, .int .i64 (0), .int .i64 (0), .slice none 0 0 none, .int .i64 (0), .int .i64 (0)], none, [(0, ⟨.load true 6 (.t 2), none⟩), (1, ⟨.load true 4 (.t 3), none⟩)]⟩, ⟨.store 6 (.l 8) (.l 6), none, []⟩, ⟨.mv (.l 7), none, []⟩] [(6, 8), (7, 10)])
 (.seq (.region [⟨.load true 6 (.t 2), none⟩, ⟨.call (.c (.fn f_l_toStand [] [])) [(.l 0)], none⟩, ⟨.alloc [.slice none 0 0 none, .int .i64 (0), .int .i64 (0), .slice none 0 0 none, .int .i64 (0), .int .i64 (0)], none⟩, ⟨.store 6 (.l 2) (.l 1), none⟩] [(8, 2)])
 (.seq (.draw [⟨.load true 6 (.t 8), none, []⟩, ⟨.load true 4 (.t 3), none, []⟩, ⟨.call (.c (.fn f_l_toTask [] [])) [(.l 1)], none, [(0, ⟨.load true 6 (.t 8), none⟩)]⟩, ⟨.call (.c (.fn f_i_DoTask [] [])) [(.l 0), (.l 2)], none, []⟩, ⟨.mv (.l 3), none, []⟩, ⟨.extract 0 (.l 4), none, []⟩, ⟨.extract 1 (.l 4), none, []⟩, ⟨.alloc [.slice none 0 0 none, .int .i64 (0), .int .i64 (0), .slice none 0 0 none, .int .i64 (0), .int .i64 (0)], none, [(0, ⟨.load true 6 (.t 8), none⟩), (1, ⟨.load true 4 (.t 3), none⟩)]⟩, ⟨.store 6 (.l 7) (.l 5), none, []⟩, ⟨.mv (.l 6), none, []⟩] [(9, 7), (10, 9)])
 (.seq (.seq (.region [⟨.load true 6 (.t 9), none⟩, ⟨.load true 6 (.t 6), none⟩, ⟨.call (.c (.fn f_l_eqStand [] [])) [(.l 0), (.l 1)], none⟩, ⟨.un .not (.l 2), none⟩, ⟨.mv (.l 3), none⟩, ⟨.mv (.t 10), some ((.l 4), false)⟩, ⟨.mv (.t 7), some ((.l 4), false)⟩, ⟨.bin 2 .neq (.l 5) (.l 6), some ((.l 4), false)⟩, ⟨.pick (.l 4) (.c (.bool true)) (.l 7), none⟩] [(17, 8)])
 (.cond (.t 17) (.seq (.region [⟨.mv (.c (.bool false)), none⟩] [(4, 0)])
 .ret) .skip))
 (.seq (.seq (.draw [⟨.load true 6 (.t 8), none, []⟩, ⟨.load true 6 (.t 2), none, []⟩, ⟨.call (.c (.fn f_l_toStand [] [])) [(.l 1)], none, [(0, ⟨.load true 6 (.t 8), none⟩)]⟩, ⟨.call (.c (.fn f_l_eqStand [] [])) [(.l 0), (.l 2)], none, []⟩, ⟨.un .not (.l 3), none, []⟩] [(18, 4)])
 (.cond (.t 18) (.seq (.region [⟨.mv (.c (.bool false)), none⟩] [(4, 0)])
 .ret) .skip))
 (.seq (.region [⟨.mv (.c (.int .i64 (1))), none⟩] [(11, 0)])
 (.seq (.region [⟨.load true 6 (.t 8), none⟩, ⟨.mv (.t 11), none⟩, ⟨.call (.c (.fn f_l_markStand [] [])) [(.l 0), (.l 1)], none⟩, ⟨.mv (.l 2), none⟩] [(11, 3)])
 (.seq (.seq (.region [⟨.mv (.t 11), none⟩, ⟨.bin 0 .lss (.l 0) (.c (.int .i64 (0))), none⟩, ⟨.mv (.l 1), none⟩, ⟨.load true 6 (.t 9), some ((.l 2), false)⟩, ⟨.load true 6 (.t 6), some ((.l 2), false)⟩, ⟨.call (.c (.fn f_l_eqStand [] [])) [(.l 3), (.l 4)], some ((.l 2), false)⟩, ⟨.un .not (.l 5), some ((.l 2), false)⟩, ⟨.pick (.l 2) (.c (.bool true)) (.l 6), none⟩, ⟨.mv (.l 7), none⟩, ⟨.mv (.t 10), some ((.l 8), false)⟩, ⟨.mv (.t 7), some ((.l 8), false)⟩, ⟨.bin 2 .neq (.l 9) (.l 10), some ((.l 8), false)⟩, ⟨.pick (.l 8) (.c (.bool true)) (.l 11), none⟩] [(19, 12)])
 (.cond (.t 19) (.seq (.region [⟨.mv (.c (.bool false)), none⟩] [(4, 0)])
 .ret) .skip))
 (.seq (.region [⟨.mv (.c (.int .i64 (1))), none⟩] [(12, 0)])
 (.seq (.region [⟨.load true 6 (.t 9), none⟩, ⟨.mv (.t 12), none⟩, ⟨.call (.c (.fn f_l_markStand [] [])) [(.l 0), (.l 1)], none⟩, ⟨.mv (.l 2), none⟩] [(12, 3)])
 (.seq (.region [⟨.mv (.c (.int .i64 (1))), none⟩] [(13, 0)])
 (.seq (.region [⟨.load true 6 (.t 9), none⟩, ⟨.mv (.t 13), none⟩, ⟨.call (.c (.fn f_l_heldStand [] [])) [(.l 0), (.l 1)], none⟩, ⟨.mv (.l 2), none⟩] [(13, 3)])
 (.seq (.seq (.region [⟨.mv (.t 13), none⟩, ⟨.bin 0 .lss (.l 0) (.c (.int .i64 (0))), none⟩] [(20, 1)])
 (.cond (.t 20) (.seq (.region [⟨.mv (.c (.bool false)), none⟩] [(4, 0)])
 .ret) .skip))
 (.seq (.seq (.region [⟨.mv (.t 13), none⟩, ⟨.mv (.t 12), none⟩, ⟨.bin 0 .neq (.l 0) (.l 1), none⟩] [(21, 2)])
 (.cond (.t 21) (.seq (.region [⟨.mv (.c (.bool false)), none⟩] [(4, 0)])
 .ret) .skip))
 (.seq (.draw [⟨.load true 6 (.t 2), none, []⟩, ⟨.load true 4 (.t 3), none, []⟩, ⟨.call (.c (.fn f_l_toStand [] [])) [(.l 0)], none, [(1, ⟨.load true 4 (.t 3), none⟩)]⟩, ⟨.call (.c (.fn f_l_toTask [] [])) [(.l 1)], none, []⟩, ⟨.call (.c (.fn f_i_DoTask [] [])) [(.l 2), (.l 3)], none, []⟩, ⟨.mv (.l 4), none, []⟩, ⟨.extract 0 (.l 5), none, []⟩, ⟨.extract 1 (.l 5), none, []⟩, ⟨.alloc [.slice none 0 0 none, .int .i64 (0), .int .i64 (0), .slice none 0 0 none, .int .i64 (0), .int .i64 (0)], none, [(0, ⟨.load true 6 (.t 2), none⟩), (1, ⟨.load true 4 (.t 3), none⟩)]⟩, ⟨.store 6 (.l 8) (.l 6), none, []⟩, ⟨.mv (.l 7), none, []⟩] [(14, 8), (15, 10)])
 (.seq (.seq (.region [⟨.load true 6 (.t 14), none⟩, ⟨.load true 6 (.t 6), none⟩, ⟨.call (.c (.fn f_l_eqStand [] [])) [(.l 0), (.l 1)], none⟩, ⟨.un .not (.l 2), none⟩, ⟨.mv (.l 3), none⟩, ⟨.mv (.t 15), some ((.l 4), false)⟩, ⟨.mv (.t 7), some ((.l 4), false)⟩, ⟨.bin 2 .neq (.l 5) (.l 6), some ((.l 4), false)⟩, ⟨.pick (.l 4) (.c (.bool true)) (.l 7), none⟩] [(22, 8)])
 (.cond (.t 22) (.seq (.region [⟨.mv (.c (.bool false)), none⟩] [(4, 0)])
 .ret) .skip))
 (.seq (.region [⟨.mv (.c (.int .i64 (1))), none⟩] [(13, 0)])
 (.seq (.region [⟨.load true 6 (.t 9), none⟩, ⟨.mv (.t 13), none⟩, ⟨.call (.c (.fn f_l_heldStand [] [])) [(.l 0), (.l 1)], none⟩, ⟨.mv (.l 2), none⟩] [(13, 3)])
 (.seq (.seq (.region [⟨.mv (.t 13), none⟩, ⟨.bin 0 .lss (.l 0) (.c (.int .i64 (0))), none⟩] [(23, 1)])
 (.cond (.t 23) (.seq (.region [⟨.mv (.c (.bool false)), none⟩] [(4, 0)])
 .ret) .skip))
 (.seq (.seq (.region [⟨.mv (.t 13), none⟩, ⟨.mv (.t 12), none⟩, ⟨.bin 0 .neq (.l 0) (.l 1), none⟩] [(24, 2)])
 (.cond (.t 24) (.seq (.region [⟨.mv (.c (.bool false)), none⟩] [(4, 0)])
 .ret) .skip))
 (.seq (.region [⟨.mv (.c (.bool true)), none⟩] [(4, 0)])
 .ret)))))))))))))))))))))))))
def a_l_FnExactDoTask : AFun := ⟨[0, 1, 2, 3, 4, 5, 6, 7, 8, 9, 10, 11, 12, 13, 14, 15, 20, 46, 51, 67, 75, 78, 95, 100, 103], 104, c_l_FnExactDoTask, [.tmp 4], 1⟩
def c_l_FnStands : ACode :=
 (.seq (.region [⟨.mv (.c (.bool false)), none⟩] [(1, 0)])
 (.seq (.seq (.region [⟨.mv (.t 0), none⟩, ⟨.call (.c (.fn f_l_vBig [] [])) [(.l 0)], none⟩] [(28, 1)])
 (.cond (.t 28) (.seq (.region [⟨.mv (.c (.bool true)), none⟩] [(1, 0)])
 .ret) .skip))
 (.seq (.region [⟨.mv (.t 0), none⟩, ⟨.call (.c (.fn f_s_DrawNewStand [] [])) [(.l 0)], none⟩, ⟨.mv (.l 1), none⟩, ⟨.extract 0 (.l 2), none⟩, ⟨.extract 1 (.l 2), none⟩, ⟨.mv (.l 3), none⟩, ⟨.mv (.l 4), none⟩] [(2, 5), (3, 6)])
 (.seq (.region [⟨.mv (.t 2), none⟩, ⟨.mv (.t 3), none⟩, ⟨.call (.c (.fn f_i_NewStand [] [])) [(.l 0), (.l 1)], none⟩, ⟨.mv (.l 2), none⟩, ⟨.extract 0 (.l 3), none⟩, ⟨.extract 1 (.l 3), none⟩, ⟨.alloc [.slice none 0 0 none, .int .i64 (0), .int .i64 (0), .slice none 0 0 none, .int .i64 (0), .int .i64 (0)], none⟩, ⟨.store 6 (.l 6) (.l 4), none⟩, ⟨.mv (.l 5), none⟩] [(4, 6), (5, 8)])
 (.seq (.region [⟨.mv (.t 2), none⟩, ⟨.mv (.t 3), none⟩, ⟨.call (.c (.fn f_s_NewStand [] [])) [(.l 0), (.l 1)], none⟩, ⟨.mv (.l 2), none⟩, ⟨.extract 0 (.l 3), none⟩, ⟨.extract 1 (.l 3), none⟩, ⟨.alloc [.slice none 0 0 none, .int .i64 (0), .int .i64 (0), .slice none 0 0 none, .int .i64 (0), .int .i64 (0)], none⟩, ⟨.store 6 (.l 6) (.l 4), none⟩, ⟨.mv (.l 5), none⟩] [(6, 6), (7, 8)])
 (.seq (.region [⟨.mv (.t 0), none⟩, ⟨.call (.c (.fn f_l_vCut [] [])) [(.l 0), (.c (.int .i64 (1)))], none⟩, ⟨.call (.c (.fn f_s_DrawDoTask [] [])) [(.l 1)], none⟩, ⟨.mv (.l 2), none⟩, ⟨.extract 0 (.l 3), none⟩, ⟨.extract 1 (.l 3), none⟩, ⟨.alloc [.slice none 0 0 none, .int .i64 (0), .int .i64 (0), .slice none 0 0 none, .int .i64 (0), .int .i64 (0)], none⟩, ⟨.alloc [.int .i64 (0), .int .i64 (0), .int .i64 (0), .int .i64 (0)], none⟩, ⟨.store 6 (.l 6) (.l 4), none⟩, ⟨.store 4 (.l 7) (.l 5), none⟩] [(8, 6), (9, 7)])
 (.seq (.region [⟨.load true 6 (.t 8), none⟩, ⟨.load true 4 (.t 9), none⟩, ⟨.call (.c (.fn f_i_DoTask [] [])) [(.l 0), (.l 1)], none⟩, ⟨.mv (.l 2), none⟩, ⟨.extract 0 (.l 3), none⟩, ⟨.extract 1 (.l 3), none⟩, ⟨.alloc [.slice none 0 0 none, .int .i64 (0), .int .i64 (0), .slice none 0 0 none, .int .i64 (0), .int .i64 (0)], none⟩, ⟨.store 6 (.l 6) (.l 4), none⟩, ⟨.mv (.l 5), none⟩] [(10, 6), (11, 8)])
 (.seq (.region [⟨.load true 6 (.t 8), none⟩, ⟨.load true 4 (.t 9), none⟩, ⟨.call (.c (.fn f_s_DoTask [] [])) [(.l 0), (.l 1)], none⟩, ⟨.mv (.l 2), none⟩, ⟨.extract 0 (.l 3), none⟩, ⟨.extract 1 (.l 3), none⟩, ⟨.alloc [.slice none 0 0 none, .int .i64 (0), .int .i64 (0), .slice none 0 0 none, .int .i64 (0), .int .i64 (0)], none⟩, ⟨.store 6 (.l 6) (.l 4), none⟩, ⟨.mv (.l 5), none⟩] [(12, 6), (13, 8)])
 (.seq (.region [⟨.mv (.t 0), none⟩, ⟨.call (.c (.fn f_l_vCut [] [])) [(.l 0), (.c (.int .i64 (2)))], none⟩, ⟨.call (.c (.fn f_s_DrawDoTasks [] [])) [(.l 1)], none⟩, ⟨.mv (.l 2), none⟩, ⟨.extract 0 (.l 3), none⟩, ⟨.extract 1 (.l 3), none⟩, ⟨.alloc [.slice none 0 0 none, .int .i64 (0), .int .i64 (0), .slice none 0 0 none, .int .i64 (0), .int .i64 (0)], none⟩, ⟨.store 6 (.l 6) (.l 4), none⟩, ⟨.mv (.l 5), none⟩] [(14, 6), (15, 8)])
 (.seq (.region [⟨.load true 6 (.t 14), none⟩, ⟨.mv (.t 15), none⟩, ⟨.call (.c (.fn f_i_DoTasks [] [])) [(.l 0), (.l 1)], none⟩, ⟨.mv (.l 2), none⟩, ⟨.extract 0 (.l 3), none⟩, ⟨.extract 1 (.l 3), none⟩, ⟨.extract 2 (.l 3), none⟩, ⟨.alloc [.slice none 0 0 none, .int .i64 (0), .int .i64 (0), .slice none 0 0 none, .int .i64 (0), .int .i64 (0)], none⟩, ⟨.store 6 (.l 7) (.l 4), none⟩, ⟨.mv (.l 5), none⟩, ⟨.mv (.l 6), none⟩] [(16, 7), (17, 9), (18, 10)])
 (.seq (.region [⟨.load true 6 (.t 14), none⟩, ⟨.mv (.t 15), none⟩, ⟨.call (.c (.fn f_s_DoTasks [] [])) [(.l 0), (.l 1)], none⟩, ⟨.mv (.l 2), none⟩, ⟨.extract 0 (.l 3), none⟩, ⟨.extract 1 (.l 3), none⟩, ⟨.extract 2 (.l 3), none⟩, ⟨.alloc [.slice none 0 0 none, .int .i64 (0), .int .i64 (0), .slice none 0 0 none, .int .i64 (0), .int .i64 (0)], none⟩, ⟨.store 6 (.l 7) (.l 4), none⟩, ⟨.mv (.l 5), none⟩, ⟨.mv (.l 6), none⟩] [(19, 7), (20, 9), (21, 10)])
 (.seq (.seq (.draw [⟨.mv (.t 5), none, []⟩, ⟨.mv (.t 7), none, []⟩, ⟨.bin 2 .neq (.l 0) (.l 1), none, []⟩, ⟨.mv (.l 2), none, []⟩, ⟨.load true 6 (.t 4), some ((.l 3), false), []⟩, ⟨.load true 6 (.t 6), some ((.l 3), false), []⟩, ⟨.call (.c (.fn f_l_vStand [] [])) [(.l 4), (.l 5)], some ((.l 3), false), []⟩, ⟨.un .not (.l 6), some ((.l 3), false), []⟩, ⟨.pick (.l 3) (.c (.bool true)) (.l 7), none, []⟩, ⟨.mv (.l 8), none, []⟩, ⟨.mv (.t 11), some ((.l 9), false), []⟩, ⟨.mv (.t 13), some ((.l 9), false), []⟩, ⟨.bin 2 .neq (.l 10) (.l 11), some ((.l 9), false), []⟩, ⟨.pick (.l 9) (.c (.bool true)) (.l 12), none, []⟩, ⟨.mv (.l 13), none, []⟩, ⟨.load true 6 (.t 10), some ((.l 14), false), []⟩, ⟨.load true 6 (.t 12), some ((.l 14), false), []⟩, ⟨.call (.c (.fn f_l_vStand [] [])) [(.l 15), (.l 16)], some ((.l 14), false), []⟩, ⟨.un .not (.l 17), some ((.l 14), false), []⟩, ⟨.pick (.l 14) (.c (.bool true)) (.l 18), none, []⟩, ⟨.mv (.l 19), none, []⟩, ⟨.mv (.t 18), some ((.l 20), false), []⟩, ⟨.mv (.t 21), some ((.l 20), false), []⟩, ⟨.bin 2 .neq (.l 21) (.l 22), some ((.l 20), false), []⟩, ⟨.pick (.l 20) (.c (.bool true)) (.l 23), none, []⟩, ⟨.mv (.l 24), none, []⟩, ⟨.mv (.t 17), some ((.l 25), false), []⟩, ⟨.mv (.t 20), some ((.l 25), false), []⟩, ⟨.bin 0 .neq (.l 26) (.l 27), some ((.l 25), false), []⟩, ⟨.pick (.l 25) (.c (.bool true)) (.l 28), none, []⟩, ⟨.mv (.l 29), none, []⟩, ⟨.load true 6 (.t 16), some ((.l 30), false), []⟩, ⟨.load true 6 (.t 19), some ((.l 30), false), []⟩, ⟨.call (.c (.fn f_l_vStand [] [])) [(.l 31), (.l 32)], some ((.l 30), false), []⟩, ⟨.un .not (.l 33), some ((.l 30), false), []⟩, ⟨.pick (.l 30) (.c (.bool true)) (.l 34), none, []⟩, ⟨.mv (.l 35), none, []⟩, ⟨.load true 6 (.t 8), some ((.l 36), false), []⟩, ⟨.load true 6 (.t 8), some ((.l 36), false), []⟩, ⟨.call (.c (.fn f_i_IsStand [] [])) [(.l 37)], some ((.l 36), false), [(38, ⟨.load true 6 (.t 8), some ((.l 36), false)⟩)]⟩, ⟨.call (.c (.fn f_s_IsStand [] [])) [(.l 38)], some ((.l 36), false), []⟩, ⟨.bin 2 .neq (.l 39) (.l 40), some ((.l 36), false), []⟩, ⟨.pick (.l 36) (.c (.bool true)) (.l 41), none, []⟩] [(29, 42)])
 (.cond (.t 29) (.seq (.region [⟨.mv (.c (.bool false)), none⟩] [(1, 0)])
 .ret) .skip))
 (.seq (.seq (.region [⟨.mv (.t 18), none⟩, ⟨.mv (.l 0), none⟩, ⟨.load true 6 (.t 16), some ((.l 1), true)⟩, ⟨.call (.c (.fn f_i_IsStand [] [])) [(.l 2)], some ((.l 1), true)⟩, ⟨.un .not (.l 3), some ((.l 1), true)⟩, ⟨.pick (.l 1) (.l 4) (.c (.bool false)), none⟩] [(30, 5)])
 (.cond (.t 30) (.seq (.region [⟨.mv (.c (.bool false)), none⟩] [(1, 0)])
 .ret) .skip))
 (.seq (.seq (.region [⟨.mv (.t 11), none⟩, ⟨.un .not (.l 0), none⟩] [(31, 1)])
 (.cond (.t 31) (.seq (.region [⟨.mv (.c (.bool true)), none⟩] [(1, 0)])
 .ret) .skip))
 (.seq (.region [⟨.fieldAddr 0 (.t 10), none⟩, ⟨.load false 1 (.l 0), none⟩, ⟨.fieldAddr 1 (.t 10), none⟩, ⟨.load false 1 (.l 2), none⟩, ⟨.fieldAddr 2 (.t 10), none⟩, ⟨.load false 1 (.l 4), none⟩, ⟨.call (.c (.fn f_i_TipSide [] [])) [(.l 1), (.l 3), (.l 5)], none⟩, ⟨.mv (.l 6), none⟩, ⟨.extract 0 (.l 7), none⟩, ⟨.extract 1 (.l 7), none⟩, ⟨.mv (.l 8), none⟩, ⟨.mv (.l 9), none⟩] [(22, 10), (23, 11)])
 (.seq (.region [⟨.fieldAddr 4 (.t 8), none⟩, ⟨.load false 1 (.l 0), none⟩, ⟨.mv (.l 1), none⟩] [(24, 2)])
 (.seq (.seq (.region [⟨.mv (.t 22), none⟩, ⟨.bin 0 .neq (.l 0) (.c (.int .i64 (0))), none⟩] [(32, 1)])
 (.cond (.t 32) (.region [⟨.mv (.t 24), none⟩, ⟨.bin 0 .add (.l 0) (.c (.int .i64 (1))), none⟩, ⟨.mv (.l 1), none⟩] [(24, 2)]) .skip))
 (.seq (.seq (.region [⟨.mv (.t 23), none⟩, ⟨.un .not (.l 0), none⟩, ⟨.mv (.l 1), none⟩, ⟨.load true 6 (.t 10), some ((.l 2), false)⟩, ⟨.call (.c (.fn f_i_IsStand [] [])) [(.l 3)], some ((.l 2), false)⟩, ⟨.un .not (.l 4), some ((.l 2), false)⟩, ⟨.pick (.l 2) (.c (.bool true)) (.l 5), none⟩, ⟨.mv (.l 6), none⟩, ⟨.fieldAddr 5 (.t 10), some ((.l 7), false)⟩, ⟨.load false 1 (.l 8), some ((.l 7), false)⟩, ⟨.fieldAddr 5 (.t 8), some ((.l 7), false)⟩, ⟨.load false 1 (.l 10), some ((.l 7), false)⟩, ⟨.bin 0 .add (.l 11) (.c (.int .i64 (1))), some ((.l 7), false)⟩, ⟨.bin 0 .neq (.l 9) (.l 12), some ((.l 7), false)⟩, ⟨.pick (.l 7) (.c (.bool true)) (.l 13), none⟩, ⟨.mv (.l 14), none⟩, ⟨.fieldAddr 4 (.t 10), some ((.l 15), false)⟩, ⟨.load false 1 (.l 16), some ((.l 15), false)⟩, ⟨.mv (.t 24), some ((.l 15), false)⟩, ⟨.bin 0 .neq (.l 17) (.l 18), some ((.l 15), false)⟩, ⟨.pick (.l 15) (.c (.bool true)) (.l 19), none⟩] [(33, 20)])
 (.cond (.t 33) (.seq (.region [⟨.mv (.c (.bool false)), none⟩] [(1, 0)])
 .ret) .skip))
 (.seq (.seq (.region [⟨.fieldAddr 5 (.t 10), none⟩, ⟨.load false 1 (.l 0), none⟩, ⟨.bin 0 .eql (.l 1) (.c (.int .i64 (1000))), none⟩, ⟨.mv (.l 2), none⟩, ⟨.fieldAddr 0 (.t 9), some ((.l 3), false)⟩, ⟨.load false 1 (.l 4), some ((.l 3), false)⟩, ⟨.bin 0 .neq (.l 5) (.c (.int .i64 (1))), some ((.l 3), false)⟩, ⟨.mv (.l 6), some ((.l 3), false)⟩, ⟨.fieldAddr 0 (.t 9), some ((.l 7), true)⟩, ⟨.load false 1 (.l 8), some ((.l 7), true)⟩, ⟨.bin 0 .neq (.l 9) (.c (.int .i64 (5))), some ((.l 7), true)⟩, ⟨.pick (.l 7) (.l 10) (.c (.bool false)), some ((.l 3), false)⟩, ⟨.pick (.l 3) (.c (.bool true)) (.l 11), none⟩] [(34, 12)])
 (.cond (.t 34) (.seq (.region [⟨.mv (.c (.bool true)), none⟩] [(1, 0)])
 .ret) .skip))
 (.seq (.region [⟨.fieldAddr 0 (.t 8), none⟩, ⟨.load false 1 (.l 0), none⟩, ⟨.len (.l 1), none⟩, ⟨.build [.int .i64 (0), .int .i64 (0), .int .i64 (0), .int .i64 (0)] [(0, 1, (.c (.int .i64 (2)))), (1, 1, (.l 2))], none⟩, ⟨.alloc [.int .i64 (0), .int .i64 (0), .int .i64 (0), .int .i64 (0)], none⟩, ⟨.store 4 (.l 4) (.l 3), none⟩] [(25, 4)])
 (.seq (.seq (.region [⟨.fieldAddr 0 (.t 9), none⟩, ⟨.load false 1 (.l 0), none⟩, ⟨.bin 0 .eql (.l 1) (.c (.int .i64 (5))), none⟩] [(35, 2)])
 (.cond (.t 35) (.region [⟨.fieldAddr 3 (.t 8), none⟩, ⟨.load false 1 (.l 0), none⟩, ⟨.len (.l 1), none⟩, ⟨.build [.int .i64 (0), .int .i64 (0), .int .i64 (0), .int .i64 (0)] [(0, 1, (.c (.int .i64 (6)))), (1, 1, (.l 2))], none⟩, ⟨.store 4 (.t 25) (.l 3), none⟩] []) .skip))
 (.seq (.region [⟨.load true 6 (.t 10), none⟩, ⟨.load true 4 (.t 25), none⟩, ⟨.call (.c (.fn f_i_DoTask [] [])) [(.l 0), (.l 1)], none⟩, ⟨.mv (.l 2), none⟩, ⟨.extract 0 (.l 3), none⟩, ⟨.extract 1 (.l 3), none⟩, ⟨.alloc [.slice none 0 0 none, .int .i64 (0), .int .i64 (0), .slice none 0 0 none, .int .i64 (0), .int .i64 (0)], none⟩, ⟨.store 6 (.l 6) (.l 4), none⟩, ⟨.mv (.l 5), none⟩] [(26, 6), (27, 8)])
 (.seq (.region [⟨.mv (.t 27), none⟩, ⟨.mv (.l 0), none⟩, ⟨.fieldAddr 0 (.t 26), some ((.l 1), true)⟩, ⟨.load false 1 (.l 2), some ((.l 1), true)⟩, ⟨.fieldAddr 0 (.t 8), some ((.l 1), true)⟩, ⟨.load false 1 (.l 4), some ((.l 1), true)⟩, ⟨.call (.c (.fn f_l_vRow [] [])) [(.l 3), (.l 5)], some ((.l 1), true)⟩, ⟨.pick (.l 1) (.l 6) (.c (.bool false)), none⟩, ⟨.mv (.l 7), none⟩, ⟨.fieldAddr 3 (.t 26), some ((.l 8), true)⟩, ⟨.load false 1 (.l 9), some ((.l 8), true)⟩, ⟨.fieldAddr 3 (.t 8), some ((.l 8), true)⟩, ⟨.load false 1 (.l 11), some ((.l 8), true)⟩, ⟨.call (.c (.fn f_l_vChain [] [])) [(.l 10), (.l 12)], some ((.l 8), true)⟩, ⟨.pick (.l 8) (.l 13) (.c (.bool false)), none⟩, ⟨.mv (.l 14), none⟩] [(1, 15)])
 .ret)))))))))))))))))))))))
def a_l_FnStands : AFun := ⟨[0, 2, 3, 4, 5, 6, 7, 8, 9, 10, 11, 12, 13, 14, 15, 16, 17, 18, 19, 20, 21, 22, 23, 24, 25, 26, 27, 28, 30, 128, 134, 136, 150, 173, 186, 193], 219, c_l_FnStands, [.tmp 1], 1⟩
def c_l_FnRowPulls : ACode :=
 (.seq (.region [⟨.mv (.c (.bool false)), none⟩] [(1, 0)])
 (.seq (.seq (.region [⟨.mv (.t 0), none⟩, ⟨.call (.c (.fn f_l_vBig [] [])) [(.l 0)], none⟩] [(17, 1)])
 (.cond (.t 17) (.seq (.region [⟨.mv (.c (.bool true)), none⟩] [(1, 0)])
 .ret) .skip))
 (.seq (.region [⟨.mv (.t 0), none⟩, ⟨.call (.c (.fn f_s_DrawRowPull [] [])) [(.l 0)], none⟩, ⟨.alloc [.slice none 0 0 none, .int .i64 (0), .int .i64 (0), .slice none 0 0 none, .int .i64 (0), .int .i64 (0)], none⟩, ⟨.store 6 (.l 2) (.l 1), none⟩] [(2, 2)])
 (.seq (.region [⟨.load true 6 (.t 2), none⟩, ⟨.call (.c (.fn f_i_RowPull [] [])) [(.l 0)], none⟩, ⟨.mv (.l 1), none⟩, ⟨.extract 0 (.l 2), none⟩, ⟨.extract 1 (.l 2), none⟩, ⟨.mv (.l 3), none⟩, ⟨.mv (.l 4), none⟩] [(3, 5), (4, 6)])
 (.seq (.region [⟨.load true 6 (.t 2), none⟩, ⟨.call (.c (.fn f_s_RowPull [] [])) [(.l 0)], none⟩, ⟨.mv (.l 1), none⟩, ⟨.extract 0 (.l 2), none⟩, ⟨.extract 1 (.l 2), none⟩, ⟨.mv (.l 3), none⟩, ⟨.mv (.l 4), none⟩] [(5, 5), (6, 6)])
 (.seq (.seq (.region [⟨.mv (.t 3), none⟩, ⟨.mv (.t 5), none⟩, ⟨.bin 0 .neq (.l 0) (.l 1), none⟩, ⟨.mv (.l 2), none⟩, ⟨.mv (.t 4), some ((.l 3), false)⟩, ⟨.mv (.t 6), some ((.l 3), false)⟩, ⟨.bin 2 .neq (.l 4) (.l 5), some ((.l 3), false)⟩, ⟨.pick (.l 3) (.c (.bool true)) (.l 6), none⟩] [(18, 7)])
 (.cond (.t 18) (.seq (.region [⟨.mv (.c (.bool false)), none⟩] [(1, 0)])
 .ret) .skip))
 (.seq (.seq (.region [⟨.mv (.t 4), none⟩, ⟨.un .not (.l 0), none⟩] [(19, 1)])
 (.cond (.t 19) (.seq (.region [⟨.load true 6 (.t 2), none⟩, ⟨.call (.c (.fn f_s_IsStand [] [])) [(.l 0)], none⟩, ⟨.un .not (.l 1), none⟩, ⟨.mv (.l 2), none⟩] [(1, 3)])
 .ret) .skip))
 (.seq (.region [⟨.fieldAddr 0 (.t 2), none⟩, ⟨.load false 1 (.l 0), none⟩, ⟨.call (.c (.fn f_i_WeightOf [] [])) [(.l 1)], none⟩, ⟨.mv (.l 2), none⟩, ⟨.extract 0 (.l 3), none⟩, ⟨.extract 1 (.l 3), none⟩, ⟨.mv (.l 4), none⟩, ⟨.mv (.l 5), none⟩] [(7, 6), (8, 7)])
 (.seq (.region [⟨.fieldAddr 3 (.t 2), none⟩, ⟨.load false 1 (.l 0), none⟩, ⟨.mv (.t 7), none⟩, ⟨.call (.c (.fn f_i_LeastPull [] [])) [(.l 1), (.l 2)], none⟩, ⟨.mv (.l 3), none⟩, ⟨.extract 0 (.l 4), none⟩, ⟨.extract 1 (.l 4), none⟩, ⟨.mv (.l 5), none⟩, ⟨.mv (.l 6), none⟩] [(9, 7), (10, 8)])
 (.seq (.region [⟨.fieldAddr 3 (.t 2), none⟩, ⟨.load false 1 (.l 0), none⟩, ⟨.call (.c (.fn f_i_ChainGain [] [])) [(.l 1)], none⟩, ⟨.mv (.l 2), none⟩, ⟨.extract 0 (.l 3), none⟩, ⟨.extract 1 (.l 3), none⟩, ⟨.alloc [.int .i64 (0), .int .i64 (0)], none⟩, ⟨.store 2 (.l 6) (.l 4), none⟩, ⟨.mv (.l 5), none⟩] [(11, 6), (12, 8)])
 (.seq (.seq (.region [⟨.mv (.t 8), none⟩, ⟨.un .not (.l 0), none⟩, ⟨.mv (.l 1), none⟩, ⟨.mv (.t 10), some ((.l 2), false)⟩, ⟨.un .not (.l 3), some ((.l 2), false)⟩, ⟨.pick (.l 2) (.c (.bool true)) (.l 4), none⟩, ⟨.mv (.l 5), none⟩, ⟨.mv (.t 12), some ((.l 6), false)⟩, ⟨.un .not (.l 7), some ((.l 6), false)⟩, ⟨.pick (.l 6) (.c (.bool true)) (.l 8), none⟩, ⟨.mv (.l 9), none⟩, ⟨.mv (.t 9), some ((.l 10), false)⟩, ⟨.mv (.t 3), some ((.l 10), false)⟩, ⟨.bin 0 .neq (.l 11) (.l 12), some ((.l 10), false)⟩, ⟨.pick (.l 10) (.c (.bool true)) (.l 13), none⟩, ⟨.mv (.l 14), none⟩, ⟨.mv (.t 3), some ((.l 15), false)⟩, ⟨.indexAddrA 2 1 (.t 11) (.c (.int .i64 (0))), some ((.l 15), false)⟩, ⟨.load false 1 (.l 17), some ((.l 15), false)⟩, ⟨.bin 0 .mul (.l 16) (.l 18), some ((.l 15), false)⟩, ⟨.mv (.t 7), some ((.l 15), false)⟩, ⟨.indexAddrA 2 1 (.t 11) (.c (.int .i64 (1))), some ((.l 15), false)⟩, ⟨.load false 1 (.l 21), some ((.l 15), false)⟩, ⟨.bin 0 .mul (.l 20) (.l 22), some ((.l 15), false)⟩, ⟨.bin 0 .lss (.l 19) (.l 23), some ((.l 15), false)⟩, ⟨.pick (.l 15) (.c (.bool true)) (.l 24), none⟩] [(20, 25)])
 (.cond (.t 20) (.seq (.region [⟨.mv (.c (.bool false)), none⟩] [(1, 0)])
 .ret) .skip))
 (.seq (.region [⟨.load true 6 (.t 2), none⟩, ⟨.build [.int .i64 (0), .int .i64 (0), .int .i64 (0), .int .i64 (0)] [(0, 1, (.c (.int .i64 (5)))), (1, 1, (.c (.int .i64 (2)))), (2, 1, (.c (.int .i64 (3))))], none⟩, ⟨.call (.c (.fn f_i_DoTask [] [])) [(.l 0), (.l 1)], none⟩, ⟨.mv (.l 2), none⟩, ⟨.extract 0 (.l 3), none⟩, ⟨.extract 1 (.l 3), none⟩, ⟨.alloc [.slice none 0 0 none, .int .i64 (0), .int .i64 (0), .slice none 0 0 none, .int .i64 (0), .int .i64 (0)], none⟩, ⟨.store 6 (.l 6) (.l 4), none⟩, ⟨.mv (.l 5), none⟩] [(13, 6), (14, 8)])
 (.seq (.seq (.region [⟨.mv (.t 14), none⟩, ⟨.un .not (.l 0), none⟩] [(21, 1)])
 (.cond (.t 21) (.seq (.region [⟨.mv (.c (.bool true)), none⟩] [(1, 0)])
 .ret) .skip))
 (.seq (.region [⟨.load true 6 (.t 13), none⟩, ⟨.call (.c (.fn f_i_RowPull [] [])) [(.l 0)], none⟩, ⟨.mv (.l 1), none⟩, ⟨.extract 0 (.l 2), none⟩, ⟨.extract 1 (.l 2), none⟩, ⟨.mv (.l 3), none⟩, ⟨.mv (.l 4), none⟩] [(15, 5), (16, 6)])
 (.seq (.region [⟨.mv (.t 16), none⟩, ⟨.mv (.l 0), none⟩, ⟨.mv (.t 15), some ((.l 1), true)⟩, ⟨.mv (.t 3), some ((.l 1), true)⟩, ⟨.bin 0 .leq (.l 2) (.l 3), some ((.l 1), true)⟩, ⟨.pick (.l 1) (.l 4) (.c (.bool false)), none⟩, ⟨.mv (.l 5), none⟩, ⟨.mv (.t 15), some ((.l 6), true)⟩, ⟨.bin 0 .mul (.c (.int .i64 (3))) (.l 7), some ((.l 6), true)⟩, ⟨.mv (.t 3), some ((.l 6), true)⟩, ⟨.bin 0 .geq (.l 8) (.l 9), some ((.l 6), true)⟩, ⟨.pick (.l 6) (.l 10) (.c (.bool false)), none⟩, ⟨.mv (.l 11), none⟩] [(1, 12)])
 .ret)))))))))))))))
def a_l_FnRowPulls : AFun := ⟨[0, 2, 3, 4, 5, 6, 7, 8, 9, 10, 11, 12, 13, 14, 15, 16, 17, 19, 39, 41, 89, 97], 115, c_l_FnRowPulls, [.tmp 1], 1⟩
def c_l_FnExactDoTasks : ACode :=
 (.seq (.region [⟨.box (.t 0), none⟩, ⟨.mv (.c (.bool false)), none⟩] [(2, 0), (3, 1)])
 (.seq (.region [⟨.mv (.c (.int .i64 (1048576))), none⟩] [(4, 0)])
 (.seq (.region [⟨.load true 6 (.t 2), none⟩, ⟨.mv (.t 4), none⟩, ⟨.call (.c (.fn f_l_szStand [] [])) [(.l 0), (.l 1)], none⟩, ⟨.mv (.l 2), none⟩] [(4, 3)])
 (.seq (.seq (.region [⟨.mv (.t 4), none⟩, ⟨.bin 0 .lss (.l 0) (.c (.int .i64 (0))), none⟩] [(19, 1)])
 (.cond (.t 19) (.seq (.region [⟨.mv (.c (.bool true)), none⟩] [(3, 0)])
 .ret) .skip))
 (.seq (.region [⟨.mv (.t 1), none⟩, ⟨.mv (.t 4), none⟩, ⟨.call (.c (.fn f_l_szTaskS [] [])) [(.l 0), (.l 1)], none⟩, ⟨.mv (.l 2), none⟩] [(4, 3)])
 (.seq (.seq (.region [⟨.mv (.t 4), none⟩, ⟨.bin 0 .lss (.l 0) (.c (.int .i64 (0))), none⟩] [(20, 1)])
 (.cond (.t 20) (.seq (.region [⟨.mv (.c (.bool true)), none⟩] [(3, 0)])
 .ret) .skip))
 (.seq (.region [⟨.load true 6 (.t 2), none⟩, ⟨.call (.c (.fn f_l_toStand [] [])) [(.l 0)], none⟩, ⟨.mv (.t 1), none⟩, ⟨.call (.c (.fn f_l_toTaskS [] [])) [(.l 2)], none⟩, ⟨.call (.c (.fn f_s_DoTasks [] [])) [(.l 1), (.l 3)], none⟩, ⟨.mv (.l 4), none⟩, ⟨.extract 0 (.l 5), none⟩, ⟨.extract 1 (.l 5), none⟩, ⟨.extract 2 (.l 5), none⟩, ⟨.alloc [.slice none 0 0 none, .int .i64 (0), .int .i64 (0), .slice none 0 0 none, .int .i64 (0), .int .i64 (0)], none⟩, ⟨.store 6 (.l 9) (.l 6), none⟩, ⟨.mv (.l 7), none⟩, ⟨.mv (.l 8), none⟩] [(5, 9), (6, 11), (7, 12)])
 (.seq (.region [⟨.load true 6 (.t 2), none⟩, ⟨.call (.c (.fn f_l_toStand [] [])) [(.l 0)], none⟩, ⟨.alloc [.slice none 0 0 none, .int .i64 (0), .int .i64 (0), .slice none 0 0 none, .int .i64 (0), .int .i64 (0)], none⟩, ⟨.store 6 (.l 2) (.l 1), none⟩] [(8, 2)])
 (.seq (.region [⟨.mv (.t 1), none⟩, ⟨.call (.c (.fn f_l_toTaskS [] [])) [(.l 0)], none⟩, ⟨.mv (.l 1), none⟩] [(9, 2)])
 (.seq (.region [⟨.load true 6 (.t 8), none⟩, ⟨.mv (.t 9), none⟩, ⟨.call (.c (.fn f_i_DoTasks [] [])) [(.l 0), (.l 1)], none⟩, ⟨.mv (.l 2), none⟩, ⟨.extract 0 (.l 3), none⟩, ⟨.extract 1 (.l 3), none⟩, ⟨.extract 2 (.l 3), none⟩, ⟨.alloc [.slice none 0 0 none, .int .i64 (0), .int .i64 (0), .slice none 0 0 none, .int .i64 (0), .int .i64 (0)], none⟩, ⟨.store 6 (.l 7) (.l 4), none⟩, ⟨.mv (.l 5), none⟩, ⟨.mv (.l 6), none⟩] [(10, 7), (11, 9), (12, 10)])
 (.seq (.seq (.region [⟨.load true 6 (.t 10), none⟩, ⟨.load true 6 (.t 5), none⟩, ⟨.call (.c (.fn f_l_eqStand [] [])) [(.l 0), (.l 1)], none⟩, ⟨.un .not (.l 2), none⟩, ⟨.mv (.l 3), none⟩, ⟨.mv (.t 11), some ((.l 4), false)⟩, ⟨.mv (.t 6), some ((.l 4), false)⟩, ⟨.bin 0 .neq (.l 5) (.l 6), some ((.l 4), false)⟩, ⟨.pick (.l 4) (.c (.bool true)) (.l 7), none⟩, ⟨.mv (.l 8), none⟩, ⟨.mv (.t 12), some ((.l 9), false)⟩, ⟨.mv (.t 7), some ((.l 9), false)⟩, ⟨.bin 2 .neq (.l 10) (.l 11), some ((.l 9), false)⟩, ⟨.pick (.l 9) (.c (.bool true)) (.l 12), none⟩] [(21, 13)])
 (.cond (.t 21) (.seq (.region [⟨.mv (.c (.bool false)), none⟩] [(3, 0)])
 .ret) .skip))
 (.seq (.seq (.draw [⟨.load true 6 (.t 8), none, []⟩, ⟨.load true 6 (.t 2), none, []⟩, ⟨.call (.c (.fn f_l_toStand [] [])) [(.l 1)], none, [(0, ⟨.load true 6 (.t 8), none⟩)]⟩, ⟨.call (.c (.fn f_l_eqStand [] [])) [(.l 0), (.l 2)], none, []⟩, ⟨.un .not (.l 3), none, []⟩] [(22, 4)])
 (.cond (.t 22) (.seq (.region [⟨.mv (.c (.bool false)), none⟩] [(3, 0)])
 .ret) .skip))
 (.seq (.seq (.region [⟨.mv (.t 9), none⟩, ⟨.mv (.t 1), none⟩, ⟨.call (.c (.fn f_l_toTaskS [] [])) [(.l 1)], none⟩, ⟨.call (.c (.fn f_l_eqTaskS [] [])) [(.l 0), (.l 2)], none⟩, ⟨.un .not (.l 3), none⟩] [(23, 4)])
 (.cond (.t 23) (.seq (.region [⟨.mv (.c (.bool false)), none⟩] [(3, 0)])
 .ret) .skip))
 (.seq (.region [⟨.mv (.c (.int .i64 (1))), none⟩] [(13, 0)])
 (.seq (.region [⟨.load true 6 (.t 8), none⟩, ⟨.mv (.t 13), none⟩, ⟨.call (.c (.fn f_l_markStand [] [])) [(.l 0), (.l 1)], none⟩, ⟨.mv (.l 2), none⟩] [(13, 3)])
 (.seq (.region [⟨.mv (.t 9), none⟩, ⟨.mv (.t 13), none⟩, ⟨.call (.c (.fn f_l_markTaskS [] [])) [(.l 0), (.l 1)], none⟩, ⟨.mv (.l 2), none⟩] [(13, 3)])
 (.seq (.seq (.region [⟨.mv (.t 13), none⟩, ⟨.bin 0 .lss (.l 0) (.c (.int .i64 (0))), none⟩, ⟨.mv (.l 1), none⟩, ⟨.load true 6 (.t 10), some ((.l 2), false)⟩, ⟨.load true 6 (.t 5), some ((.l 2), false)⟩, ⟨.call (.c (.fn f_l_eqStand [] [])) [(.l 3), (.l 4)], some ((.l 2), false)⟩, ⟨.un .not (.l 5), some ((.l 2), false)⟩, ⟨.pick (.l 2) (.c (.bool true)) (.l 6), none⟩, ⟨.mv (.l 7), none⟩, ⟨.mv (.t 11), some ((.l 8), false)⟩, ⟨.mv (.t 6), some ((.l 8), false)⟩, ⟨.bin 0 .neq (.l 9) (.l 10), some ((.l 8), false)⟩, ⟨.pick (.l 8) (.c (.bool true)) (.l 11), none⟩, ⟨.mv (.l 12), none⟩, ⟨.mv (.t 12), some ((.l 13), false)⟩, ⟨.mv (.t 7), some ((.l 13), false)⟩, ⟨.bin 2 .neq (.l 14) (.l 15), some ((.l 13), false)⟩, ⟨.pick (.l 13) (.c (.bool true)) (.l 16), none⟩] [(24, 17)])
 (.cond (.t 24) (.seq (.region [⟨.mv (.c (.bool false)), none⟩] [(3, 0)])
 .ret) .skip))
 (.seq (.region [⟨.mv (.c (.int .i64 (1))), none⟩] [(14, 0)])
 (.seq (.region [⟨.load true 6 (.t 10), none⟩, ⟨.mv (.t 14), none⟩, ⟨.call (.c (.fn f_l_markStand [] [])) [(.l 0), (.l 1)], none⟩, ⟨.mv (.l 2), none⟩] [(14, 3)])
 (.seq (.region [⟨.mv (.c (.int .i64 (1))), none⟩] [(15, 0)])
 (.seq (.region [⟨.load true 6 (.t 10), none⟩, ⟨.mv (.t 15), none⟩, ⟨.call (.c (.fn f_l_heldStand [] [])) [(.l 0), (.l 1)], none⟩, ⟨.mv (.l 2), none⟩] [(15, 3)])
 (.seq (.seq (.region [⟨.mv (.t 15), none⟩, ⟨.bin 0 .lss (.l 0) (.c (.int .i64 (0))), none⟩] [(25, 1)])
 (.cond (.t 25) (.seq (.region [⟨.mv (.c (.bool false)), none⟩] [(3, 0)])
 .ret) .skip))
 (.seq (.seq (.region [⟨.mv (.t 15), none⟩, ⟨.mv (.t 14), none⟩, ⟨.bin 0 .neq (.l 0) (.l 1), none⟩] [(26, 2)])
 (.cond (.t 26) (.seq (.region [⟨.mv (.c (.bool false)), none⟩] [(3, 0)])
 .ret) .skip))
 (.seq (.region [⟨.load true 6 (.t 2), none⟩, ⟨.call (.c (.fn f_l_toStand [] [])) [(.l 0)], none⟩, ⟨.mv (.t 1), none⟩, ⟨.call (.c (.fn f_l_toTaskS [] [])) [(.l 2)], none⟩, ⟨.call (.c (.fn f_i_DoTasks [] [])) [(.l 1), (.l 3)], none⟩, ⟨.mv (.l 4), none⟩, ⟨.extract 0 (.l 5), none⟩, ⟨.extract 1 (.l 5), none⟩, ⟨.extract 2 (.l 5), none⟩, ⟨.alloc [.slice none 0 0 none, .int .i64 (0), .int .i64 (0), .slice none 0 0 none, .int .i64 (0), .int .i64 (0)], none⟩, ⟨.store 6 (.l 9) (.l 6), none⟩, ⟨.mv (.l 7), none⟩, ⟨.mv (.l 8), none⟩] [(16, 9), (17, 11), (18, 12)])
 (.seq (.seq (.region [⟨.load true 6 (.t 16), none⟩, ⟨.load true 6 (.t 5), none⟩, ⟨.call (.c (.fn f_l_eqStand [] [])) [(.l 0), (.l 1)], none⟩, ⟨.un .not (.l 2), none⟩, ⟨.mv (.l 3), none⟩, ⟨.mv (.t 17), some ((.l 4), false)⟩, ⟨.mv (.t 6), some ((.l 4), false)⟩, ⟨.bin 0 .neq (.l 5) (.l 6), some ((.l 4), false)⟩, ⟨.pick (.l 4) (.c (.bool true)) (.l 7), none⟩, ⟨.mv (.l 8), none⟩, ⟨.mv (.t 18), some ((.l 9), false)⟩, ⟨.mv (.t 7), some ((.l 9), false)⟩, ⟨.bin 2 .neq (.l 10) (.l 11), some ((.l 9), false)⟩, ⟨.pick (.l 9) (.c (.bool true)) (.l 12), none⟩] [(27, 13)])
 (.cond (.t 27) (.seq (.region [⟨.mv (.c (.bool false)), none⟩] [(3, 0)])
 .ret) .skip))
 (.seq (.region [⟨.mv (.c (.int .i64 (1))), none⟩] [(15, 0)])
 (.seq (.region [⟨.load true 6 (.t 10), none⟩, ⟨.mv (.t 15), none⟩, ⟨.call (.c (.fn f_l_heldStand [] [])) [(.l 0), (.l 1)], none⟩, ⟨.mv (.l 2), none⟩] [(15, 3)])
 (.seq (.seq (.region [⟨.mv (.t 15), none⟩, ⟨.bin 0 .lss (.l 0) (.c (.int .i64 (0))), none⟩] [(28, 1)])
 (.cond (.t 28) (.seq (.region [⟨.mv (.c (.bool false)), none⟩] [(3, 0)])
 .ret) .skip))
 (.seq (.seq (.region [⟨.mv (.t 15), none⟩, ⟨.mv (.t 14), none⟩, ⟨.bin 0 .neq (.l 0) (.l 1), none⟩] [(29, 2)])
 (.cond (.t 29) (.seq (.region [⟨.mv (.c (.bool false)), none⟩] [(3, 0)])
 .ret) .skip))
 (.seq (.region [⟨.mv (.c (.bool true)), none⟩] [(3, 0)])
 .ret))))))))))))))))))))))))))))))
def a_l_FnExactDoTasks : AFun := ⟨[0, 1, 2, 4, 5, 6, 7, 8, 9, 10, 11, 12, 13, 14, 15, 16, 17, 18, 19, 24, 29, 63, 68, 73, 97, 105, 108, 131, 136, 139], 140, c_l_FnExactDoTasks, [.tmp 3], 1⟩
def c_s_NewStand : ACode :=
 (.seq (.region [⟨.alloc [.slice none 0 0 none, .int .i64 (0), .int .i64 (0), .slice none 0 0 none, .int .i64 (0), .int .i64 (0)], none⟩, ⟨.mv (.c (.bool false)), none⟩] [(2, 0), (3, 1)])
 (.seq (.seq (.region [⟨.mv (.t 0), none⟩, ⟨.mv (.t 1), none⟩, ⟨.call (.c (.fn f_s_l2Base [] [])) [(.l 0), (.l 1)], none⟩, ⟨.un .not (.l 2), none⟩] [(4, 3)])
 (.cond (.t 4) (.seq (.region [⟨.build [.slice none 0 0 none, .int .i64 (0), .int .i64 (0), .slice none 0 0 none, .int .i64 (0), .int .i64 (0)] [], none⟩, ⟨.store 6 (.t 2) (.l 0), none⟩, ⟨.mv (.c (.bool false)), none⟩] [(3, 2)])
 .ret) .skip))
 (.seq (.region [⟨.mv (.t 0), none⟩, ⟨.mv (.t 1), none⟩, ⟨.build [.slice none 0 0 none, .int .i64 (0), .int .i64 (0), .slice none 0 0 none, .int .i64 (0), .int .i64 (0)] [(1, 1, (.l 0)), (2, 1, (.l 1))], none⟩, ⟨.call (.c (.fn f_s_l12Own [] [])) [(.l 2)], none⟩, ⟨.store 6 (.t 2) (.l 3), none⟩, ⟨.mv (.c (.bool true)), none⟩] [(3, 5)])
 .ret)))
def a_s_NewStand : AFun := ⟨[0, 1, 4, 5, 9], 15, c_s_NewStand, [.cell 2 true 6, .tmp 3], 2⟩
def c_i_NewStand : ACode :=
 (.seq (.region [⟨.alloc [.slice none 0 0 none, .int .i64 (0), .int .i64 (0), .slice none 0 0 none, .int .i64 (0), .int .i64 (0)], none⟩, ⟨.mv (.c (.bool false)), none⟩] [(2, 0), (3, 1)])
 (.seq (.region [⟨.mv (.t 0), none⟩, ⟨.mv (.t 1), none⟩, ⟨.build [.slice none 0 0 none, .int .i64 (0), .int .i64 (0), .slice none 0 0 none, .int .i64 (0), .int .i64 (0)] [(1, 1, (.l 0)), (2, 1, (.l 1))], none⟩, ⟨.alloc [.slice none 0 0 none, .int .i64 (0), .int .i64 (0), .slice none 0 0 none, .int .i64 (0), .int .i64 (0)], none⟩, ⟨.store 6 (.l 3) (.l 2), none⟩] [(4, 3)])
 (.seq (.seq (.region [⟨.load true 6 (.t 4), none⟩, ⟨.call (.c (.fn f_i_IsStand [] [])) [(.l 0)], none⟩, ⟨.un .not (.l 1), none⟩] [(5, 2)])
 (.cond (.t 5) (.seq (.region [⟨.build [.slice none 0 0 none, .int .i64 (0), .int .i64 (0), .slice none 0 0 none, .int .i64 (0), .int .i64 (0)] [], none⟩, ⟨.store 6 (.t 2) (.l 0), none⟩, ⟨.mv (.c (.bool false)), none⟩] [(3, 2)])
 .ret) .skip))
 (.seq (.region [⟨.load true 6 (.t 4), none⟩, ⟨.store 6 (.t 2) (.l 0), none⟩, ⟨.mv (.c (.bool true)), none⟩] [(3, 2)])
 .ret))))
def a_i_NewStand : AFun := ⟨[0, 1, 4, 5, 6, 12], 15, c_i_NewStand, [.cell 2 true 6, .tmp 3], 2⟩
def c_l_eqStand : ACode :=
 (.seq (.region [⟨.box (.t 0), none⟩, ⟨.box (.t 1), none⟩, ⟨.mv (.c (.bool false)), none⟩] [(2, 0), (3, 1), (4, 2)])
 (.seq (.seq (.region [⟨.fieldAddr 0 (.t 2), none⟩, ⟨.load false 1 (.l 0), none⟩, ⟨.fieldAddr 0 (.t 3), none⟩, ⟨.load false 1 (.l 2), none⟩, ⟨.call (.c (.fn f_l_eqLoadS [] [])) [(.l 1), (.l 3)], none⟩, ⟨.un .not (.l 4), none⟩] [(5, 5)])
 (.cond (.t 5) (.seq (.region [⟨.mv (.c (.bool false)), none⟩] [(4, 0)])
 .ret) .skip))
 (.seq (.seq (.region [⟨.fieldAddr 1 (.t 2), none⟩, ⟨.load false 1 (.l 0), none⟩, ⟨.fieldAddr 1 (.t 3), none⟩, ⟨.load false 1 (.l 2), none⟩, ⟨.bin 0 .neq (.l 1) (.l 3), none⟩] [(6, 4)])
 (.cond (.t 6) (.seq (.region [⟨.mv (.c (.bool false)), none⟩] [(4, 0)])
 .ret) .skip))
 (.seq (.seq (.region [⟨.fieldAddr 2 (.t 2), none⟩, ⟨.load false 1 (.l 0), none⟩, ⟨.fieldAddr 2 (.t 3), none⟩, ⟨.load false 1 (.l 2), none⟩, ⟨.bin 0 .neq (.l 1) (.l 3), none⟩] [(7, 4)])
 (.cond (.t 7) (.seq (.region [⟨.mv (.c (.bool false)), none⟩] [(4, 0)])
 .ret) .skip))
 (.seq (.seq (.region [⟨.fieldAddr 3 (.t 2), none⟩, ⟨.load false 1 (.l 0), none⟩, ⟨.fieldAddr 3 (.t 3), none⟩, ⟨.load false 1 (.l 2), none⟩, ⟨.call (.c (.fn f_l_eqStageS [] [])) [(.l 1), (.l 3)], none⟩, ⟨.un .not (.l 4), none⟩] [(8, 5)])
 (.cond (.t 8) (.seq (.region [⟨.mv (.c (.bool false)), none⟩] [(4, 0)])
 .ret) .skip))
 (.seq (.seq (.region [⟨.fieldAddr 4 (.t 2), none⟩, ⟨.load false 1 (.l 0), none⟩, ⟨.fieldAddr 4 (.t 3), none⟩, ⟨.load false 1 (.l 2), none⟩, ⟨.bin 0 .neq (.l 1) (.l 3), none⟩] [(9, 4)])
 (.cond (.t 9) (.seq (.region [⟨.mv (.c (.bool false)), none⟩] [(4, 0)])
 .ret) .skip))
 (.seq (.seq (.region [⟨.fieldAddr 5 (.t 2), none⟩, ⟨.load false 1 (.l 0), none⟩, ⟨.fieldAddr 5 (.t 3), none⟩, ⟨.load false 1 (.l 2), none⟩, ⟨.bin 0 .neq (.l 1) (.l 3), none⟩] [(10, 4)])
 (.cond (.t 10) (.seq (.region [⟨.mv (.c (.bool false)), none⟩] [(4, 0)])
 .ret) .skip))
 (.seq (.region [⟨.mv (.c (.bool true)), none⟩] [(4, 0)])
 .ret))))))))
def a_l_eqStand : AFun := ⟨[0, 1, 2, 3, 4, 10, 15, 20, 26, 31, 36], 37, c_l_eqStand, [.tmp 4], 1⟩
def c_l_markStand : ACode :=
 (.seq (.region [⟨.box (.t 0), none⟩, ⟨.mv (.c (.int .i64 (0))), none⟩] [(2, 0), (3, 1)])
 (.seq (.region [⟨.fieldAddr 0 (.t 2), none⟩, ⟨.load false 1 (.l 0), none⟩, ⟨.mv (.t 1), none⟩, ⟨.call (.c (.fn f_l_markLoadS [] [])) [(.l 1), (.l 2)], none⟩, ⟨.mv (.l 3), none⟩] [(1, 4)])
 (.seq (.region [⟨.fieldAddr 3 (.t 2), none⟩, ⟨.load false 1 (.l 0), none⟩, ⟨.mv (.t 1), none⟩, ⟨.call (.c (.fn f_l_markStageS [] [])) [(.l 1), (.l 2)], none⟩, ⟨.mv (.l 3), none⟩] [(1, 4)])
 (.seq (.region [⟨.mv (.t 1), none⟩, ⟨.mv (.l 0), none⟩] [(3, 1)])
 .ret))))
def a_l_markStand : AFun := ⟨[0, 1, 2, 4], 14, c_l_markStand, [.tmp 3], 1⟩
def c_l_heldStand : ACode :=
 (.seq (.region [⟨.box (.t 0), none⟩, ⟨.mv (.c (.int .i64 (0))), none⟩] [(2, 0), (3, 1)])
 (.seq (.region [⟨.fieldAddr 0 (.t 2), none⟩, ⟨.load false 1 (.l 0), none⟩, ⟨.mv (.t 1), none⟩, ⟨.call (.c (.fn f_l_heldLoadS [] [])) [(.l 1), (.l 2)], none⟩, ⟨.mv (.l 3), none⟩] [(1, 4)])
 (.seq (.seq (.region [⟨.mv (.t 1), none⟩, ⟨.bin 0 .lss (.l 0) (.c (.int .i64 (0))), none⟩] [(4, 1)])
 (.cond (.t 4) (.seq (.region [⟨.mv (.c (.int .i64 (-1))), none⟩] [(3, 0)])
 .ret) .skip))
 (.seq (.region [⟨.fieldAddr 3 (.t 2), none⟩, ⟨.load false 1 (.l 0), none⟩, ⟨.mv (.t 1), none⟩, ⟨.call (.c (.fn f_l_heldStageS [] [])) [(.l 1), (.l 2)], none⟩, ⟨.mv (.l 3), none⟩] [(1, 4)])
 (.seq (.seq (.region [⟨.mv (.t 1), none⟩, ⟨.bin 0 .lss (.l 0) (.c (.int .i64 (0))), none⟩] [(5, 1)])
 (.cond (.t 5) (.seq (.region [⟨.mv (.c (.int .i64 (-1))), none⟩] [(3, 0)])
 .ret) .skip))
 (.seq (.region [⟨.mv (.t 1), none⟩, ⟨.mv (.l 0), none⟩] [(3, 1)])
 .ret))))))
def a_l_heldStand : AFun := ⟨[0, 1, 2, 4, 10, 16], 18, c_l_heldStand, [.tmp 3], 1⟩
def c_l_szStand : ACode :=
 (.seq (.region [⟨.box (.t 0), none⟩, ⟨.mv (.c (.int .i64 (0))), none⟩] [(2, 0), (3, 1)])
 (.seq (.region [⟨.fieldAddr 0 (.t 2), none⟩, ⟨.load false 1 (.l 0), none⟩, ⟨.mv (.t 1), none⟩, ⟨.call (.c (.fn f_l_szLoadS [] [])) [(.l 1), (.l 2)], none⟩, ⟨.mv (.l 3), none⟩] [(1, 4)])
 (.seq (.seq (.region [⟨.mv (.t 1), none⟩, ⟨.bin 0 .lss (.l 0) (.c (.int .i64 (0))), none⟩] [(4, 1)])
 (.cond (.t 4) (.seq (.region [⟨.mv (.c (.int .i64 (-1))), none⟩] [(3, 0)])
 .ret) .skip))
 (.seq (.region [⟨.fieldAddr 3 (.t 2), none⟩, ⟨.load false 1 (.l 0), none⟩, ⟨.mv (.t 1), none⟩, ⟨.call (.c (.fn f_l_szStageS [] [])) [(.l 1), (.l 2)], none⟩, ⟨.mv (.l 3), none⟩] [(1, 4)])
 (.seq (.seq (.region [⟨.mv (.t 1), none⟩, ⟨.bin 0 .lss (.l 0) (.c (.int .i64 (0))), none⟩] [(5, 1)])
 (.cond (.t 5) (.seq (.region [⟨.mv (.c (.int .i64 (-1))), none⟩] [(3, 0)])
 .ret) .skip))
 (.seq (.region [⟨.mv (.t 1), none⟩, ⟨.mv (.l 0), none⟩] [(3, 1)])
 .ret))))))
def a_l_szStand : AFun := ⟨[0, 1, 2, 4, 10, 16], 18, c_l_szStand, [.tmp 3], 1⟩
def c_s_IsStand : ACode :=
 (.seq (.region [⟨.box (.t 0), none⟩, ⟨.mv (.c (.bool false)), none⟩] [(1, 0), (2, 1)])
 (.seq (.region [⟨.load true 6 (.t 1), none⟩, ⟨.call (.c (.fn f_s_l12Good [] [])) [(.l 0)], none⟩, ⟨.mv (.l 1), none⟩] [(2, 2)])
 .ret))
def a_s_IsStand : AFun := ⟨[0, 1, 2], 5, c_s_IsStand, [.tmp 2], 1⟩
def c_l_toStand : ACode :=
 (.seq (.region [⟨.box (.t 0), none⟩, ⟨.alloc [.slice none 0 0 none, .int .i64 (0), .int .i64 (0), .slice none 0 0 none, .int .i64 (0), .int .i64 (0)], none⟩] [(1, 0), (2, 1)])
 (.seq (.region [⟨.alloc [.slice none 0 0 none, .int .i64 (0), .int .i64 (0), .slice none 0 0 none, .int .i64 (0), .int .i64 (0)], none⟩] [(3, 0)])
 (.seq (.region [⟨.fieldAddr 0 (.t 1), none⟩, ⟨.load false 1 (.l 0), none⟩, ⟨.call (.c (.fn f_l_toLoadS [] [])) [(.l 1)], none⟩, ⟨.fieldAddr 0 (.t 3), none⟩, ⟨.store 1 (.l 3) (.l 2), none⟩] [])
 (.seq (.region [⟨.fieldAddr 1 (.t 1), none⟩, ⟨.load false 1 (.l 0), none⟩, ⟨.fieldAddr 1 (.t 3), none⟩, ⟨.store 1 (.l 2) (.l 1), none⟩] [])
 (.seq (.region [⟨.fieldAddr 2 (.t 1), none⟩, ⟨.load false 1 (.l 0), none⟩, ⟨.fieldAddr 2 (.t 3), none⟩, ⟨.store 1 (.l 2) (.l 1), none⟩] [])
 (.seq (.region [⟨.fieldAddr 3 (.t 1), none⟩, ⟨.load false 1 (.l 0), none⟩, ⟨.call (.c (.fn f_l_toStageS [] [])) [(.l 1)], none⟩, ⟨.fieldAddr 3 (.t 3), none⟩, ⟨.store 1 (.l 3) (.l 2), none⟩] [])
 (.seq (.region [⟨.fieldAddr 4 (.t 1), none⟩, ⟨.load false 1 (.l 0), none⟩, ⟨.fieldAddr 4 (.t 3), none⟩, ⟨.store 1 (.l 2) (.l 1), none⟩] [])
 (.seq (.region [⟨.fieldAddr 5 (.t 1), none⟩, ⟨.load false 1 (.l 0), none⟩, ⟨.fieldAddr 5 (.t 3), none⟩, ⟨.store 1 (.l 2) (.l 1), none⟩] [])
 (.seq (.region [⟨.load true 6 (.t 3), none⟩, ⟨.store 6 (.t 2) (.l 0), none⟩] [])
 .ret)))))))))
def a_l_toStand : AFun := ⟨[0, 1, 2, 3], 25, c_l_toStand, [.cell 2 true 6], 2⟩
def c_i_IsStand : ACode :=
 (.seq (.region [⟨.box (.t 0), none⟩, ⟨.mv (.c (.bool false)), none⟩] [(1, 0), (2, 1)])
 (.seq (.region [⟨.fieldAddr 0 (.t 1), none⟩, ⟨.load false 1 (.l 0), none⟩, ⟨.call (.c (.fn f_i_IsRow [] [])) [(.l 1)], none⟩, ⟨.mv (.l 2), none⟩, ⟨.fieldAddr 1 (.t 1), some ((.l 3), true)⟩, ⟨.load false 1 (.l 4), some ((.l 3), true)⟩, ⟨.fieldAddr 2 (.t 1), some ((.l 3), true)⟩, ⟨.load false 1 (.l 6), some ((.l 3), true)⟩, ⟨.call (.c (.fn f_i_isBase [] [])) [(.l 5), (.l 7)], some ((.l 3), true)⟩, ⟨.pick (.l 3) (.l 8) (.c (.bool false)), none⟩, ⟨.mv (.l 9), none⟩, ⟨.fieldAddr 3 (.t 1), some ((.l 10), true)⟩, ⟨.load false 1 (.l 11), some ((.l 10), true)⟩, ⟨.call (.c (.fn f_i_isChain [] [])) [(.l 12)], some ((.l 10), true)⟩, ⟨.pick (.l 10) (.l 13) (.c (.bool false)), none⟩, ⟨.mv (.l 14), none⟩, ⟨.fieldAddr 5 (.t 1), some ((.l 15), true)⟩, ⟨.load false 1 (.l 16), some ((.l 15), true)⟩, ⟨.call (.c (.fn f_i_within [] [])) [(.l 17), (.c (.int .i64 (0))), (.c (.int .i64 (1000)))], some ((.l 15), true)⟩, ⟨.pick (.l 15) (.l 18) (.c (.bool false)), none⟩, ⟨.mv (.l 19), none⟩, ⟨.fieldAddr 4 (.t 1), some ((.l 20), true)⟩, ⟨.load false 1 (.l 21), some ((.l 20), true)⟩, ⟨.fieldAddr 5 (.t 1), some ((.l 20), true)⟩, ⟨.load false 1 (.l 23), some ((.l 20), true)⟩, ⟨.call (.c (.fn f_i_within [] [])) [(.l 22), (.c (.int .i64 (0))), (.l 24)], some ((.l 20), true)⟩, ⟨.pick (.l 20) (.l 25) (.c (.bool false)), none⟩, ⟨.mv (.l 26), none⟩] [(2, 27)])
 .ret))
def a_i_IsStand : AFun := ⟨[0, 1, 2], 30, c_i_IsStand, [.tmp 2], 1⟩
def c_s_RowPull : ACode :=
 (.seq (.region [⟨.box (.t 0), none⟩, ⟨.mv (.c (.int .i64 (0))), none⟩, ⟨.mv (.c (.bool false)), none⟩] [(1, 0), (2, 1), (3, 2)])
 (.seq (.seq (.region [⟨.load true 6 (.t 1), none⟩, ⟨.call (.c (.fn f_s_l12Good [] [])) [(.l 0)], none⟩, ⟨.un .not (.l 1), none⟩] [(4, 2)])
 (.cond (.t 4) (.seq (.region [⟨.mv (.c (.int .i64 (0))), none⟩, ⟨.mv (.c (.bool false)), none⟩] [(2, 0), (3, 1)])
 .ret) .skip))
 (.seq (.draw [⟨.fieldAddr 3 (.t 1), none, []⟩, ⟨.load false 1 (.l 0), none, []⟩, ⟨.fieldAddr 0 (.t 1), none, []⟩, ⟨.load false 1 (.l 2), none, []⟩, ⟨.call (.c (.fn f_s_l2Weight [] [])) [(.l 3)], none, [(1, ⟨.load false 1 (.l 0), none⟩)]⟩, ⟨.call (.c (.fn f_s_LeastPull [] [])) [(.l 1), (.l 4)], none, []⟩, ⟨.extract 0 (.l 5), none, []⟩, ⟨.extract 1 (.l 5), none, []⟩, ⟨.mv (.l 6), none, []⟩, ⟨.mv (.l 7), none, []⟩] [(2, 8), (3, 9)])
 .ret)))
def a_s_RowPull : AFun := ⟨[0, 1, 2, 3, 6], 15, c_s_RowPull, [.tmp 2, .tmp 3], 1⟩
def c_i_RowPull : ACode :=
 (.seq (.region [⟨.box (.t 0), none⟩, ⟨.mv (.c (.int .i64 (0))), none⟩, ⟨.mv (.c (.bool false)), none⟩] [(1, 0), (2, 1), (3, 2)])
 (.seq (.seq (.region [⟨.load true 6 (.t 1), none⟩, ⟨.call (.c (.fn f_i_IsStand [] [])) [(.l 0)], none⟩, ⟨.un .not (.l 1), none⟩] [(4, 2)])
 (.cond (.t 4) (.seq (.region [⟨.mv (.c (.int .i64 (0))), none⟩, ⟨.mv (.c (.bool false)), none⟩] [(2, 0), (3, 1)])
 .ret) .skip))
 (.seq (.draw [⟨.fieldAddr 3 (.t 1), none, []⟩, ⟨.load false 1 (.l 0), none, []⟩, ⟨.fieldAddr 0 (.t 1), none, []⟩, ⟨.load false 1 (.l 2), none, []⟩, ⟨.call (.c (.fn f_i_weightOf [] [])) [(.l 3)], none, [(1, ⟨.load false 1 (.l 0), none⟩)]⟩, ⟨.call (.c (.fn f_i_LeastPull [] [])) [(.l 1), (.l 4)], none, []⟩, ⟨.extract 0 (.l 5), none, []⟩, ⟨.extract 1 (.l 5), none, []⟩, ⟨.mv (.l 6), none, []⟩, ⟨.mv (.l 7), none, []⟩] [(2, 8), (3, 9)])
 .ret)))
def a_i_RowPull : AFun := ⟨[0, 1, 2, 3, 6], 15, c_i_RowPull, [.tmp 2, .tmp 3], 1⟩
def c_s_NewConsole : ACode :=
 (.seq (.region [⟨.box (.t 0), none⟩, ⟨.alloc [.slice none 0 0 none, .int .i64 (0), .int .i64 (0), .slice none 0 0 none, .int .i64 (0), .int .i64 (0), .str ⟨#[]⟩, .str ⟨#[]⟩, .int .i64 (0)], none⟩, ⟨.mv (.c (.bool false)), none⟩] [(1, 0), (2, 1), (3, 2)])
 (.seq (.seq (.region [⟨.load true 6 (.t 1), none⟩, ⟨.call (.c (.fn f_s_l12Good [] [])) [(.l 0)], none⟩, ⟨.un .not (.l 1), none⟩] [(4, 2)])
 (.cond (.t 4) (.seq (.region [⟨.build [.slice none 0 0 none, .int .i64 (0), .int .i64 (0), .slice none 0 0 none, .int .i64 (0), .int .i64 (0), .str ⟨#[]⟩, .str ⟨#[]⟩, .int .i64 (0)] [], none⟩, ⟨.store 9 (.t 2) (.l 0), none⟩, ⟨.mv (.c (.bool false)), none⟩] [(3, 2)])
 .ret) .skip))
 (.seq (.region [⟨.load true 6 (.t 1), none⟩, ⟨.call (.c (.fn f_s_l12Own [] [])) [(.l 0)], none⟩, ⟨.build [.slice none 0 0 none, .int .i64 (0), .int .i64 (0), .slice none 0 0 none, .int .i64 (0), .int .i64 (0), .str ⟨#[]⟩, .str ⟨#[]⟩, .int .i64 (0)] [(0, 6, (.l 1))], none⟩, ⟨.store 9 (.t 2) (.l 2), none⟩, ⟨.mv (.c (.bool true)), none⟩] [(3, 4)])
 .ret)))
def a_s_NewConsole : AFun := ⟨[0, 1, 2, 3, 6], 11, c_s_NewConsole, [.cell 2 true 9, .tmp 3], 2⟩
def c_i_NewConsole : ACode :=
 (.seq (.region [⟨.box (.t 0), none⟩, ⟨.alloc [.slice none 0 0 none, .int .i64 (0), .int .i64 (0), .slice none 0 0 none, .int .i64 (0), .int .i64 (0), .str ⟨#[]⟩, .str ⟨#[]⟩, .int .i64 (0)], none⟩, ⟨.mv (.c (.bool false)), none⟩] [(1, 0), (2, 1), (3, 2)])
 (.seq (.seq (.region [⟨.load true 6 (.t 1), none⟩, ⟨.call (.c (.fn f_i_IsStand [] [])) [(.l 0)], none⟩, ⟨.un .not (.l 1), none⟩] [(4, 2)])
 (.cond (.t 4) (.seq (.region [⟨.build [.slice none 0 0 none, .int .i64 (0), .int .i64 (0), .slice none 0 0 none, .int .i64 (0), .int .i64 (0), .str ⟨#[]⟩, .str ⟨#[]⟩, .int .i64 (0)] [], none⟩, ⟨.store 9 (.t 2) (.l 0), none⟩, ⟨.mv (.c (.bool false)), none⟩] [(3, 2)])
 .ret) .skip))
 (.seq (.region [⟨.load true 6 (.t 1), none⟩, ⟨.call (.c (.fn f_i_copyStand [] [])) [(.l 0)], none⟩, ⟨.build [.slice none 0 0 none, .int .i64 (0), .int .i64 (0), .slice none 0 0 none, .int .i64 (0), .int .i64 (0), .str ⟨#[]⟩, .str ⟨#[]⟩, .int .i64 (0)] [(0, 6, (.l 1))], none⟩, ⟨.store 9 (.t 2) (.l 2), none⟩, ⟨.mv (.c (.bool true)), none⟩] [(3, 4)])
 .ret)))
def a_i_NewConsole : AFun := ⟨[0, 1, 2, 3, 6], 11, c_i_NewConsole, [.cell 2 true 9, .tmp 3], 2⟩
def c_l_eqConsole : ACode :=
 (.seq (.region [⟨.box (.t 0), none⟩, ⟨.box (.t 1), none⟩, ⟨.mv (.c (.bool false)), none⟩] [(2, 0), (3, 1), (4, 2)])
 (.seq (.seq (.region [⟨.fieldAddr 0 (.t 2), none⟩, ⟨.load true 6 (.l 0), none⟩, ⟨.fieldAddr 0 (.t 3), none⟩, ⟨.load true 6 (.l 2), none⟩, ⟨.call (.c (.fn f_l_eqStand [] [])) [(.l 1), (.l 3)], none⟩, ⟨.un .not (.l 4), none⟩] [(5, 5)])
 (.cond (.t 5) (.seq (.region [⟨.mv (.c (.bool false)), none⟩] [(4, 0)])
 .ret) .skip))
 (.seq (.seq (.region [⟨.fieldAddr 6 (.t 2), none⟩, ⟨.load true 3 (.l 0), none⟩, ⟨.fieldAddr 6 (.t 3), none⟩, ⟨.load true 3 (.l 2), none⟩, ⟨.call (.c (.fn f_l_eqLog [] [])) [(.l 1), (.l 3)], none⟩, ⟨.un .not (.l 4), none⟩] [(6, 5)])
 (.cond (.t 6) (.seq (.region [⟨.mv (.c (.bool false)), none⟩] [(4, 0)])
 .ret) .skip))
 (.seq (.region [⟨.mv (.c (.bool true)), none⟩] [(4, 0)])
 .ret))))
def a_l_eqConsole : AFun := ⟨[0, 1, 2, 3, 4, 10, 16], 17, c_l_eqConsole, [.tmp 4], 1⟩
def c_l_markConsole : ACode :=
 (.seq (.region [⟨.box (.t 0), none⟩, ⟨.mv (.c (.int .i64 (0))), none⟩] [(2, 0), (3, 1)])
 (.seq (.region [⟨.fieldAddr 0 (.t 2), none⟩, ⟨.load true 6 (.l 0), none⟩, ⟨.mv (.t 1), none⟩, ⟨.call (.c (.fn f_l_markStand [] [])) [(.l 1), (.l 2)], none⟩, ⟨.mv (.l 3), none⟩] [(1, 4)])
 (.seq (.region [⟨.mv (.t 1), none⟩, ⟨.mv (.l 0), none⟩] [(3, 1)])
 .ret)))
def a_l_markConsole : AFun := ⟨[0, 1, 2, 4], 10, c_l_markConsole, [.tmp 3], 1⟩
def c_l_heldConsole : ACode :=
 (.seq (.region [⟨.box (.t 0), none⟩, ⟨.mv (.c (.int .i64 (0))), none⟩] [(2, 0), (3, 1)])
 (.seq (.region [⟨.fieldAddr 0 (.t 2), none⟩, ⟨.load true 6 (.l 0), none⟩, ⟨.mv (.t 1), none⟩, ⟨.call (.c (.fn f_l_heldStand [] [])) [(.l 1), (.l 2)], none⟩, ⟨.mv (.l 3), none⟩] [(1, 4)])
 (.seq (.seq (.region [⟨.mv (.t 1), none⟩, ⟨.bin 0 .lss (.l 0) (.c (.int .i64 (0))), none⟩] [(4, 1)])
 (.cond (.t 4) (.seq (.region [⟨.mv (.c (.int .i64 (-1))), none⟩] [(3, 0)])
 .ret) .skip))
 (.seq (.region [⟨.mv (.t 1), none⟩, ⟨.mv (.l 0), none⟩] [(3, 1)])
 .ret))))
def a_l_heldConsole : AFun := ⟨[0, 1, 2, 4, 10], 12, c_l_heldConsole, [.tmp 3], 1⟩
def c_s_DoTask : ACode :=
 (.seq (.region [⟨.box (.t 0), none⟩, ⟨.box (.t 1), none⟩, ⟨.alloc [.slice none 0 0 none, .int .i64 (0), .int .i64 (0), .slice none 0 0 none, .int .i64 (0), .int .i64 (0)], none⟩, ⟨.mv (.c (.bool false)), none⟩] [(2, 0), (3, 1), (4, 2), (5, 3)])
 (.seq (.seq (.region [⟨.load true 6 (.t 2), none⟩, ⟨.call (.c (.fn f_s_l12Good [] [])) [(.l 0)], none⟩, ⟨.un .not (.l 1), none⟩] [(6, 2)])
 (.cond (.t 6) (.seq (.region [⟨.build [.slice none 0 0 none, .int .i64 (0), .int .i64 (0), .slice none 0 0 none, .int .i64 (0), .int .i64 (0)] [], none⟩, ⟨.store 6 (.t 4) (.l 0), none⟩, ⟨.mv (.c (.bool false)), none⟩] [(5, 2)])
 .ret) .skip))
 (.seq (.region [⟨.load true 6 (.t 2), none⟩, ⟨.load true 4 (.t 3), none⟩, ⟨.call (.c (.fn f_s_l12Do [] [])) [(.l 0), (.l 1)], none⟩, ⟨.extract 0 (.l 2), none⟩, ⟨.extract 1 (.l 2), none⟩, ⟨.store 6 (.t 4) (.l 3), none⟩, ⟨.mv (.l 4), none⟩] [(5, 6)])
 .ret)))
def a_s_DoTask : AFun := ⟨[0, 1, 2, 3, 4, 5, 8], 15, c_s_DoTask, [.cell 4 true 6, .tmp 5], 2⟩
def c_l_toTask : ACode :=
 (.seq (.region [⟨.box (.t 0), none⟩, ⟨.alloc [.int .i64 (0), .int .i64 (0), .int .i64 (0), .int .i64 (0)], none⟩] [(1, 0), (2, 1)])
 (.seq (.region [⟨.alloc [.int .i64 (0), .int .i64 (0), .int .i64 (0), .int .i64 (0)], none⟩] [(3, 0)])
 (.seq (.region [⟨.fieldAddr 0 (.t 1), none⟩, ⟨.load false 1 (.l 0), none⟩, ⟨.fieldAddr 0 (.t 3), none⟩, ⟨.store 1 (.l 2) (.l 1), none⟩] [])
 (.seq (.region [⟨.fieldAddr 1 (.t 1), none⟩, ⟨.load false 1 (.l 0), none⟩, ⟨.fieldAddr 1 (.t 3), none⟩, ⟨.store 1 (.l 2) (.l 1), none⟩] [])
 (.seq (.region [⟨.fieldAddr 2 (.t 1), none⟩, ⟨.load false 1 (.l 0), none⟩, ⟨.fieldAddr 2 (.t 3), none⟩, ⟨.store 1 (.l 2) (.l 1), none⟩] [])
 (.seq (.region [⟨.fieldAddr 3 (.t 1), none⟩, ⟨.load false 1 (.l 0), none⟩, ⟨.fieldAddr 3 (.t 3), none⟩, ⟨.store 1 (.l 2) (.l 1), none⟩] [])
 (.seq (.region [⟨.load true 4 (.t 3), none⟩, ⟨.store 4 (.t 2) (.l 0), none⟩] [])
 .ret)))))))
def a_l_toTask : AFun := ⟨[0, 1, 2, 3], 17, c_l_toTask, [.cell 2 true 4], 1⟩
def c_i_DoTask : ACode :=
 (.seq (.region [⟨.box (.t 0), none⟩, ⟨.box (.t 1), none⟩, ⟨.alloc [.slice none 0 0 none, .int .i64 (0), .int .i64 (0), .slice none 0 0 none, .int .i64 (0), .int .i64 (0)], none⟩, ⟨.mv (.c (.bool false)), none⟩] [(2, 0), (3, 1), (4, 2), (5, 3)])
 (.seq (.seq (.region [⟨.load true 6 (.t 2), none⟩, ⟨.call (.c (.fn f_i_IsStand [] [])) [(.l 0)], none⟩, ⟨.un .not (.l 1), none⟩] [(10, 2)])
 (.cond (.t 10) (.seq (.region [⟨.build [.slice none 0 0 none, .int .i64 (0), .int .i64 (0), .slice none 0 0 none, .int .i64 (0), .int .i64 (0)] [], none⟩, ⟨.store 6 (.t 4) (.l 0), none⟩, ⟨.mv (.c (.bool false)), none⟩] [(5, 2)])
 .ret) .skip))
 (.seq (.region [⟨.load true 6 (.t 2), none⟩, ⟨.call (.c (.fn f_i_copyStand [] [])) [(.l 0)], none⟩, ⟨.alloc [.slice none 0 0 none, .int .i64 (0), .int .i64 (0), .slice none 0 0 none, .int .i64 (0), .int .i64 (0)], none⟩, ⟨.store 6 (.l 2) (.l 1), none⟩, ⟨.mv (.c (.bool false)), none⟩] [(6, 2), (7, 4)])
 (.seq (.draw [⟨.fieldAddr 1 (.t 3), none, []⟩, ⟨.load false 1 (.l 0), none, []⟩, ⟨.fieldAddr 0 (.t 2), none, []⟩, ⟨.load false 1 (.l 2), none, []⟩, ⟨.len (.l 3), none, []⟩, ⟨.bin 0 .sub (.l 4) (.c (.int .i64 (1))), none, []⟩, ⟨.fieldAddr 1 (.t 3), none, []⟩, ⟨.load false 1 (.l 6), none, []⟩, ⟨.fieldAddr 3 (.t 2), none, []⟩, ⟨.load false 1 (.l 8), none, []⟩, ⟨.len (.l 9), none, []⟩, ⟨.bin 0 .sub (.l 10) (.c (.int .i64 (1))), none, []⟩, ⟨.call (.c (.fn f_i_within [] [])) [(.l 1), (.c (.int .i64 (0))), (.l 5)], none, [(7, ⟨.load false 1 (.l 6), none⟩), (9, ⟨.load false 1 (.l 8), none⟩)]⟩, ⟨.call (.c (.fn f_i_within [] [])) [(.l 7), (.c (.int .i64 (0))), (.l 11)], none, []⟩, ⟨.mv (.l 12), none, []⟩, ⟨.mv (.l 13), none, []⟩] [(8, 14), (9, 15)])
 (.seq (.seq (.region [⟨.fieldAddr 0 (.t 3), none⟩, ⟨.load false 1 (.l 0), none⟩] [(11, 1)])
 (.block 0 (.seq (.region [⟨.bin 0 .eql (.t 11) (.c (.int .i64 (1))), none⟩, ⟨.mv (.l 0), none⟩] [(12, 1)])
 (.cond (.t 12) (.draw [⟨.fieldAddr 0 (.t 6), none, []⟩, ⟨.load false 1 (.l 0), none, []⟩, ⟨.fieldAddr 1 (.t 3), none, []⟩, ⟨.load false 1 (.l 2), none, []⟩, ⟨.fieldAddr 2 (.t 3), none, []⟩, ⟨.load false 1 (.l 4), none, []⟩, ⟨.build [.int .i64 (0), .int .i64 (0)] [(0, 1, (.l 3)), (1, 1, (.l 5))], none, []⟩, ⟨.fieldAddr 3 (.t 3), none, []⟩, ⟨.load false 1 (.l 7), none, []⟩, ⟨.bin 0 .eql (.l 8) (.c (.int .i64 (0))), none, []⟩, ⟨.buildSlice 2 1 [.int .i64 (0), .int .i64 (0)] [(0, 2, (.l 6))], none, [(1, ⟨.load false 1 (.l 0), none⟩), (8, ⟨.load false 1 (.l 7), none⟩)]⟩, ⟨.append false 2 16 (.l 1) (.l 10), none, [(8, ⟨.load false 1 (.l 7), none⟩)]⟩, ⟨.fieldAddr 0 (.t 6), none, []⟩, ⟨.store 1 (.l 12) (.l 11), none, [(8, ⟨.load false 1 (.l 7), none⟩)]⟩, ⟨.mv (.l 9), none, []⟩] [(7, 14)]) (.seq (.region [⟨.bin 0 .eql (.t 11) (.c (.int .i64 (2))), none⟩, ⟨.mv (.l 0), none⟩] [(13, 1)])
 (.cond (.t 13) (.seq (.region [⟨.mv (.t 8), none⟩] [(14, 0)])
 (.cond (.t 14) (.draw [⟨.fieldAddr 0 (.t 6), none, []⟩, ⟨.load false 1 (.l 0), none, []⟩, ⟨.fieldAddr 1 (.t 3), none, []⟩, ⟨.load false 1 (.l 2), none, []⟩, ⟨.fieldAddr 1 (.t 3), none, []⟩, ⟨.load false 1 (.l 4), none, []⟩, ⟨.bin 0 .add (.l 5) (.c (.int .i64 (1))), none, []⟩, ⟨.fieldAddr 2 (.t 3), none, []⟩, ⟨.load false 1 (.l 7), none, []⟩, ⟨.bin 0 .eql (.l 8) (.c (.int .i64 (0))), none, []⟩, ⟨.call (.c (.fn f_slices_Delete_Si_Load_i_Load [] [])) [(.l 1), (.l 3), (.l 6)], none, [(8, ⟨.load false 1 (.l 7), none⟩)]⟩, ⟨.mv (.l 9), none, []⟩, ⟨.fieldAddr 3 (.t 3), some ((.l 11), true), []⟩, ⟨.load false 1 (.l 12), some ((.l 11), true), []⟩, ⟨.bin 0 .eql (.l 13) (.c (.int .i64 (0))), some ((.l 11), true), []⟩, ⟨.pick (.l 11) (.l 14) (.c (.bool false)), none, []⟩, ⟨.fieldAddr 0 (.t 6), none, []⟩, ⟨.store 1 (.l 16) (.l 10), none, [(13, ⟨.load false 1 (.l 12), some ((.l 11), true)⟩)]⟩, ⟨.mv (.l 15), none, []⟩] [(7, 18)]) .skip)) (.seq (.region [⟨.bin 0 .eql (.t 11) (.c (.int .i64 (3))), none⟩, ⟨.mv (.l 0), none⟩] [(15, 1)])
 (.cond (.t 15) (.seq (.region [⟨.mv (.t 8), none⟩] [(16, 0)])
 (.cond (.t 16) (.draw [⟨.fieldAddr 0 (.t 6), none, []⟩, ⟨.load false 1 (.l 0), none, []⟩, ⟨.fieldAddr 1 (.t 3), none, []⟩, ⟨.load false 1 (.l 2), none, []⟩, ⟨.fieldAddr 2 (.t 3), none, []⟩, ⟨.load false 1 (.l 4), none, []⟩, ⟨.fieldAddr 3 (.t 3), none, []⟩, ⟨.load false 1 (.l 6), none, []⟩, ⟨.bin 0 .eql (.l 7) (.c (.int .i64 (0))), none, []⟩, ⟨.indexAddrS 2 (.l 1) (.l 3), none, []⟩, ⟨.fieldAddr 0 (.l 9), none, []⟩, ⟨.store 1 (.l 10) (.l 5), none, [(7, ⟨.load false 1 (.l 6), none⟩)]⟩, ⟨.mv (.l 8), none, []⟩] [(7, 12)]) .skip)) (.seq (.region [⟨.bin 0 .eql (.t 11) (.c (.int .i64 (4))), none⟩, ⟨.mv (.l 0), none⟩] [(17, 1)])
 (.cond (.t 17) (.draw [⟨.fieldAddr 1 (.t 3), none, []⟩, ⟨.load false 1 (.l 0), none, []⟩, ⟨.fieldAddr 2 (.t 3), none, []⟩, ⟨.load false 1 (.l 2), none, []⟩, ⟨.fieldAddr 3 (.t 3), none, []⟩, ⟨.load false 1 (.l 4), none, []⟩, ⟨.bin 0 .eql (.l 5) (.c (.int .i64 (0))), none, []⟩, ⟨.fieldAddr 1 (.t 6), none, []⟩, ⟨.store 1 (.l 7) (.l 1), none, [(3, ⟨.load false 1 (.l 2), none⟩), (5, ⟨.load false 1 (.l 4), none⟩)]⟩, ⟨.fieldAddr 2 (.t 6), none, []⟩, ⟨.store 1 (.l 9) (.l 3), none, [(5, ⟨.load false 1 (.l 4), none⟩)]⟩, ⟨.mv (.l 6), none, []⟩] [(7, 11)]) (.seq (.region [⟨.bin 0 .eql (.t 11) (.c (.int .i64 (5))), none⟩, ⟨.mv (.l 0), none⟩] [(18, 1)])
 (.cond (.t 18) (.region [⟨.fieldAddr 3 (.t 6), none⟩, ⟨.load false 1 (.l 0), none⟩, ⟨.fieldAddr 1 (.t 3), none⟩, ⟨.load false 1 (.l 2), none⟩, ⟨.fieldAddr 2 (.t 3), none⟩, ⟨.load false 1 (.l 4), none⟩, ⟨.fieldAddr 3 (.t 3), none⟩, ⟨.load false 1 (.l 6), none⟩, ⟨.build [.int .i64 (0), .int .i64 (0), .int .i64 (0)] [(0, 1, (.l 3)), (1, 1, (.l 5)), (2, 1, (.l 7))], none⟩, ⟨.buildSlice 3 1 [.int .i64 (0), .int .i64 (0), .int .i64 (0)] [(0, 3, (.l 8))], none⟩, ⟨.append false 3 24 (.l 1) (.l 9), none⟩, ⟨.fieldAddr 3 (.t 6), none⟩, ⟨.store 1 (.l 11) (.l 10), none⟩, ⟨.mv (.c (.bool true)), none⟩] [(7, 13)]) (.seq (.region [⟨.bin 0 .eql (.t 11) (.c (.int .i64 (6))), none⟩, ⟨.mv (.l 0), none⟩] [(19, 1)])
 (.cond (.t 19) (.seq (.region [⟨.mv (.t 9), none⟩] [(20, 0)])
 (.cond (.t 20) (.draw [⟨.fieldAddr 3 (.t 6), none, []⟩, ⟨.load false 1 (.l 0), none, []⟩, ⟨.fieldAddr 1 (.t 3), none, []⟩, ⟨.load false 1 (.l 2), none, []⟩, ⟨.fieldAddr 1 (.t 3), none, []⟩, ⟨.load false 1 (.l 4), none, []⟩, ⟨.bin 0 .add (.l 5) (.c (.int .i64 (1))), none, []⟩, ⟨.fieldAddr 2 (.t 3), none, []⟩, ⟨.load false 1 (.l 7), none, []⟩, ⟨.bin 0 .eql (.l 8) (.c (.int .i64 (0))), none, []⟩, ⟨.call (.c (.fn f_slices_Delete_Si_Stage_i_Stage [] [])) [(.l 1), (.l 3), (.l 6)], none, [(8, ⟨.load false 1 (.l 7), none⟩)]⟩, ⟨.mv (.l 9), none, []⟩, ⟨.fieldAddr 3 (.t 3), some ((.l 11), true), []⟩, ⟨.load false 1 (.l 12), some ((.l 11), true), []⟩, ⟨.bin 0 .eql (.l 13) (.c (.int .i64 (0))), some ((.l 11), true), []⟩, ⟨.pick (.l 11) (.l 14) (.c (.bool false)), none, []⟩, ⟨.fieldAddr 3 (.t 6), none, []⟩, ⟨.store 1 (.l 16) (.l 10), none, [(13, ⟨.load false 1 (.l 12), some ((.l 11), true)⟩)]⟩, ⟨.mv (.l 15), none, []⟩] [(7, 18)]) .skip)) .skip))))))))))))))
 (.seq (.region [⟨.fieldAddr 5 (.t 6), none⟩, ⟨.load false 1 (.l 0), none⟩, ⟨.bin 0 .add (.l 1) (.c (.int .i64 (1))), none⟩, ⟨.fieldAddr 5 (.t 6), none⟩, ⟨.store 1 (.l 3) (.l 2), none⟩] [])
 (.seq (.seq (.region [⟨.mv (.t 7), none⟩, ⟨.un .not (.l 0), none⟩, ⟨.mv (.l 1), none⟩, ⟨.load true 6 (.t 6), some ((.l 2), false)⟩, ⟨.call (.c (.fn f_i_IsStand [] [])) [(.l 3)], some ((.l 2), false)⟩, ⟨.un .not (.l 4), some ((.l 2), false)⟩, ⟨.pick (.l 2) (.c (.bool true)) (.l 5), none⟩] [(21, 6)])
 (.cond (.t 21) (.seq (.region [⟨.build [.slice none 0 0 none, .int .i64 (0), .int .i64 (0), .slice none 0 0 none, .int .i64 (0), .int .i64 (0)] [], none⟩, ⟨.store 6 (.t 4) (.l 0), none⟩, ⟨.mv (.c (.bool false)), none⟩] [(5, 2)])
 .ret) .skip))
 (.seq (.seq (.region [⟨.fieldAddr 0 (.t 6), none⟩, ⟨.load false 1 (.l 0), none⟩, ⟨.fieldAddr 1 (.t 6), none⟩, ⟨.load false 1 (.l 2), none⟩, ⟨.fieldAddr 2 (.t 6), none⟩, ⟨.load false 1 (.l 4), none⟩, ⟨.call (.c (.fn f_i_tipSide [] [])) [(.l 1), (.l 3), (.l 5)], none⟩, ⟨.bin 0 .neq (.l 6) (.c (.int .i64 (0))), none⟩] [(22, 7)])
 (.cond (.t 22) (.region [⟨.fieldAddr 4 (.t 6), none⟩, ⟨.load false 1 (.l 0), none⟩, ⟨.bin 0 .add (.l 1) (.c (.int .i64 (1))), none⟩, ⟨.fieldAddr 4 (.t 6), none⟩, ⟨.store 1 (.l 3) (.l 2), none⟩] []) .skip))
 (.seq (.region [⟨.load true 6 (.t 6), none⟩, ⟨.store 6 (.t 4) (.l 0), none⟩, ⟨.mv (.c (.bool true)), none⟩] [(5, 2)])
 .ret)))))))))
def a_i_DoTask : AFun := ⟨[0, 1, 2, 3, 4, 5, 6, 7, 8, 9, 12, 31, 32, 47, 49, 67, 69, 81, 92, 106, 108, 136, 145], 151, c_i_DoTask, [.cell 4 true 6, .tmp 5], 2⟩
def c_l_vBig : ACode :=
 (.seq (.region [⟨.mv (.c (.bool false)), none⟩] [(1, 0)])
 (.seq (.region [⟨.mv (.t 0), none⟩, ⟨.len (.l 0), none⟩, ⟨.bin 0 .gtr (.l 1) (.c (.int .i64 (65536))), none⟩, ⟨.mv (.l 2), none⟩] [(1, 3)])
 .ret))
def a_l_vBig : AFun := ⟨[0, 2], 6, c_l_vBig, [.tmp 1], 1⟩
def c_s_DrawNewStand : ACode :=
 (.seq (.region [⟨.mv (.c (.int .i64 (0))), none⟩, ⟨.mv (.c (.int .i64 (0))), none⟩] [(1, 0), (2, 1)])
 (.seq (.region [⟨.mv (.t 0), none⟩, ⟨.build [.slice none 0 0 none, .int .i64 (0), .int .u64 (0)] [(0, 1, (.l 0))], none⟩, ⟨.box (.l 1), none⟩, ⟨.mv (.l 2), none⟩] [(3, 3)])
 (.seq (.region [⟨.mv (.t 3), none⟩, ⟨.call (.c (.fn f_s_l1Cur_placeIn [] [])) [(.l 0)], none⟩, ⟨.mv (.l 1), none⟩] [(4, 2)])
 (.seq (.region [⟨.mv (.t 4), none⟩, ⟨.mv (.t 3), none⟩, ⟨.call (.c (.fn f_s_l1Cur_placeIn [] [])) [(.l 1)], none⟩, ⟨.mv (.l 0), none⟩, ⟨.mv (.l 2), none⟩] [(1, 3), (2, 4)])
 .ret))))
def a_s_DrawNewStand : AFun := ⟨[0, 2, 3, 4, 5], 14, c_s_DrawNewStand, [.tmp 1, .tmp 2], 1⟩
def c_s_DrawDoTask : ACode :=
 (.seq (.region [⟨.alloc [.slice none 0 0 none, .int .i64 (0), .int .i64 (0), .slice none 0 0 none, .int .i64 (0), .int .i64 (0)], none⟩, ⟨.alloc [.int .i64 (0), .int .i64 (0), .int .i64 (0), .int .i64 (0)], none⟩] [(1, 0), (2, 1)])
 (.seq (.region [⟨.mv (.t 0), none⟩, ⟨.build [.slice none 0 0 none, .int .i64 (0), .int .u64 (0)] [(0, 1, (.l 0))], none⟩, ⟨.box (.l 1), none⟩, ⟨.mv (.l 2), none⟩] [(3, 3)])
 (.seq (.region [⟨.mv (.t 3), none⟩, ⟨.call (.c (.fn f_s_l1Cur_stand [] [])) [(.l 0)], none⟩, ⟨.alloc [.slice none 0 0 none, .int .i64 (0), .int .i64 (0), .slice none 0 0 none, .int .i64 (0), .int .i64 (0)], none⟩, ⟨.store 6 (.l 2) (.l 1), none⟩] [(4, 2)])
 (.seq (.draw [⟨.load true 6 (.t 4), none, []⟩, ⟨.mv (.t 3), none, []⟩, ⟨.load true 6 (.t 4), none, []⟩, ⟨.call (.c (.fn f_s_l1Cur_task12 [] [])) [(.l 1), (.l 2)], none, [(0, ⟨.load true 6 (.t 4), none⟩)]⟩, ⟨.store 6 (.t 1) (.l 0), none, []⟩, ⟨.store 4 (.t 2) (.l 3), none, []⟩] [])
 .ret))))
def a_s_DrawDoTask : AFun := ⟨[0, 2, 3, 4, 5], 15, c_s_DrawDoTask, [.cell 1 true 6, .cell 2 true 4], 2⟩
def c_l_vCut : ACode :=
 (.seq (.region [⟨.mv (.c (.slice none 0 0 none)), none⟩] [(2, 0)])
 (.seq (.seq (.region [⟨.mv (.t 1), none⟩, ⟨.mv (.t 0), none⟩, ⟨.len (.l 1), none⟩, ⟨.bin 0 .gtr (.l 0) (.l 2), none⟩] [(3, 3)])
 (.cond (.t 3) (.region [⟨.mv (.t 0), none⟩, ⟨.len (.l 0), none⟩, ⟨.mv (.l 1), none⟩] [(1, 2)]) .skip))
 (.seq (.region [⟨.buildSlice 1 0 [] [], none⟩, ⟨.mv (.t 0), none⟩, ⟨.mv (.t 1), none⟩, ⟨.sliceSl 1 (.l 1) (some (.l 2)) none none, none⟩, ⟨.append false 1 1 (.l 0) (.l 3), none⟩, ⟨.mv (.t 1), none⟩, ⟨.conv .u8 (.l 5), none⟩, ⟨.buildSlice 1 1 [.int .u8 (0)] [(0, 1, (.l 6))], none⟩, ⟨.append false 1 1 (.l 4) (.l 7), none⟩, ⟨.mv (.l 8), none⟩] [(2, 9)])
 .ret)))
def a_l_vCut : AFun := ⟨[0, 1, 4, 8], 20, c_l_vCut, [.tmp 2], 2⟩
def w_s_DrawDoTasks_1 : ACode :=
 (.seq (.seq (.region [⟨.mv (.t 7), none⟩, ⟨.bin 0 .gtr (.l 0) (.c (.int .i64 (0))), none⟩, ⟨.mv (.l 1), none⟩, ⟨.load true 6 (.t 6), some ((.l 2), true)⟩, ⟨.call (.c (.fn f_s_l12Good [] [])) [(.l 3)], some ((.l 2), true)⟩, ⟨.pick (.l 2) (.l 4) (.c (.bool false)), none⟩] [(11, 5)])
 (.cond (.t 11) .skip (.exit 0)))
 (.seq (.block 1 (.seq (.region [⟨.mv (.t 3), none⟩, ⟨.load true 6 (.t 6), none⟩, ⟨.call (.c (.fn f_s_l1Cur_task12 [] [])) [(.l 0), (.l 1)], none⟩, ⟨.alloc [.int .i64 (0), .int .i64 (0), .int .i64 (0), .int .i64 (0)], none⟩, ⟨.store 4 (.l 3) (.l 2), none⟩] [(8, 3)])
 (.seq (.region [⟨.mv (.t 5), none⟩, ⟨.load true 4 (.t 8), none⟩, ⟨.buildSlice 4 1 [.int .i64 (0), .int .i64 (0), .int .i64 (0), .int .i64 (0)] [(0, 4, (.l 1))], none⟩, ⟨.append false 4 32 (.l 0) (.l 2), none⟩, ⟨.mv (.l 3), none⟩] [(5, 4)])
 (.seq (.region [⟨.load true 6 (.t 6), none⟩, ⟨.load true 4 (.t 8), none⟩, ⟨.call (.c (.fn f_s_l12Do [] [])) [(.l 0), (.l 1)], none⟩, ⟨.mv (.l 2), none⟩, ⟨.extract 0 (.l 3), none⟩, ⟨.extract 1 (.l 3), none⟩, ⟨.alloc [.slice none 0 0 none, .int .i64 (0), .int .i64 (0), .slice none 0 0 none, .int .i64 (0), .int .i64 (0)], none⟩, ⟨.store 6 (.l 6) (.l 4), none⟩, ⟨.mv (.l 5), none⟩] [(9, 6), (10, 8)])
 (.seq (.region [⟨.mv (.t 10), none⟩] [(12, 0)])
 (.cond (.t 12) (.region [⟨.load true 6 (.t 9), none⟩, ⟨.store 6 (.t 6) (.l 0), none⟩] []) .skip))))))
 (.region [⟨.mv (.t 7), none⟩, ⟨.bin 0 .sub (.l 0) (.c (.int .i64 (1))), none⟩, ⟨.mv (.l 1), none⟩] [(7, 2)])))
def c_s_DrawDoTasks : ACode :=
 (.seq (.region [⟨.alloc [.slice none 0 0 none, .int .i64 (0), .int .i64 (0), .slice none 0 0 none, .int .i64 (0), .int .i64 (0)], none⟩, ⟨.mv (.c (.slice none 0 0 none)), none⟩] [(1, 0), (2, 1)])
 (.seq (.region [⟨.mv (.t 0), none⟩, ⟨.build [.slice none 0 0 none, .int .i64 (0), .int .u64 (0)] [(0, 1, (.l 0))], none⟩, ⟨.box (.l 1), none⟩, ⟨.mv (.l 2), none⟩] [(3, 3)])
 (.seq (.region [⟨.mv (.t 3), none⟩, ⟨.call (.c (.fn f_s_l1Cur_stand [] [])) [(.l 0)], none⟩, ⟨.alloc [.slice none 0 0 none, .int .i64 (0), .int .i64 (0), .slice none 0 0 none, .int .i64 (0), .int .i64 (0)], none⟩, ⟨.store 6 (.l 2) (.l 1), none⟩] [(4, 2)])
 (.seq (.region [⟨.buildSlice 4 0 [] [], none⟩, ⟨.mv (.l 0), none⟩] [(5, 1)])
 (.seq (.region [⟨.load true 6 (.t 4), none⟩, ⟨.alloc [.slice none 0 0 none, .int .i64 (0), .int .i64 (0), .slice none 0 0 none, .int .i64 (0), .int .i64 (0)], none⟩, ⟨.store 6 (.l 1) (.l 0), none⟩] [(6, 1)])
 (.seq (.seq (.region [⟨.mv (.t 3), none⟩, ⟨.call (.c (.fn f_s_l1Cur_pick [] [])) [(.l 0), (.c (.int .i64 (6)))], none⟩, ⟨.mv (.l 1), none⟩] [(7, 2)])
 (.block 0 (.loop w_s_DrawDoTasks_1)))
 (.seq (.region [⟨.load true 6 (.t 4), none⟩, ⟨.mv (.t 5), none⟩, ⟨.store 6 (.t 1) (.l 0), none⟩, ⟨.mv (.l 1), none⟩] [(2, 3)])
 .ret)))))))
def a_s_DrawDoTasks : AFun := ⟨[0, 2, 3, 4, 5, 6, 7, 8, 9, 10, 11, 26, 42], 46, c_s_DrawDoTasks, [.cell 1 true 6, .tmp 2], 2⟩
def w_i_DoTasks_1 : ACode :=
 (.seq (.region [⟨.bin 0 .lss (.t 14) (.t 13), none⟩] [(15, 0)])
 (.seq (.cond (.t 15) .skip (.exit 0))
 (.seq (.block 1 (.seq (.region [⟨.mv (.t 14), none⟩, ⟨.indexAddrS 4 (.t 12) (.t 14), none⟩, ⟨.load true 4 (.l 1), none⟩, ⟨.alloc [.int .i64 (0), .int .i64 (0), .int .i64 (0), .int .i64 (0)], none⟩, ⟨.mv (.l 0), none⟩, ⟨.store 4 (.l 3) (.l 2), none⟩] [(7, 4), (8, 3)])
 (.seq (.region [⟨.load true 6 (.t 6), none⟩, ⟨.load true 4 (.t 8), none⟩, ⟨.call (.c (.fn f_i_DoTask [] [])) [(.l 0), (.l 1)], none⟩, ⟨.mv (.l 2), none⟩, ⟨.extract 0 (.l 3), none⟩, ⟨.extract 1 (.l 3), none⟩, ⟨.alloc [.slice none 0 0 none, .int .i64 (0), .int .i64 (0), .slice none 0 0 none, .int .i64 (0), .int .i64 (0)], none⟩, ⟨.store 6 (.l 6) (.l 4), none⟩, ⟨.mv (.l 5), none⟩] [(9, 6), (10, 8)])
 (.seq (.seq (.region [⟨.mv (.t 10), none⟩, ⟨.un .not (.l 0), none⟩] [(16, 1)])
 (.cond (.t 16) (.seq (.region [⟨.load true 6 (.t 6), none⟩, ⟨.mv (.t 7), none⟩, ⟨.store 6 (.t 3) (.l 0), none⟩, ⟨.mv (.l 1), none⟩, ⟨.mv (.c (.bool true)), none⟩] [(4, 3), (5, 4)])
 .ret) .skip))
 (.region [⟨.load true 6 (.t 9), none⟩, ⟨.store 6 (.t 6) (.l 0), none⟩] [])))))
 (.region [⟨.bin 0 .add (.t 14) (.c (.int .i64 (1))), none⟩, ⟨.mv (.l 0), none⟩] [(14, 1)]))))
def c_i_DoTasks : ACode :=
 (.seq (.region [⟨.box (.t 0), none⟩, ⟨.alloc [.slice none 0 0 none, .int .i64 (0), .int .i64 (0), .slice none 0 0 none, .int .i64 (0), .int .i64 (0)], none⟩, ⟨.mv (.c (.int .i64 (0))), none⟩, ⟨.mv (.c (.bool false)), none⟩] [(2, 0), (3, 1), (4, 2), (5, 3)])
 (.seq (.seq (.region [⟨.load true 6 (.t 2), none⟩, ⟨.call (.c (.fn f_i_IsStand [] [])) [(.l 0)], none⟩, ⟨.un .not (.l 1), none⟩] [(11, 2)])
 (.cond (.t 11) (.seq (.region [⟨.build [.slice none 0 0 none, .int .i64 (0), .int .i64 (0), .slice none 0 0 none, .int .i64 (0), .int .i64 (0)] [], none⟩, ⟨.store 6 (.t 3) (.l 0), none⟩, ⟨.mv (.c (.int .i64 (0))), none⟩, ⟨.mv (.c (.bool false)), none⟩] [(4, 2), (5, 3)])
 .ret) .skip))
 (.seq (.region [⟨.load true 6 (.t 2), none⟩, ⟨.call (.c (.fn f_i_copyStand [] [])) [(.l 0)], none⟩, ⟨.alloc [.slice none 0 0 none, .int .i64 (0), .int .i64 (0), .slice none 0 0 none, .int .i64 (0), .int .i64 (0)], none⟩, ⟨.store 6 (.l 2) (.l 1), none⟩] [(6, 2)])
 (.seq (.seq (.region [⟨.mv (.t 1), none⟩, ⟨.len (.l 0), none⟩, ⟨.mv (.c (.int .i64 (0))), none⟩] [(12, 0), (13, 1), (14, 2)])
 (.block 0 (.loop w_i_DoTasks_1)))
 (.seq (.region [⟨.load true 6 (.t 6), none⟩, ⟨.mv (.t 1), none⟩, ⟨.len (.l 1), none⟩, ⟨.store 6 (.t 3) (.l 0), none⟩, ⟨.mv (.l 2), none⟩, ⟨.mv (.c (.bool true)), none⟩] [(4, 4), (5, 5)])
 .ret)))))
def a_i_DoTasks : AFun := ⟨[0, 1, 2, 4, 5, 6, 7, 8, 9, 10, 11, 14, 18, 19, 20, 21, 32], 40, c_i_DoTasks, [.cell 3 true 6, .tmp 4, .tmp 5], 2⟩
def w_s_DoTasks_1 : ACode :=
 (.seq (.seq (.region [⟨.mv (.t 7), none⟩, ⟨.mv (.t 1), none⟩, ⟨.len (.l 1), none⟩, ⟨.bin 0 .lss (.l 0) (.l 2), none⟩] [(11, 3)])
 (.cond (.t 11) .skip (.exit 0)))
 (.seq (.block 1 (.seq (.draw [⟨.load true 6 (.t 6), none, []⟩, ⟨.mv (.t 1), none, []⟩, ⟨.mv (.t 7), none, []⟩, ⟨.indexAddrS 4 (.l 1) (.l 2), none, []⟩, ⟨.load true 4 (.l 3), none, []⟩, ⟨.call (.c (.fn f_s_l12Do [] [])) [(.l 0), (.l 4)], none, []⟩, ⟨.mv (.l 5), none, []⟩, ⟨.extract 0 (.l 6), none, []⟩, ⟨.extract 1 (.l 6), none, []⟩, ⟨.alloc [.slice none 0 0 none, .int .i64 (0), .int .i64 (0), .slice none 0 0 none, .int .i64 (0), .int .i64 (0)], none, [(0, ⟨.load true 6 (.t 6), none⟩), (4, ⟨.load true 4 (.l 3), none⟩)]⟩, ⟨.store 6 (.l 9) (.l 7), none, []⟩, ⟨.mv (.l 8), none, []⟩] [(8, 9), (9, 11)])
 (.seq (.seq (.region [⟨.mv (.t 9), none⟩, ⟨.un .not (.l 0), none⟩] [(12, 1)])
 (.cond (.t 12) (.seq (.region [⟨.load true 6 (.t 6), none⟩, ⟨.mv (.t 7), none⟩, ⟨.store 6 (.t 3) (.l 0), none⟩, ⟨.mv (.l 1), none⟩, ⟨.mv (.c (.bool true)), none⟩] [(4, 3), (5, 4)])
 .ret) .skip))
 (.region [⟨.load true 6 (.t 8), none⟩, ⟨.store 6 (.t 6) (.l 0), none⟩] []))))
 (.region [⟨.mv (.t 7), none⟩, ⟨.bin 0 .add (.l 0) (.c (.int .i64 (1))), none⟩, ⟨.mv (.l 1), none⟩] [(7, 2)])))
def c_s_DoTasks : ACode :=
 (.seq (.region [⟨.box (.t 0), none⟩, ⟨.alloc [.slice none 0 0 none, .int .i64 (0), .int .i64 (0), .slice none 0 0 none, .int .i64 (0), .int .i64 (0)], none⟩, ⟨.mv (.c (.int .i64 (0))), none⟩, ⟨.mv (.c (.bool false)), none⟩] [(2, 0), (3, 1), (4, 2), (5, 3)])
 (.seq (.seq (.region [⟨.load true 6 (.t 2), none⟩, ⟨.call (.c (.fn f_s_l12Good [] [])) [(.l 0)], none⟩, ⟨.un .not (.l 1), none⟩] [(10, 2)])
 (.cond (.t 10) (.seq (.region [⟨.build [.slice none 0 0 none, .int .i64 (0), .int .i64 (0), .slice none 0 0 none, .int .i64 (0), .int .i64 (0)] [], none⟩, ⟨.store 6 (.t 3) (.l 0), none⟩, ⟨.mv (.c (.int .i64 (0))), none⟩, ⟨.mv (.c (.bool false)), none⟩] [(4, 2), (5, 3)])
 .ret) .skip))
 (.seq (.region [⟨.load true 6 (.t 2), none⟩, ⟨.call (.c (.fn f_s_l12Own [] [])) [(.l 0)], none⟩, ⟨.alloc [.slice none 0 0 none, .int .i64 (0), .int .i64 (0), .slice none 0 0 none, .int .i64 (0), .int .i64 (0)], none⟩, ⟨.store 6 (.l 2) (.l 1), none⟩] [(6, 2)])
 (.seq (.seq (.region [⟨.mv (.c (.int .i64 (0))), none⟩] [(7, 0)])
 (.block 0 (.loop w_s_DoTasks_1)))
 (.seq (.region [⟨.load true 6 (.t 6), none⟩, ⟨.mv (.t 1), none⟩, ⟨.len (.l 1), none⟩, ⟨.store 6 (.t 3) (.l 0), none⟩, ⟨.mv (.l 2), none⟩, ⟨.mv (.c (.bool true)), none⟩] [(4, 4), (5, 5)])
 .ret)))))
def a_s_DoTasks : AFun := ⟨[0, 1, 2, 4, 5, 6, 7, 8, 9, 10, 13, 20, 33], 40, c_s_DoTasks, [.cell 3 true 6, .tmp 4, .tmp 5], 2⟩
def c_l_vStand : ACode :=
 (.seq (.region [⟨.box (.t 0), none⟩, ⟨.box (.t 1), none⟩, ⟨.mv (.c (.bool false)), none⟩] [(2, 0), (3, 1), (4, 2)])
 (.seq (.region [⟨.fieldAddr 0 (.t 2), none⟩, ⟨.load false 1 (.l 0), none⟩, ⟨.fieldAddr 0 (.t 3), none⟩, ⟨.load false 1 (.l 2), none⟩, ⟨.call (.c (.fn f_l_vRow [] [])) [(.l 1), (.l 3)], none⟩, ⟨.mv (.l 4), none⟩, ⟨.fieldAddr 1 (.t 2), some ((.l 5), true)⟩, ⟨.load false 1 (.l 6), some ((.l 5), true)⟩, ⟨.fieldAddr 1 (.t 3), some ((.l 5), true)⟩, ⟨.load false 1 (.l 8), some ((.l 5), true)⟩, ⟨.bin 0 .eql (.l 7) (.l 9), some ((.l 5), true)⟩, ⟨.pick (.l 5) (.l 10) (.c (.bool false)), none⟩, ⟨.mv (.l 11), none⟩, ⟨.fieldAddr 2 (.t 2), some ((.l 12), true)⟩, ⟨.load false 1 (.l 13), some ((.l 12), true)⟩, ⟨.fieldAddr 2 (.t 3), some ((.l 12), true)⟩, ⟨.load false 1 (.l 15), some ((.l 12), true)⟩, ⟨.bin 0 .eql (.l 14) (.l 16), some ((.l 12), true)⟩, ⟨.pick (.l 12) (.l 17) (.c (.bool false)), none⟩, ⟨.mv (.l 18), none⟩, ⟨.fieldAddr 3 (.t 2), some ((.l 19), true)⟩, ⟨.load false 1 (.l 20), some ((.l 19), true)⟩, ⟨.fieldAddr 3 (.t 3), some ((.l 19), true)⟩, ⟨.load false 1 (.l 22), some ((.l 19), true)⟩, ⟨.call (.c (.fn f_l_vChain [] [])) [(.l 21), (.l 23)], some ((.l 19), true)⟩, ⟨.pick (.l 19) (.l 24) (.c (.bool false)), none⟩, ⟨.mv (.l 25), none⟩, ⟨.fieldAddr 4 (.t 2), some ((.l 26), true)⟩, ⟨.load false 1 (.l 27), some ((.l 26), true)⟩, ⟨.fieldAddr 4 (.t 3), some ((.l 26), true)⟩, ⟨.load false 1 (.l 29), some ((.l 26), true)⟩, ⟨.bin 0 .eql (.l 28) (.l 30), some ((.l 26), true)⟩, ⟨.pick (.l 26) (.l 31) (.c (.bool false)), none⟩, ⟨.mv (.l 32), none⟩, ⟨.fieldAddr 5 (.t 2), some ((.l 33), true)⟩, ⟨.load false 1 (.l 34), some ((.l 33), true)⟩, ⟨.fieldAddr 5 (.t 3), some ((.l 33), true)⟩, ⟨.load false 1 (.l 36), some ((.l 33), true)⟩, ⟨.bin 0 .eql (.l 35) (.l 37), some ((.l 33), true)⟩, ⟨.pick (.l 33) (.l 38) (.c (.bool false)), none⟩, ⟨.mv (.l 39), none⟩] [(4, 40)])
 .ret))
def a_l_vStand : AFun := ⟨[0, 1, 2, 3, 4], 45, c_l_vStand, [.tmp 4], 1⟩
def c_i_TipSide : ACode :=
 (.seq (.region [⟨.mv (.c (.int .i64 (0))), none⟩, ⟨.mv (.c (.bool false)), none⟩] [(3, 0), (4, 1)])
 (.seq (.seq (.region [⟨.mv (.t 0), none⟩, ⟨.call (.c (.fn f_i_IsRow [] [])) [(.l 0)], none⟩, ⟨.un .not (.l 1), none⟩, ⟨.mv (.l 2), none⟩, ⟨.mv (.t 1), some ((.l 3), false)⟩, ⟨.mv (.t 2), some ((.l 3), false)⟩, ⟨.call (.c (.fn f_i_isBase [] [])) [(.l 4), (.l 5)], some ((.l 3), false)⟩, ⟨.un .not (.l 6), some ((.l 3), false)⟩, ⟨.pick (.l 3) (.c (.bool true)) (.l 7), none⟩] [(5, 8)])
 (.cond (.t 5) (.seq (.region [⟨.mv (.c (.int .i64 (0))), none⟩, ⟨.mv (.c (.bool false)), none⟩] [(3, 0), (4, 1)])
 .ret) .skip))
 (.seq (.region [⟨.mv (.t 0), none⟩, ⟨.mv (.t 1), none⟩, ⟨.mv (.t 2), none⟩, ⟨.call (.c (.fn f_i_tipSide [] [])) [(.l 0), (.l 1), (.l 2)], none⟩, ⟨.mv (.l 3), none⟩, ⟨.mv (.c (.bool true)), none⟩] [(3, 4), (4, 5)])
 .ret)))
def a_i_TipSide : AFun := ⟨[0, 1, 2, 6, 7, 16], 21, c_i_TipSide, [.tmp 3, .tmp 4], 1⟩
def w_l_vRow_1 : ACode :=
 (.seq (.seq (.region [⟨.mv (.t 3), none⟩, ⟨.mv (.t 0), none⟩, ⟨.len (.l 1), none⟩, ⟨.bin 0 .lss (.l 0) (.l 2), none⟩] [(5, 3)])
 (.cond (.t 5) .skip (.exit 0)))
 (.seq (.block 1 (.seq (.draw [⟨.mv (.t 0), none, []⟩, ⟨.mv (.t 3), none, []⟩, ⟨.indexAddrS 2 (.l 0) (.l 1), none, []⟩, ⟨.load true 2 (.l 2), none, []⟩, ⟨.mv (.t 1), none, []⟩, ⟨.mv (.t 3), none, []⟩, ⟨.indexAddrS 2 (.l 4) (.l 5), none, []⟩, ⟨.load true 2 (.l 6), none, []⟩, ⟨.eqCells [0, 0] true (.l 3) (.l 7), none, []⟩] [(6, 8)])
 (.cond (.t 6) (.seq (.region [⟨.mv (.c (.bool false)), none⟩] [(2, 0)])
 .ret) .skip)))
 (.region [⟨.mv (.t 3), none⟩, ⟨.bin 0 .add (.l 0) (.c (.int .i64 (1))), none⟩, ⟨.mv (.l 1), none⟩] [(3, 2)])))
def c_l_vRow : ACode :=
 (.seq (.region [⟨.mv (.c (.bool false)), none⟩] [(2, 0)])
 (.seq (.seq (.region [⟨.mv (.t 0), none⟩, ⟨.len (.l 0), none⟩, ⟨.mv (.t 1), none⟩, ⟨.len (.l 2), none⟩, ⟨.bin 0 .neq (.l 1) (.l 3), none⟩] [(4, 4)])
 (.cond (.t 4) (.seq (.region [⟨.mv (.c (.bool false)), none⟩] [(2, 0)])
 .ret) .skip))
 (.seq (.seq (.region [⟨.mv (.c (.int .i64 (0))), none⟩] [(3, 0)])
 (.block 0 (.loop w_l_vRow_1)))
 (.seq (.region [⟨.mv (.c (.bool true)), none⟩] [(2, 0)])
 .ret))))
def a_l_vRow : AFun := ⟨[0, 1, 4, 5, 10, 14, 25], 26, c_l_vRow, [.tmp 2], 1⟩
def w_l_vChain_1 : ACode :=
 (.seq (.seq (.region [⟨.mv (.t 3), none⟩, ⟨.mv (.t 0), none⟩, ⟨.len (.l 1), none⟩, ⟨.bin 0 .lss (.l 0) (.l 2), none⟩] [(5, 3)])
 (.cond (.t 5) .skip (.exit 0)))
 (.seq (.block 1 (.seq (.draw [⟨.mv (.t 0), none, []⟩, ⟨.mv (.t 3), none, []⟩, ⟨.indexAddrS 3 (.l 0) (.l 1), none, []⟩, ⟨.load true 3 (.l 2), none, []⟩, ⟨.mv (.t 1), none, []⟩, ⟨.mv (.t 3), none, []⟩, ⟨.indexAddrS 3 (.l 4) (.l 5), none, []⟩, ⟨.load true 3 (.l 6), none, []⟩, ⟨.eqCells [0, 0, 0] true (.l 3) (.l 7), none, []⟩] [(6, 8)])
 (.cond (.t 6) (.seq (.region [⟨.mv (.c (.bool false)), none⟩] [(2, 0)])
 .ret) .skip)))
 (.region [⟨.mv (.t 3), none⟩, ⟨.bin 0 .add (.l 0) (.c (.int .i64 (1))), none⟩, ⟨.mv (.l 1), none⟩] [(3, 2)])))
def c_l_vChain : ACode :=
 (.seq (.region [⟨.mv (.c (.bool false)), none⟩] [(2, 0)])
 (.seq (.seq (.region [⟨.mv (.t 0), none⟩, ⟨.len (.l 0), none⟩, ⟨.mv (.t 1), none⟩, ⟨.len (.l 2), none⟩, ⟨.bin 0 .neq (.l 1) (.l 3), none⟩] [(4, 4)])
 (.cond (.t 4) (.seq (.region [⟨.mv (.c (.bool false)), none⟩] [(2, 0)])
 .ret) .skip))
 (.seq (.seq (.region [⟨.mv (.c (.int .i64 (0))), none⟩] [(3, 0)])
 (.block 0 (.loop w_l_vChain_1)))
 (.seq (.region [⟨.mv (.c (.bool true)), none⟩] [(2, 0)])
 .ret))))
def a_l_vChain : AFun := ⟨[0, 1, 4, 5, 10, 14, 25], 26, c_l_vChain, [.tmp 2], 1⟩
def c_s_DrawRowPull : ACode :=
 (.seq (.region [⟨.alloc [.slice none 0 0 none, .int .i64 (0), .int .i64 (0), .slice none 0 0 none, .int .i64 (0), .int .i64 (0)], none⟩] [(1, 0)])
 (.seq (.region [⟨.mv (.t 0), none⟩, ⟨.call (.c (.fn f_s_DrawIsStand [] [])) [(.l 0)], none⟩, ⟨.store 6 (.t 1) (.l 1), none⟩] [])
 .ret))
def a_s_DrawRowPull : AFun := ⟨[0, 2], 5, c_s_DrawRowPull, [.cell 1 true 6], 2⟩
def c_i_WeightOf : ACode :=
 (.seq (.region [⟨.mv (.c (.int .i64 (0))), none⟩, ⟨.mv (.c (.bool false)), none⟩] [(1, 0), (2, 1)])
 (.seq (.seq (.region [⟨.mv (.t 0), none⟩, ⟨.call (.c (.fn f_i_IsRow [] [])) [(.l 0)], none⟩, ⟨.un .not (.l 1), none⟩] [(3, 2)])
 (.cond (.t 3) (.seq (.region [⟨.mv (.c (.int .i64 (0))), none⟩, ⟨.mv (.c (.bool false)), none⟩] [(1, 0), (2, 1)])
 .ret) .skip))
 (.seq (.region [⟨.mv (.t 0), none⟩, ⟨.call (.c (.fn f_i_weightOf [] [])) [(.l 0)], none⟩, ⟨.mv (.l 1), none⟩, ⟨.mv (.c (.bool true)), none⟩] [(1, 2), (2, 3)])
 .ret)))
def a_i_WeightOf : AFun := ⟨[0, 2, 3, 6], 9, c_i_WeightOf, [.tmp 1, .tmp 2], 1⟩
def c_i_LeastPull : ACode :=
 (.seq (.region [⟨.mv (.c (.int .i64 (0))), none⟩, ⟨.mv (.c (.bool false)), none⟩] [(2, 0), (3, 1)])
 (.seq (.region [⟨.mv (.t 0), none⟩, ⟨.mv (.t 1), none⟩, ⟨.call (.c (.fn f_i_PullFor [] [])) [(.l 0), (.l 1)], none⟩, ⟨.mv (.l 2), none⟩, ⟨.extract 0 (.l 3), none⟩, ⟨.extract 1 (.l 3), none⟩, ⟨.alloc [.int .i64 (0), .int .i64 (0)], none⟩, ⟨.store 2 (.l 6) (.l 4), none⟩, ⟨.mv (.l 5), none⟩] [(4, 6), (5, 8)])
 (.seq (.seq (.region [⟨.mv (.t 5), none⟩, ⟨.un .not (.l 0), none⟩] [(6, 1)])
 (.cond (.t 6) (.seq (.region [⟨.mv (.c (.int .i64 (0))), none⟩, ⟨.mv (.c (.bool false)), none⟩] [(2, 0), (3, 1)])
 .ret) .skip))
 (.seq (.region [⟨.indexAddrA 2 1 (.t 4) (.c (.int .i64 (0))), none⟩, ⟨.load false 1 (.l 0), none⟩, ⟨.indexAddrA 2 1 (.t 4) (.c (.int .i64 (1))), none⟩, ⟨.load false 1 (.l 2), none⟩, ⟨.bin 0 .add (.l 1) (.l 3), none⟩, ⟨.bin 0 .sub (.l 4) (.c (.int .i64 (1))), none⟩, ⟨.indexAddrA 2 1 (.t 4) (.c (.int .i64 (1))), none⟩, ⟨.load false 1 (.l 6), none⟩, ⟨.bin 0 .quo (.l 5) (.l 7), none⟩, ⟨.mv (.l 8), none⟩, ⟨.mv (.c (.bool true)), none⟩] [(2, 9), (3, 10)])
 .ret))))
def a_i_LeastPull : AFun := ⟨[0, 1, 4, 5, 6, 7, 15], 25, c_i_LeastPull, [.tmp 2, .tmp 3], 1⟩
def c_i_ChainGain : ACode :=
 (.seq (.region [⟨.alloc [.int .i64 (0), .int .i64 (0)], none⟩, ⟨.mv (.c (.bool false)), none⟩] [(1, 0), (2, 1)])
 (.seq (.seq (.region [⟨.mv (.t 0), none⟩, ⟨.call (.c (.fn f_i_isChain [] [])) [(.l 0)], none⟩, ⟨.un .not (.l 1), none⟩] [(3, 2)])
 (.cond (.t 3) (.seq (.region [⟨.build [.int .i64 (0), .int .i64 (0)] [], none⟩, ⟨.store 2 (.t 1) (.l 0), none⟩, ⟨.mv (.c (.bool false)), none⟩] [(2, 2)])
 .ret) .skip))
 (.seq (.region [⟨.mv (.t 0), none⟩, ⟨.call (.c (.fn f_i_chainGain [] [])) [(.l 0)], none⟩, ⟨.store 2 (.t 1) (.l 1), none⟩, ⟨.mv (.c (.bool true)), none⟩] [(2, 3)])
 .ret)))
def a_i_ChainGain : AFun := ⟨[0, 2, 3, 6], 10, c_i_ChainGain, [.cell 1 true 2, .tmp 2], 1⟩
def c_l_szTaskS : ACode :=
 (.seq (.region [⟨.mv (.c (.int .i64 (0))), none⟩] [(2, 0)])
 (.seq (.region [⟨.mv (.t 1), none⟩, ⟨.mv (.t 0), none⟩, ⟨.len (.l 1), none⟩, ⟨.bin 0 .sub (.l 0) (.l 2), none⟩, ⟨.mv (.l 3), none⟩] [(1, 4)])
 (.seq (.seq (.region [⟨.mv (.t 1), none⟩, ⟨.bin 0 .lss (.l 0) (.c (.int .i64 (0))), none⟩] [(3, 1)])
 (.cond (.t 3) (.seq (.region [⟨.mv (.c (.int .i64 (-1))), none⟩] [(2, 0)])
 .ret) .skip))
 (.seq (.region [⟨.mv (.t 1), none⟩, ⟨.mv (.l 0), none⟩] [(2, 1)])
 .ret))))
def a_l_szTaskS : AFun := ⟨[0, 1, 4, 10], 12, c_l_szTaskS, [.tmp 2], 1⟩
def w_l_toTaskS_1 : ACode :=
 (.seq (.seq (.region [⟨.mv (.t 3), none⟩, ⟨.mv (.t 0), none⟩, ⟨.len (.l 1), none⟩, ⟨.bin 0 .lss (.l 0) (.l 2), none⟩] [(4, 3)])
 (.cond (.t 4) .skip (.exit 0)))
 (.seq (.block 1 (.region [⟨.mv (.t 2), none⟩, ⟨.mv (.t 3), none⟩, ⟨.mv (.t 0), none⟩, ⟨.mv (.t 3), none⟩, ⟨.indexAddrS 4 (.l 2) (.l 3), none⟩, ⟨.load true 4 (.l 4), none⟩, ⟨.call (.c (.fn f_l_toTask [] [])) [(.l 5)], none⟩, ⟨.indexAddrS 4 (.l 0) (.l 1), none⟩, ⟨.store 4 (.l 7) (.l 6), none⟩] []))
 (.region [⟨.mv (.t 3), none⟩, ⟨.bin 0 .add (.l 0) (.c (.int .i64 (1))), none⟩, ⟨.mv (.l 1), none⟩] [(3, 2)])))
def c_l_toTaskS : ACode :=
 (.seq (.region [⟨.mv (.c (.slice none 0 0 none)), none⟩] [(1, 0)])
 (.seq (.region [⟨.mv (.t 0), none⟩, ⟨.len (.l 0), none⟩, ⟨.makeSlice 4 32 [.int .i64 (0), .int .i64 (0), .int .i64 (0), .int .i64 (0)] (.l 1) (.l 1), none⟩, ⟨.mv (.l 2), none⟩] [(2, 3)])
 (.seq (.seq (.region [⟨.mv (.c (.int .i64 (0))), none⟩] [(3, 0)])
 (.block 0 (.loop w_l_toTaskS_1)))
 (.seq (.region [⟨.mv (.t 2), none⟩, ⟨.mv (.l 0), none⟩] [(1, 1)])
 .ret))))
def a_l_toTaskS : AFun := ⟨[0, 2, 3, 4, 11], 23, c_l_toTaskS, [.tmp 1], 2⟩
def w_l_eqTaskS_1 : ACode :=
 (.seq (.seq (.region [⟨.mv (.t 3), none⟩, ⟨.mv (.t 0), none⟩, ⟨.len (.l 1), none⟩, ⟨.bin 0 .lss (.l 0) (.l 2), none⟩] [(5, 3)])
 (.cond (.t 5) .skip (.exit 0)))
 (.seq (.block 1 (.seq (.draw [⟨.mv (.t 0), none, []⟩, ⟨.mv (.t 3), none, []⟩, ⟨.indexAddrS 4 (.l 0) (.l 1), none, []⟩, ⟨.load true 4 (.l 2), none, []⟩, ⟨.mv (.t 1), none, []⟩, ⟨.mv (.t 3), none, []⟩, ⟨.indexAddrS 4 (.l 4) (.l 5), none, []⟩, ⟨.load true 4 (.l 6), none, []⟩, ⟨.call (.c (.fn f_l_eqTask [] [])) [(.l 3), (.l 7)], none, []⟩, ⟨.un .not (.l 8), none, []⟩] [(6, 9)])
 (.cond (.t 6) (.seq (.region [⟨.mv (.c (.bool false)), none⟩] [(2, 0)])
 .ret) .skip)))
 (.region [⟨.mv (.t 3), none⟩, ⟨.bin 0 .add (.l 0) (.c (.int .i64 (1))), none⟩, ⟨.mv (.l 1), none⟩] [(3, 2)])))
def c_l_eqTaskS : ACode :=
 (.seq (.region [⟨.mv (.c (.bool false)), none⟩] [(2, 0)])
 (.seq (.seq (.region [⟨.mv (.t 0), none⟩, ⟨.len (.l 0), none⟩, ⟨.mv (.t 1), none⟩, ⟨.len (.l 2), none⟩, ⟨.bin 0 .neq (.l 1) (.l 3), none⟩] [(4, 4)])
 (.cond (.t 4) (.seq (.region [⟨.mv (.c (.bool false)), none⟩] [(2, 0)])
 .ret) .skip))
 (.seq (.seq (.region [⟨.mv (.c (.int .i64 (0))), none⟩] [(3, 0)])
 (.block 0 (.loop w_l_eqTaskS_1)))
 (.seq (.region [⟨.mv (.c (.bool true)), none⟩] [(2, 0)])
 .ret))))
def a_l_eqTaskS : AFun := ⟨[0, 1, 4, 5, 10, 14, 26], 27, c_l_eqTaskS, [.tmp 2], 1⟩
def w_l_markTaskS_1 : ACode :=
 (.seq (.seq (.region [⟨.mv (.t 3), none⟩, ⟨.mv (.t 0), none⟩, ⟨.len (.l 1), none⟩, ⟨.bin 0 .lss (.l 0) (.l 2), none⟩] [(4, 3)])
 (.cond (.t 4) .skip (.exit 0)))
 (.seq (.block 1 (.seq (.region [⟨.mv (.t 0), none⟩, ⟨.mv (.t 3), none⟩, ⟨.mv (.t 1), none⟩, ⟨.indexAddrS 4 (.l 0) (.l 1), none⟩, ⟨.fieldAddr 0 (.l 3), none⟩, ⟨.store 1 (.l 4) (.l 2), none⟩] [])
 (.seq (.region [⟨.mv (.t 1), none⟩, ⟨.bin 0 .add (.l 0) (.c (.int .i64 (1))), none⟩, ⟨.mv (.l 1), none⟩] [(1, 2)])
 (.seq (.region [⟨.mv (.t 0), none⟩, ⟨.mv (.t 3), none⟩, ⟨.mv (.t 1), none⟩, ⟨.indexAddrS 4 (.l 0) (.l 1), none⟩, ⟨.fieldAddr 1 (.l 3), none⟩, ⟨.store 1 (.l 4) (.l 2), none⟩] [])
 (.seq (.region [⟨.mv (.t 1), none⟩, ⟨.bin 0 .add (.l 0) (.c (.int .i64 (1))), none⟩, ⟨.mv (.l 1), none⟩] [(1, 2)])
 (.seq (.region [⟨.mv (.t 0), none⟩, ⟨.mv (.t 3), none⟩, ⟨.mv (.t 1), none⟩, ⟨.indexAddrS 4 (.l 0) (.l 1), none⟩, ⟨.fieldAddr 2 (.l 3), none⟩, ⟨.store 1 (.l 4) (.l 2), none⟩] [])
 (.seq (.region [⟨.mv (.t 1), none⟩, ⟨.bin 0 .add (.l 0) (.c (.int .i64 (1))), none⟩, ⟨.mv (.l 1), none⟩] [(1, 2)])
 (.seq (.region [⟨.mv (.t 0), none⟩, ⟨.mv (.t 3), none⟩, ⟨.mv (.t 1), none⟩, ⟨.indexAddrS 4 (.l 0) (.l 1), none⟩, ⟨.fieldAddr 3 (.l 3), none⟩, ⟨.store 1 (.l 4) (.l 2), none⟩] [])
 (.region [⟨.mv (.t 1), none⟩, ⟨.bin 0 .add (.l 0) (.c (.int .i64 (1))), none⟩, ⟨.mv (.l 1), none⟩] [(1, 2)])))))))))
 (.region [⟨.mv (.t 3), none⟩, ⟨.bin 0 .add (.l 0) (.c (.int .i64 (1))), none⟩, ⟨.mv (.l 1), none⟩] [(3, 2)])))
def c_l_markTaskS : ACode :=
 (.seq (.region [⟨.mv (.c (.int .i64 (0))), none⟩] [(2, 0)])
 (.seq (.seq (.region [⟨.mv (.c (.int .i64 (0))), none⟩] [(3, 0)])
 (.block 0 (.loop w_l_markTaskS_1)))
 (.seq (.region [⟨.mv (.t 1), none⟩, ⟨.mv (.l 0), none⟩] [(2, 1)])
 .ret)))
def a_l_markTaskS : AFun := ⟨[0, 1, 4, 5, 9], 41, c_l_markTaskS, [.tmp 2], 1⟩
def c_s_l2Base : ACode :=
 (.seq (.region [⟨.mv (.c (.bool false)), none⟩] [(2, 0)])
 (.seq (.region [⟨.mv (.t 0), none⟩, ⟨.call (.c (.fn f_s_l2In [] [])) [(.l 0)], none⟩, ⟨.mv (.l 1), none⟩, ⟨.mv (.t 1), some ((.l 2), true)⟩, ⟨.call (.c (.fn f_s_l2In [] [])) [(.l 3)], some ((.l 2), true)⟩, ⟨.pick (.l 2) (.l 4) (.c (.bool false)), none⟩, ⟨.mv (.l 5), none⟩, ⟨.mv (.t 0), some ((.l 6), true)⟩, ⟨.mv (.t 1), some ((.l 6), true)⟩, ⟨.bin 0 .leq (.l 7) (.l 8), some ((.l 6), true)⟩, ⟨.pick (.l 6) (.l 9) (.c (.bool false)), none⟩, ⟨.mv (.l 10), none⟩] [(2, 11)])
 .ret))
def a_s_l2Base : AFun := ⟨[0, 1, 4], 16, c_s_l2Base, [.tmp 2], 1⟩
def c_s_l12Own : ACode :=
 (.seq (.region [⟨.box (.t 0), none⟩, ⟨.alloc [.slice none 0 0 none, .int .i64 (0), .int .i64 (0), .slice none 0 0 none, .int .i64 (0), .int .i64 (0)], none⟩] [(1, 0), (2, 1)])
 (.seq (.region [⟨.load true 6 (.t 1), none⟩, ⟨.alloc [.slice none 0 0 none, .int .i64 (0), .int .i64 (0), .slice none 0 0 none, .int .i64 (0), .int .i64 (0)], none⟩, ⟨.store 6 (.l 1) (.l 0), none⟩] [(3, 1)])
 (.seq (.region [⟨.buildSlice 2 0 [] [], none⟩, ⟨.fieldAddr 0 (.t 1), none⟩, ⟨.load false 1 (.l 1), none⟩, ⟨.append false 2 16 (.l 0) (.l 2), none⟩, ⟨.fieldAddr 0 (.t 3), none⟩, ⟨.store 1 (.l 4) (.l 3), none⟩] [])
 (.seq (.region [⟨.buildSlice 3 0 [] [], none⟩, ⟨.fieldAddr 3 (.t 1), none⟩, ⟨.load false 1 (.l 1), none⟩, ⟨.append false 3 24 (.l 0) (.l 2), none⟩, ⟨.fieldAddr 3 (.t 3), none⟩, ⟨.store 1 (.l 4) (.l 3), none⟩] [])
 (.seq (.region [⟨.load true 6 (.t 3), none⟩, ⟨.store 6 (.t 2) (.l 0), none⟩] [])
 .ret)))))
def a_s_l12Own : AFun := ⟨[0, 1, 2, 3], 16, c_s_l12Own, [.cell 2 true 6], 2⟩
def w_l_eqLoadS_1 : ACode :=
 (.seq (.seq (.region [⟨.mv (.t 3), none⟩, ⟨.mv (.t 0), none⟩, ⟨.len (.l 1), none⟩, ⟨.bin 0 .lss (.l 0) (.l 2), none⟩] [(5, 3)])
 (.cond (.t 5) .skip (.exit 0)))
 (.seq (.block 1 (.seq (.draw [⟨.mv (.t 0), none, []⟩, ⟨.mv (.t 3), none, []⟩, ⟨.indexAddrS 2 (.l 0) (.l 1), none, []⟩, ⟨.load true 2 (.l 2), none, []⟩, ⟨.mv (.t 1), none, []⟩, ⟨.mv (.t 3), none, []⟩, ⟨.indexAddrS 2 (.l 4) (.l 5), none, []⟩, ⟨.load true 2 (.l 6), none, []⟩, ⟨.call (.c (.fn f_l_eqLoad [] [])) [(.l 3), (.l 7)], none, []⟩, ⟨.un .not (.l 8), none, []⟩] [(6, 9)])
 (.cond (.t 6) (.seq (.region [⟨.mv (.c (.bool false)), none⟩] [(2, 0)])
 .ret) .skip)))
 (.region [⟨.mv (.t 3), none⟩, ⟨.bin 0 .add (.l 0) (.c (.int .i64 (1))), none⟩, ⟨.mv (.l 1), none⟩] [(3, 2)])))
def c_l_eqLoadS : ACode :=
 (.seq (.region [⟨.mv (.c (.bool false)), none⟩] [(2, 0)])
 (.seq (.seq (.region [⟨.mv (.t 0), none⟩, ⟨.len (.l 0), none⟩, ⟨.mv (.t 1), none⟩, ⟨.len (.l 2), none⟩, ⟨.bin 0 .neq (.l 1) (.l 3), none⟩] [(4, 4)])
 (.cond (.t 4) (.seq (.region [⟨.mv (.c (.bool false)), none⟩] [(2, 0)])
 .ret) .skip))
 (.seq (.seq (.region [⟨.mv (.c (.int .i64 (0))), none⟩] [(3, 0)])
 (.block 0 (.loop w_l_eqLoadS_1)))
 (.seq (.region [⟨.mv (.c (.bool true)), none⟩] [(2, 0)])
 .ret))))
def a_l_eqLoadS : AFun := ⟨[0, 1, 4, 5, 10, 14, 26], 27, c_l_eqLoadS, [.tmp 2], 1⟩
def w_l_eqStageS_1 : ACode :=
 (.seq (.seq (.region [⟨.mv (.t 3), none⟩, ⟨.mv (.t 0), none⟩, ⟨.len (.l 1), none⟩, ⟨.bin 0 .lss (.l 0) (.l 2), none⟩] [(5, 3)])
 (.cond (.t 5) .skip (.exit 0)))
 (.seq (.block 1 (.seq (.draw [⟨.mv (.t 0), none, []⟩, ⟨.mv (.t 3), none, []⟩, ⟨.indexAddrS 3 (.l 0) (.l 1), none, []⟩, ⟨.load true 3 (.l 2), none, []⟩, ⟨.mv (.t 1), none, []⟩, ⟨.mv (.t 3), none, []⟩, ⟨.indexAddrS 3 (.l 4) (.l 5), none, []⟩, ⟨.load true 3 (.l 6), none, []⟩, ⟨.call (.c (.fn f_l_eqStage [] [])) [(.l 3), (.l 7)], none, []⟩, ⟨.un .not (.l 8), none, []⟩] [(6, 9)])
 (.cond (.t 6) (.seq (.region [⟨.mv (.c (.bool false)), none⟩] [(2, 0)])
 .ret) .skip)))
 (.region [⟨.mv (.t 3), none⟩, ⟨.bin 0 .add (.l 0) (.c (.int .i64 (1))), none⟩, ⟨.mv (.l 1), none⟩] [(3, 2)])))
def c_l_eqStageS : ACode :=
 (.seq (.region [⟨.mv (.c (.bool false)), none⟩] [(2, 0)])
 (.seq (.seq (.region [⟨.mv (.t 0), none⟩, ⟨.len (.l 0), none⟩, ⟨.mv (.t 1), none⟩, ⟨.len (.l 2), none⟩, ⟨.bin 0 .neq (.l 1) (.l 3), none⟩] [(4, 4)])
 (.cond (.t 4) (.seq (.region [⟨.mv (.c (.bool false)), none⟩] [(2, 0)])
 .ret) .skip))
 (.seq (.seq (.region [⟨.mv (.c (.int .i64 (0))), none⟩] [(3, 0)])
 (.block 0 (.loop w_l_eqStageS_1)))
 (.seq (.region [⟨.mv (.c (.bool true)), none⟩] [(2, 0)])
 .ret))))
def a_l_eqStageS : AFun := ⟨[0, 1, 4, 5, 10, 14, 26], 27, c_l_eqStageS, [.tmp 2], 1⟩
def w_l_markLoadS_1 : ACode :=
 (.seq (.seq (.region [⟨.mv (.t 3), none⟩, ⟨.mv (.t 0), none⟩, ⟨.len (.l 1), none⟩, ⟨.bin 0 .lss (.l 0) (.l 2), none⟩] [(4, 3)])
 (.cond (.t 4) .skip (.exit 0)))
 (.seq (.block 1 (.seq (.region [⟨.mv (.t 0), none⟩, ⟨.mv (.t 3), none⟩, ⟨.mv (.t 1), none⟩, ⟨.indexAddrS 2 (.l 0) (.l 1), none⟩, ⟨.fieldAddr 0 (.l 3), none⟩, ⟨.store 1 (.l 4) (.l 2), none⟩] [])
 (.seq (.region [⟨.mv (.t 1), none⟩, ⟨.bin 0 .add (.l 0) (.c (.int .i64 (1))), none⟩, ⟨.mv (.l 1), none⟩] [(1, 2)])
 (.seq (.region [⟨.mv (.t 0), none⟩, ⟨.mv (.t 3), none⟩, ⟨.mv (.t 1), none⟩, ⟨.indexAddrS 2 (.l 0) (.l 1), none⟩, ⟨.fieldAddr 1 (.l 3), none⟩, ⟨.store 1 (.l 4) (.l 2), none⟩] [])
 (.region [⟨.mv (.t 1), none⟩, ⟨.bin 0 .add (.l 0) (.c (.int .i64 (1))), none⟩, ⟨.mv (.l 1), none⟩] [(1, 2)])))))
 (.region [⟨.mv (.t 3), none⟩, ⟨.bin 0 .add (.l 0) (.c (.int .i64 (1))), none⟩, ⟨.mv (.l 1), none⟩] [(3, 2)])))
def c_l_markLoadS : ACode :=
 (.seq (.region [⟨.mv (.c (.int .i64 (0))), none⟩] [(2, 0)])
 (.seq (.seq (.region [⟨.mv (.c (.int .i64 (0))), none⟩] [(3, 0)])
 (.block 0 (.loop w_l_markLoadS_1)))
 (.seq (.region [⟨.mv (.t 1), none⟩, ⟨.mv (.l 0), none⟩] [(2, 1)])
 .ret)))
def a_l_markLoadS : AFun := ⟨[0, 1, 4, 5, 9], 27, c_l_markLoadS, [.tmp 2], 1⟩
def w_l_markStageS_1 : ACode :=
 (.seq (.seq (.region [⟨.mv (.t 3), none⟩, ⟨.mv (.t 0), none⟩, ⟨.len (.l 1), none⟩, ⟨.bin 0 .lss (.l 0) (.l 2), none⟩] [(4, 3)])
 (.cond (.t 4) .skip (.exit 0)))
 (.seq (.block 1 (.seq (.region [⟨.mv (.t 0), none⟩, ⟨.mv (.t 3), none⟩, ⟨.mv (.t 1), none⟩, ⟨.indexAddrS 3 (.l 0) (.l 1), none⟩, ⟨.fieldAddr 0 (.l 3), none⟩, ⟨.store 1 (.l 4) (.l 2), none⟩] [])
 (.seq (.region [⟨.mv (.t 1), none⟩, ⟨.bin 0 .add (.l 0) (.c (.int .i64 (1))), none⟩, ⟨.mv (.l 1), none⟩] [(1, 2)])
 (.seq (.region [⟨.mv (.t 0), none⟩, ⟨.mv (.t 3), none⟩, ⟨.mv (.t 1), none⟩, ⟨.indexAddrS 3 (.l 0) (.l 1), none⟩, ⟨.fieldAddr 1 (.l 3), none⟩, ⟨.store 1 (.l 4) (.l 2), none⟩] [])
 (.seq (.region [⟨.mv (.t 1), none⟩, ⟨.bin 0 .add (.l 0) (.c (.int .i64 (1))), none⟩, ⟨.mv (.l 1), none⟩] [(1, 2)])
 (.seq (.region [⟨.mv (.t 0), none⟩, ⟨.mv (.t 3), none⟩, ⟨.mv (.t 1), none⟩, ⟨.indexAddrS 3 (.l 0) (.l 1), none⟩, ⟨.fieldAddr 2 (.l 3), none⟩, ⟨.store 1 (.l 4) (.l 2), none⟩] [])
 (.region [⟨.mv (.t 1), none⟩, ⟨.bin 0 .add (.l 0) (.c (.int .i64 (1))), none⟩, ⟨.mv (.l 1), none⟩] [(1, 2)])))))))
 (.region [⟨.mv (.t 3), none⟩, ⟨.bin 0 .add (.l 0) (.c (.int .i64 (1))), none⟩, ⟨.mv (.l 1), none⟩] [(3, 2)])))
def c_l_markStageS : ACode :=
 (.seq (.region [⟨.mv (.c (.int .i64 (0))), none⟩] [(2, 0)])
 (.seq (.seq (.region [⟨.mv (.c (.int .i64 (0))), none⟩] [(3, 0)])
 (.block 0 (.loop w_l_markStageS_1)))
 (.seq (.region [⟨.mv (.t 1), none⟩, ⟨.mv (.l 0), none⟩] [(2, 1)])
 .ret)))
def a_l_markStageS : AFun := ⟨[0, 1, 4, 5, 9], 34, c_l_markStageS, [.tmp 2], 1⟩
def w_l_heldLoadS_1 : ACode :=
 (.seq (.seq (.region [⟨.mv (.t 3), none⟩, ⟨.mv (.t 0), none⟩, ⟨.len (.l 1), none⟩, ⟨.bin 0 .lss (.l 0) (.l 2), none⟩] [(4, 3)])
 (.cond (.t 4) .skip (.exit 0)))
 (.seq (.block 1 (.seq (.seq (.region [⟨.mv (.t 0), none⟩, ⟨.mv (.t 3), none⟩, ⟨.indexAddrS 2 (.l 0) (.l 1), none⟩, ⟨.fieldAddr 0 (.l 2), none⟩, ⟨.load false 1 (.l 3), none⟩, ⟨.mv (.t 1), none⟩, ⟨.bin 0 .neq (.l 4) (.l 5), none⟩] [(5, 6)])
 (.cond (.t 5) (.seq (.region [⟨.mv (.c (.int .i64 (-1))), none⟩] [(2, 0)])
 .ret) .skip))
 (.seq (.region [⟨.mv (.t 1), none⟩, ⟨.bin 0 .add (.l 0) (.c (.int .i64 (1))), none⟩, ⟨.mv (.l 1), none⟩] [(1, 2)])
 (.seq (.seq (.region [⟨.mv (.t 0), none⟩, ⟨.mv (.t 3), none⟩, ⟨.indexAddrS 2 (.l 0) (.l 1), none⟩, ⟨.fieldAddr 1 (.l 2), none⟩, ⟨.load false 1 (.l 3), none⟩, ⟨.mv (.t 1), none⟩, ⟨.bin 0 .neq (.l 4) (.l 5), none⟩] [(6, 6)])
 (.cond (.t 6) (.seq (.region [⟨.mv (.c (.int .i64 (-1))), none⟩] [(2, 0)])
 .ret) .skip))
 (.region [⟨.mv (.t 1), none⟩, ⟨.bin 0 .add (.l 0) (.c (.int .i64 (1))), none⟩, ⟨.mv (.l 1), none⟩] [(1, 2)])))))
 (.region [⟨.mv (.t 3), none⟩, ⟨.bin 0 .add (.l 0) (.c (.int .i64 (1))), none⟩, ⟨.mv (.l 1), none⟩] [(3, 2)])))
def c_l_heldLoadS : ACode :=
 (.seq (.region [⟨.mv (.c (.int .i64 (0))), none⟩] [(2, 0)])
 (.seq (.seq (.region [⟨.mv (.c (.int .i64 (0))), none⟩] [(3, 0)])
 (.block 0 (.loop w_l_heldLoadS_1)))
 (.seq (.region [⟨.mv (.t 1), none⟩, ⟨.mv (.l 0), none⟩] [(2, 1)])
 .ret)))
def a_l_heldLoadS : AFun := ⟨[0, 1, 4, 5, 9, 18, 27], 31, c_l_heldLoadS, [.tmp 2], 1⟩
def w_l_heldStageS_1 : ACode :=
 (.seq (.seq (.region [⟨.mv (.t 3), none⟩, ⟨.mv (.t 0), none⟩, ⟨.len (.l 1), none⟩, ⟨.bin 0 .lss (.l 0) (.l 2), none⟩] [(4, 3)])
 (.cond (.t 4) .skip (.exit 0)))
 (.seq (.block 1 (.seq (.seq (.region [⟨.mv (.t 0), none⟩, ⟨.mv (.t 3), none⟩, ⟨.indexAddrS 3 (.l 0) (.l 1), none⟩, ⟨.fieldAddr 0 (.l 2), none⟩, ⟨.load false 1 (.l 3), none⟩, ⟨.mv (.t 1), none⟩, ⟨.bin 0 .neq (.l 4) (.l 5), none⟩] [(5, 6)])
 (.cond (.t 5) (.seq (.region [⟨.mv (.c (.int .i64 (-1))), none⟩] [(2, 0)])
 .ret) .skip))
 (.seq (.region [⟨.mv (.t 1), none⟩, ⟨.bin 0 .add (.l 0) (.c (.int .i64 (1))), none⟩, ⟨.mv (.l 1), none⟩] [(1, 2)])
 (.seq (.seq (.region [⟨.mv (.t 0), none⟩, ⟨.mv (.t 3), none⟩, ⟨.indexAddrS 3 (.l 0) (.l 1), none⟩, ⟨.fieldAddr 1 (.l 2), none⟩, ⟨.load false 1 (.l 3), none⟩, ⟨.mv (.t 1), none⟩, ⟨.bin 0 .neq (.l 4) (.l 5), none⟩] [(6, 6)])
 (.cond (.t 6) (.seq (.region [⟨.mv (.c (.int .i64 (-1))), none⟩] [(2, 0)])
 .ret) .skip))
 (.seq (.region [⟨.mv (.t 1), none⟩, ⟨.bin 0 .add (.l 0) (.c (.int .i64 (1))), none⟩, ⟨.mv (.l 1), none⟩] [(1, 2)])
 (.seq (.seq (.region [⟨.mv (.t 0), none⟩, ⟨.mv (.t 3), none⟩, ⟨.indexAddrS 3 (.l 0) (.l 1), none⟩, ⟨.fieldAddr 2 (.l 2), none⟩, ⟨.load false 1 (.l 3), none⟩, ⟨.mv (.t 1), none⟩, ⟨.bin 0 .neq (.l 4) (.l 5), none⟩] [(7, 6)])
 (.cond (.t 7) (.seq (.region [⟨.mv (.c (.int .i64 (-1))), none⟩] [(2, 0)])
 .ret) .skip))
 (.region [⟨.mv (.t 1), none⟩, ⟨.bin 0 .add (.l 0) (.c (.int .i64 (1))), none⟩, ⟨.mv (.l 1), none⟩] [(1, 2)])))))))
 (.region [⟨.mv (.t 3), none⟩, ⟨.bin 0 .add (.l 0) (.c (.int .i64 (1))), none⟩, ⟨.mv (.l 1), none⟩] [(3, 2)])))
def c_l_heldStageS : ACode :=
 (.seq (.region [⟨.mv (.c (.int .i64 (0))), none⟩] [(2, 0)])
 (.seq (.seq (.region [⟨.mv (.c (.int .i64 (0))), none⟩] [(3, 0)])
 (.block 0 (.loop w_l_heldStageS_1)))
 (.seq (.region [⟨.mv (.t 1), none⟩, ⟨.mv (.l 0), none⟩] [(2, 1)])
 .ret)))
def a_l_heldStageS : AFun := ⟨[0, 1, 4, 5, 9, 18, 27, 36], 40, c_l_heldStageS, [.tmp 2], 1⟩
def c_l_szLoadS : ACode :=
 (.seq (.region [⟨.mv (.c (.int .i64 (0))), none⟩] [(2, 0)])
 (.seq (.region [⟨.mv (.t 1), none⟩, ⟨.mv (.t 0), none⟩, ⟨.len (.l 1), none⟩, ⟨.bin 0 .sub (.l 0) (.l 2), none⟩, ⟨.mv (.l 3), none⟩] [(1, 4)])
 (.seq (.seq (.region [⟨.mv (.t 1), none⟩, ⟨.bin 0 .lss (.l 0) (.c (.int .i64 (0))), none⟩] [(3, 1)])
 (.cond (.t 3) (.seq (.region [⟨.mv (.c (.int .i64 (-1))), none⟩] [(2, 0)])
 .ret) .skip))
 (.seq (.region [⟨.mv (.t 1), none⟩, ⟨.mv (.l 0), none⟩] [(2, 1)])
 .ret))))
def a_l_szLoadS : AFun := ⟨[0, 1, 4, 10], 12, c_l_szLoadS, [.tmp 2], 1⟩
def c_l_szStageS : ACode :=
 (.seq (.region [⟨.mv (.c (.int .i64 (0))), none⟩] [(2, 0)])
 (.seq (.region [⟨.mv (.t 1), none⟩, ⟨.mv (.t 0), none⟩, ⟨.len (.l 1), none⟩, ⟨.bin 0 .sub (.l 0) (.l 2), none⟩, ⟨.mv (.l 3), none⟩] [(1, 4)])
 (.seq (.seq (.region [⟨.mv (.t 1), none⟩, ⟨.bin 0 .lss (.l 0) (.c (.int .i64 (0))), none⟩] [(3, 1)])
 (.cond (.t 3) (.seq (.region [⟨.mv (.c (.int .i64 (-1))), none⟩] [(2, 0)])
 .ret) .skip))
 (.seq (.region [⟨.mv (.t 1), none⟩, ⟨.mv (.l 0), none⟩] [(2, 1)])
 .ret))))
def a_l_szStageS : AFun := ⟨[0, 1, 4, 10], 12, c_l_szStageS, [.tmp 2], 1⟩
def c_s_l12Good : ACode :=
 (.seq (.region [⟨.box (.t 0), none⟩, ⟨.mv (.c (.bool false)), none⟩] [(1, 0), (2, 1)])
 (.seq (.seq (.region [⟨.fieldAddr 0 (.t 1), none⟩, ⟨.load false 1 (.l 0), none⟩, ⟨.fieldAddr 1 (.t 1), none⟩, ⟨.load false 1 (.l 2), none⟩, ⟨.fieldAddr 2 (.t 1), none⟩, ⟨.load false 1 (.l 4), none⟩, ⟨.call (.c (.fn f_s_l2On [] [])) [(.l 1), (.l 3), (.l 5)], none⟩, ⟨.un .not (.l 6), none⟩, ⟨.mv (.l 7), none⟩, ⟨.fieldAddr 3 (.t 1), some ((.l 8), false)⟩, ⟨.load false 1 (.l 9), some ((.l 8), false)⟩, ⟨.call (.c (.fn f_s_l7Stages [] [])) [(.l 10), (.c (.int .i64 (5)))], some ((.l 8), false)⟩, ⟨.un .not (.l 11), some ((.l 8), false)⟩, ⟨.pick (.l 8) (.c (.bool true)) (.l 12), none⟩] [(3, 13)])
 (.cond (.t 3) (.seq (.region [⟨.mv (.c (.bool false)), none⟩] [(2, 0)])
 .ret) .skip))
 (.seq (.region [⟨.fieldAddr 5 (.t 1), none⟩, ⟨.load false 1 (.l 0), none⟩, ⟨.call (.c (.fn f_s_l1In [] [])) [(.l 1), (.c (.int .i64 (0))), (.c (.int .i64 (1000)))], none⟩, ⟨.mv (.l 2), none⟩, ⟨.fieldAddr 4 (.t 1), some ((.l 3), true)⟩, ⟨.load false 1 (.l 4), some ((.l 3), true)⟩, ⟨.fieldAddr 5 (.t 1), some ((.l 3), true)⟩, ⟨.load false 1 (.l 6), some ((.l 3), true)⟩, ⟨.call (.c (.fn f_s_l1In [] [])) [(.l 5), (.c (.int .i64 (0))), (.l 7)], some ((.l 3), true)⟩, ⟨.pick (.l 3) (.l 8) (.c (.bool false)), none⟩, ⟨.mv (.l 9), none⟩] [(2, 10)])
 .ret)))
def a_s_l12Good : AFun := ⟨[0, 1, 2, 16], 27, c_s_l12Good, [.tmp 2], 1⟩
def w_l_toLoadS_1 : ACode :=
 (.seq (.seq (.region [⟨.mv (.t 3), none⟩, ⟨.mv (.t 0), none⟩, ⟨.len (.l 1), none⟩, ⟨.bin 0 .lss (.l 0) (.l 2), none⟩] [(4, 3)])
 (.cond (.t 4) .skip (.exit 0)))
 (.seq (.block 1 (.region [⟨.mv (.t 2), none⟩, ⟨.mv (.t 3), none⟩, ⟨.mv (.t 0), none⟩, ⟨.mv (.t 3), none⟩, ⟨.indexAddrS 2 (.l 2) (.l 3), none⟩, ⟨.load true 2 (.l 4), none⟩, ⟨.call (.c (.fn f_l_toLoad [] [])) [(.l 5)], none⟩, ⟨.indexAddrS 2 (.l 0) (.l 1), none⟩, ⟨.store 2 (.l 7) (.l 6), none⟩] []))
 (.region [⟨.mv (.t 3), none⟩, ⟨.bin 0 .add (.l 0) (.c (.int .i64 (1))), none⟩, ⟨.mv (.l 1), none⟩] [(3, 2)])))
def c_l_toLoadS : ACode :=
 (.seq (.region [⟨.mv (.c (.slice none 0 0 none)), none⟩] [(1, 0)])
 (.seq (.region [⟨.mv (.t 0), none⟩, ⟨.len (.l 0), none⟩, ⟨.makeSlice 2 16 [.int .i64 (0), .int .i64 (0)] (.l 1) (.l 1), none⟩, ⟨.mv (.l 2), none⟩] [(2, 3)])
 (.seq (.seq (.region [⟨.mv (.c (.int .i64 (0))), none⟩] [(3, 0)])
 (.block 0 (.loop w_l_toLoadS_1)))
 (.seq (.region [⟨.mv (.t 2), none⟩, ⟨.mv (.l 0), none⟩] [(1, 1)])
 .ret))))
def a_l_toLoadS : AFun := ⟨[0, 2, 3, 4, 11], 23, c_l_toLoadS, [.tmp 1], 2⟩
def w_l_toStageS_1 : ACode :=
 (.seq (.seq (.region [⟨.mv (.t 3), none⟩, ⟨.mv (.t 0), none⟩, ⟨.len (.l 1), none⟩, ⟨.bin 0 .lss (.l 0) (.l 2), none⟩] [(4, 3)])
 (.cond (.t 4) .skip (.exit 0)))
 (.seq (.block 1 (.region [⟨.mv (.t 2), none⟩, ⟨.mv (.t 3), none⟩, ⟨.mv (.t 0), none⟩, ⟨.mv (.t 3), none⟩, ⟨.indexAddrS 3 (.l 2) (.l 3), none⟩, ⟨.load true 3 (.l 4), none⟩, ⟨.call (.c (.fn f_l_toStage [] [])) [(.l 5)], none⟩, ⟨.indexAddrS 3 (.l 0) (.l 1), none⟩, ⟨.store 3 (.l 7) (.l 6), none⟩] []))
 (.region [⟨.mv (.t 3), none⟩, ⟨.bin 0 .add (.l 0) (.c (.int .i64 (1))), none⟩, ⟨.mv (.l 1), none⟩] [(3, 2)])))
def c_l_toStageS : ACode :=
 (.seq (.region [⟨.mv (.c (.slice none 0 0 none)), none⟩] [(1, 0)])
 (.seq (.region [⟨.mv (.t 0), none⟩, ⟨.len (.l 0), none⟩, ⟨.makeSlice 3 24 [.int .i64 (0), .int .i64 (0), .int .i64 (0)] (.l 1) (.l 1), none⟩, ⟨.mv (.l 2), none⟩] [(2, 3)])
 (.seq (.seq (.region [⟨.mv (.c (.int .i64 (0))), none⟩] [(3, 0)])
 (.block 0 (.loop w_l_toStageS_1)))
 (.seq (.region [⟨.mv (.t 2), none⟩, ⟨.mv (.l 0), none⟩] [(1, 1)])
 .ret))))
def a_l_toStageS : AFun := ⟨[0, 2, 3, 4, 11], 23, c_l_toStageS, [.tmp 1], 2⟩
def c_i_IsRow : ACode :=
 (.seq (.region [⟨.mv (.c (.bool false)), none⟩] [(1, 0)])
 (.seq (.seq (.region [⟨.mv (.t 0), none⟩, ⟨.len (.l 0), none⟩, ⟨.bin 0 .gtr (.l 1) (.c (.int .i64 (12))), none⟩] [(2, 2)])
 (.cond (.t 2) (.seq (.region [⟨.mv (.c (.bool false)), none⟩] [(1, 0)])
 .ret) .skip))
 (.seq (.region [⟨.mv (.t 0), none⟩, ⟨.call (.c (.fn f_slices_ContainsFunc_Si_Load_i_Load [] [])) [(.l 0), (.c (.fn f_i_IsRow_1 [] []))], none⟩, ⟨.un .not (.l 1), none⟩, ⟨.mv (.l 2), none⟩] [(1, 3)])
 .ret)))
def a_i_IsRow : AFun := ⟨[0, 2, 5], 9, c_i_IsRow, [.tmp 1], 1⟩
def c_i_isBase : ACode :=
 (.seq (.region [⟨.mv (.c (.bool false)), none⟩] [(2, 0)])
 (.seq (.region [⟨.mv (.t 0), none⟩, ⟨.call (.c (.fn f_i_isPlace [] [])) [(.l 0)], none⟩, ⟨.mv (.l 1), none⟩, ⟨.mv (.t 1), some ((.l 2), true)⟩, ⟨.call (.c (.fn f_i_isPlace [] [])) [(.l 3)], some ((.l 2), true)⟩, ⟨.pick (.l 2) (.l 4) (.c (.bool false)), none⟩, ⟨.mv (.l 5), none⟩, ⟨.mv (.t 0), some ((.l 6), true)⟩, ⟨.mv (.t 1), some ((.l 6), true)⟩, ⟨.bin 0 .leq (.l 7) (.l 8), some ((.l 6), true)⟩, ⟨.pick (.l 6) (.l 9) (.c (.bool false)), none⟩, ⟨.mv (.l 10), none⟩] [(2, 11)])
 .ret))
def a_i_isBase : AFun := ⟨[0, 1, 4], 16, c_i_isBase, [.tmp 2], 1⟩
def w_i_isChain_1 : ACode :=
 (.seq (.region [⟨.bin 0 .lss (.t 5) (.t 4), none⟩] [(6, 0)])
 (.seq (.cond (.t 6) .skip (.exit 0))
 (.seq (.block 1 (.seq (.region [⟨.indexAddrS 3 (.t 3) (.t 5), none⟩, ⟨.load true 3 (.l 0), none⟩, ⟨.alloc [.int .i64 (0), .int .i64 (0), .int .i64 (0)], none⟩, ⟨.store 3 (.l 2) (.l 1), none⟩] [(2, 2)])
 (.seq (.region [⟨.load true 3 (.t 2), none⟩, ⟨.call (.c (.fn f_i_IsStage [] [])) [(.l 0)], none⟩, ⟨.un .not (.l 1), none⟩] [(7, 2)])
 (.cond (.t 7) (.seq (.region [⟨.mv (.c (.bool false)), none⟩] [(1, 0)])
 .ret) .skip))))
 (.region [⟨.bin 0 .add (.t 5) (.c (.int .i64 (1))), none⟩, ⟨.mv (.l 0), none⟩] [(5, 1)]))))
def c_i_isChain : ACode :=
 (.seq (.region [⟨.mv (.c (.bool false)), none⟩] [(1, 0)])
 (.seq (.seq (.region [⟨.mv (.t 0), none⟩, ⟨.len (.l 0), none⟩, ⟨.mv (.c (.int .i64 (0))), none⟩] [(3, 0), (4, 1), (5, 2)])
 (.block 0 (.loop w_i_isChain_1)))
 (.seq (.region [⟨.mv (.t 0), none⟩, ⟨.len (.l 0), none⟩, ⟨.bin 0 .leq (.l 1) (.c (.int .i64 (5))), none⟩, ⟨.mv (.l 2), none⟩] [(1, 3)])
 .ret)))
def a_i_isChain : AFun := ⟨[0, 2, 4, 5, 6, 7, 8, 13], 18, c_i_isChain, [.tmp 1], 1⟩
def c_i_within : ACode :=
 (.seq (.region [⟨.mv (.c (.bool false)), none⟩] [(3, 0)])
 (.seq (.region [⟨.mv (.t 0), none⟩, ⟨.mv (.t 1), none⟩, ⟨.bin 0 .geq (.l 0) (.l 1), none⟩, ⟨.mv (.l 2), none⟩, ⟨.mv (.t 0), some ((.l 3), true)⟩, ⟨.mv (.t 2), some ((.l 3), true)⟩, ⟨.bin 0 .leq (.l 4) (.l 5), some ((.l 3), true)⟩, ⟨.pick (.l 3) (.l 6) (.c (.bool false)), none⟩, ⟨.mv (.l 7), none⟩] [(3, 8)])
 .ret))
def a_i_within : AFun := ⟨[0, 1, 2, 6], 15, c_i_within, [.tmp 3], 1⟩
def c_s_LeastPull : ACode :=
 (.seq (.region [⟨.mv (.c (.int .i64 (0))), none⟩, ⟨.mv (.c (.bool false)), none⟩] [(2, 0), (3, 1)])
 (.seq (.seq (.region [⟨.mv (.t 0), none⟩, ⟨.mv (.t 1), none⟩, ⟨.call (.c (.fn f_s_l7Ask [] [])) [(.l 0), (.l 1)], none⟩, ⟨.un .not (.l 2), none⟩] [(5, 3)])
 (.cond (.t 5) (.seq (.region [⟨.mv (.c (.int .i64 (0))), none⟩, ⟨.mv (.c (.bool false)), none⟩] [(2, 0), (3, 1)])
 .ret) .skip))
 (.seq (.region [⟨.mv (.t 0), none⟩, ⟨.call (.c (.fn f_s_l7Chain [] [])) [(.l 0)], none⟩, ⟨.alloc [.int .i64 (0), .int .i64 (0)], none⟩, ⟨.store 2 (.l 2) (.l 1), none⟩] [(4, 2)])
 (.seq (.region [⟨.mv (.t 1), none⟩, ⟨.indexAddrA 2 1 (.t 4) (.c (.int .i64 (1))), none⟩, ⟨.load false 1 (.l 1), none⟩, ⟨.bin 0 .mul (.l 0) (.l 2), none⟩, ⟨.indexAddrA 2 1 (.t 4) (.c (.int .i64 (0))), none⟩, ⟨.load false 1 (.l 4), none⟩, ⟨.bin 0 .add (.l 3) (.l 5), none⟩, ⟨.bin 0 .sub (.l 6) (.c (.int .i64 (1))), none⟩, ⟨.indexAddrA 2 1 (.t 4) (.c (.int .i64 (0))), none⟩, ⟨.load false 1 (.l 8), none⟩, ⟨.bin 0 .quo (.l 7) (.l 9), none⟩, ⟨.mv (.l 10), none⟩, ⟨.mv (.c (.bool true)), none⟩] [(2, 11), (3, 12)])
 .ret))))
def a_s_LeastPull : AFun := ⟨[0, 1, 4, 5, 6, 10], 24, c_s_LeastPull, [.tmp 2, .tmp 3], 1⟩
def w_s_l2Weight_1 : ACode :=
 (.seq (.seq (.region [⟨.mv (.t 3), none⟩, ⟨.mv (.t 0), none⟩, ⟨.len (.l 1), none⟩, ⟨.bin 0 .lss (.l 0) (.l 2), none⟩] [(4, 3)])
 (.cond (.t 4) .skip (.exit 0)))
 (.seq (.block 1 (.region [⟨.mv (.t 2), none⟩, ⟨.mv (.t 0), none⟩, ⟨.mv (.t 3), none⟩, ⟨.indexAddrS 2 (.l 1) (.l 2), none⟩, ⟨.fieldAddr 1 (.l 3), none⟩, ⟨.load false 1 (.l 4), none⟩, ⟨.bin 0 .add (.l 0) (.l 5), none⟩, ⟨.mv (.l 6), none⟩] [(2, 7)]))
 (.region [⟨.mv (.t 3), none⟩, ⟨.bin 0 .add (.l 0) (.c (.int .i64 (1))), none⟩, ⟨.mv (.l 1), none⟩] [(3, 2)])))
def c_s_l2Weight : ACode :=
 (.seq (.region [⟨.mv (.c (.int .i64 (0))), none⟩] [(1, 0)])
 (.seq (.region [⟨.mv (.c (.int .i64 (0))), none⟩] [(2, 0)])
 (.seq (.seq (.region [⟨.mv (.c (.int .i64 (0))), none⟩] [(3, 0)])
 (.block 0 (.loop w_s_l2Weight_1)))
 (.seq (.region [⟨.mv (.t 2), none⟩, ⟨.mv (.l 0), none⟩] [(1, 1)])
 .ret))))
def a_s_l2Weight : AFun := ⟨[0, 2, 3, 4, 8], 19, c_s_l2Weight, [.tmp 1], 1⟩
def w_i_weightOf_1 : ACode :=
 (.seq (.region [⟨.bin 0 .lss (.t 6) (.t 5), none⟩] [(7, 0)])
 (.seq (.cond (.t 7) .skip (.exit 0))
 (.seq (.block 1 (.seq (.region [⟨.indexAddrS 2 (.t 4) (.t 6), none⟩, ⟨.load true 2 (.l 0), none⟩, ⟨.alloc [.int .i64 (0), .int .i64 (0)], none⟩, ⟨.store 2 (.l 2) (.l 1), none⟩] [(3, 2)])
 (.region [⟨.mv (.t 2), none⟩, ⟨.fieldAddr 1 (.t 3), none⟩, ⟨.load false 1 (.l 1), none⟩, ⟨.bin 0 .add (.l 0) (.l 2), none⟩, ⟨.mv (.l 3), none⟩] [(2, 4)])))
 (.region [⟨.bin 0 .add (.t 6) (.c (.int .i64 (1))), none⟩, ⟨.mv (.l 0), none⟩] [(6, 1)]))))
def c_i_weightOf : ACode :=
 (.seq (.region [⟨.mv (.c (.int .i64 (0))), none⟩] [(1, 0)])
 (.seq (.region [⟨.mv (.c (.int .i64 (0))), none⟩] [(2, 0)])
 (.seq (.seq (.region [⟨.mv (.t 0), none⟩, ⟨.len (.l 0), none⟩, ⟨.mv (.c (.int .i64 (0))), none⟩] [(4, 0), (5, 1), (6, 2)])
 (.block 0 (.loop w_i_weightOf_1)))
 (.seq (.region [⟨.mv (.t 2), none⟩, ⟨.mv (.l 0), none⟩] [(1, 1)])
 .ret))))
def a_i_weightOf : AFun := ⟨[0, 2, 3, 5, 6, 7, 8, 9], 18, c_i_weightOf, [.tmp 1], 1⟩
def c_i_copyStand : ACode :=
 (.seq (.region [⟨.box (.t 0), none⟩, ⟨.alloc [.slice none 0 0 none, .int .i64 (0), .int .i64 (0), .slice none 0 0 none, .int .i64 (0), .int .i64 (0)], none⟩] [(1, 0), (2, 1)])
 (.seq (.draw [⟨.fieldAddr 0 (.t 1), none, []⟩, ⟨.load false 1 (.l 0), none, []⟩, ⟨.fieldAddr 3 (.t 1), none, []⟩, ⟨.load false 1 (.l 2), none, []⟩, ⟨.call (.c (.fn f_slices_Clone_Si_Load_i_Load [] [])) [(.l 1)], none, [(3, ⟨.load false 1 (.l 2), none⟩)]⟩, ⟨.fieldAddr 0 (.t 1), none, []⟩, ⟨.call (.c (.fn f_slices_Clone_Si_Stage_i_Stage [] [])) [(.l 3)], none, []⟩, ⟨.store 1 (.l 5) (.l 4), none, []⟩, ⟨.fieldAddr 3 (.t 1), none, []⟩, ⟨.store 1 (.l 8) (.l 6), none, []⟩] [])
 (.seq (.region [⟨.load true 6 (.t 1), none⟩, ⟨.store 6 (.t 2) (.l 0), none⟩] [])
 .ret)))
def a_i_copyStand : AFun := ⟨[0, 1, 2], 12, c_i_copyStand, [.cell 2 true 6], 2⟩
def c_l_eqLog : ACode :=
 (.seq (.region [⟨.box (.t 0), none⟩, ⟨.box (.t 1), none⟩, ⟨.mv (.c (.bool false)), none⟩] [(2, 0), (3, 1), (4, 2)])
 (.seq (.seq (.region [⟨.fieldAddr 0 (.t 2), none⟩, ⟨.load false 1 (.l 0), none⟩, ⟨.fieldAddr 0 (.t 3), none⟩, ⟨.load false 1 (.l 2), none⟩, ⟨.bin 1 .neq (.l 1) (.l 3), none⟩] [(5, 4)])
 (.cond (.t 5) (.seq (.region [⟨.mv (.c (.bool false)), none⟩] [(4, 0)])
 .ret) .skip))
 (.seq (.seq (.region [⟨.fieldAddr 1 (.t 2), none⟩, ⟨.load false 1 (.l 0), none⟩, ⟨.fieldAddr 1 (.t 3), none⟩, ⟨.load false 1 (.l 2), none⟩, ⟨.bin 1 .neq (.l 1) (.l 3), none⟩] [(6, 4)])
 (.cond (.t 6) (.seq (.region [⟨.mv (.c (.bool false)), none⟩] [(4, 0)])
 .ret) .skip))
 (.seq (.seq (.region [⟨.fieldAddr 2 (.t 2), none⟩, ⟨.load false 1 (.l 0), none⟩, ⟨.fieldAddr 2 (.t 3), none⟩, ⟨.load false 1 (.l 2), none⟩, ⟨.bin 0 .neq (.l 1) (.l 3), none⟩] [(7, 4)])
 (.cond (.t 7) (.seq (.region [⟨.mv (.c (.bool false)), none⟩] [(4, 0)])
 .ret) .skip))
 (.seq (.region [⟨.mv (.c (.bool true)), none⟩] [(4, 0)])
 .ret)))))
def a_l_eqLog : AFun := ⟨[0, 1, 2, 3, 4, 9, 14, 19], 20, c_l_eqLog, [.tmp 4], 1⟩
def c_s_l12Do : ACode :=
 (.seq (.region [⟨.box (.t 0), none⟩, ⟨.box (.t 1), none⟩, ⟨.alloc [.slice none 0 0 none, .int .i64 (0), .int .i64 (0), .slice none 0 0 none, .int .i64 (0), .int .i64 (0)], none⟩, ⟨.mv (.c (.bool false)), none⟩] [(2, 0), (3, 1), (4, 2), (5, 3)])
 (.seq (.seq (.region [⟨.load true 6 (.t 2), none⟩, ⟨.load true 4 (.t 3), none⟩, ⟨.call (.c (.fn f_s_l12May [] [])) [(.l 0), (.l 1)], none⟩, ⟨.un .not (.l 2), none⟩] [(7, 3)])
 (.cond (.t 7) (.seq (.region [⟨.build [.slice none 0 0 none, .int .i64 (0), .int .i64 (0), .slice none 0 0 none, .int .i64 (0), .int .i64 (0)] [], none⟩, ⟨.store 6 (.t 4) (.l 0), none⟩, ⟨.mv (.c (.bool false)), none⟩] [(5, 2)])
 .ret) .skip))
 (.seq (.region [⟨.load true 6 (.t 2), none⟩, ⟨.load true 4 (.t 3), none⟩, ⟨.call (.c (.fn f_s_l12Make [] [])) [(.l 0), (.l 1)], none⟩, ⟨.alloc [.slice none 0 0 none, .int .i64 (0), .int .i64 (0), .slice none 0 0 none, .int .i64 (0), .int .i64 (0)], none⟩, ⟨.store 6 (.l 3) (.l 2), none⟩] [(6, 3)])
 (.seq (.region [⟨.fieldAddr 5 (.t 2), none⟩, ⟨.load false 1 (.l 0), none⟩, ⟨.bin 0 .add (.l 1) (.c (.int .i64 (1))), none⟩, ⟨.fieldAddr 5 (.t 6), none⟩, ⟨.store 1 (.l 3) (.l 2), none⟩] [])
 (.seq (.seq (.region [⟨.load true 6 (.t 6), none⟩, ⟨.call (.c (.fn f_s_l12Good [] [])) [(.l 0)], none⟩, ⟨.un .not (.l 1), none⟩] [(8, 2)])
 (.cond (.t 8) (.seq (.region [⟨.build [.slice none 0 0 none, .int .i64 (0), .int .i64 (0), .slice none 0 0 none, .int .i64 (0), .int .i64 (0)] [], none⟩, ⟨.store 6 (.t 4) (.l 0), none⟩, ⟨.mv (.c (.bool false)), none⟩] [(5, 2)])
 .ret) .skip))
 (.seq (.seq (.region [⟨.fieldAddr 0 (.t 6), none⟩, ⟨.load false 1 (.l 0), none⟩, ⟨.fieldAddr 1 (.t 6), none⟩, ⟨.load false 1 (.l 2), none⟩, ⟨.fieldAddr 2 (.t 6), none⟩, ⟨.load false 1 (.l 4), none⟩, ⟨.call (.c (.fn f_s_l2Side [] [])) [(.l 1), (.l 3), (.l 5)], none⟩, ⟨.bin 0 .neq (.l 6) (.c (.int .i64 (0))), none⟩] [(9, 7)])
 (.cond (.t 9) (.region [⟨.fieldAddr 4 (.t 2), none⟩, ⟨.load false 1 (.l 0), none⟩, ⟨.bin 0 .add (.l 1) (.c (.int .i64 (1))), none⟩, ⟨.fieldAddr 4 (.t 6), none⟩, ⟨.store 1 (.l 3) (.l 2), none⟩] []) .skip))
 (.seq (.region [⟨.load true 6 (.t 6), none⟩, ⟨.store 6 (.t 4) (.l 0), none⟩, ⟨.mv (.c (.bool true)), none⟩] [(5, 2)])
 .ret)))))))
def a_s_l12Do : AFun := ⟨[0, 1, 2, 3, 4, 5, 6, 10, 21, 30], 36, c_s_l12Do, [.cell 4 true 6, .tmp 5], 2⟩
-- slices_Delete_Si_Load_i_Load: by contract
-- slices_Delete_Si_Stage_i_Stage: by contract
def c_i_tipSide : ACode :=
 (.seq (.region [⟨.mv (.c (.int .i64 (0))), none⟩] [(3, 0)])
 (.seq (.block 0 (.seq (.region [⟨.mv (.t 0), none⟩, ⟨.mv (.t 1), none⟩, ⟨.call (.c (.fn f_i_momentAbout [] [])) [(.l 0), (.l 1)], none⟩, ⟨.bin 0 .lss (.l 2) (.c (.int .i64 (0))), none⟩, ⟨.mv (.l 3), none⟩] [(4, 4)])
 (.cond (.t 4) (.seq (.region [⟨.mv (.c (.int .i64 (-1))), none⟩] [(3, 0)])
 .ret) (.seq (.region [⟨.mv (.t 0), none⟩, ⟨.mv (.t 2), none⟩, ⟨.call (.c (.fn f_i_momentAbout [] [])) [(.l 0), (.l 1)], none⟩, ⟨.bin 0 .gtr (.l 2) (.c (.int .i64 (0))), none⟩, ⟨.mv (.l 3), none⟩] [(5, 4)])
 (.cond (.t 5) (.seq (.region [⟨.mv (.c (.int .i64 (1))), none⟩] [(3, 0)])
 .ret) .skip)))))
 (.seq (.region [⟨.mv (.c (.int .i64 (0))), none⟩] [(3, 0)])
 .ret)))
def a_i_tipSide : AFun := ⟨[0, 1, 2, 6, 7, 12], 17, c_i_tipSide, [.tmp 3], 1⟩
def c_s_l1Cur_placeIn : ACode :=
 (.seq (.region [⟨.mv (.c (.int .i64 (0))), none⟩] [(1, 0)])
 (.seq (.seq (.region [⟨.mv (.t 0), none⟩, ⟨.call (.c (.fn f_s_l1Cur_one [] [])) [(.l 0), (.c (.int .i64 (30)))], none⟩] [(2, 1)])
 (.cond (.t 2) (.seq (.region [⟨.mv (.t 0), none⟩, ⟨.buildSlice 1 5 [.int .i64 (0), .int .i64 (0), .int .i64 (0), .int .i64 (0), .int .i64 (0)] [(0, 1, (.c (.int .i64 (-1)))), (1, 1, (.c (.int .i64 (0)))), (2, 1, (.c (.int .i64 (60)))), (3, 1, (.c (.int .i64 (61)))), (4, 1, (.c (.int .i64 (4611686018427387904))))], none⟩, ⟨.call (.c (.fn f_s_l1Cur_among [] [])) [(.l 0), (.l 1)], none⟩, ⟨.mv (.l 2), none⟩] [(1, 3)])
 .ret) .skip))
 (.seq (.region [⟨.mv (.t 0), none⟩, ⟨.mv (.t 0), none⟩, ⟨.buildSlice 1 4 [.int .i64 (0), .int .i64 (0), .int .i64 (0), .int .i64 (0)] [(0, 1, (.c (.int .i64 (11)))), (1, 1, (.c (.int .i64 (11)))), (2, 1, (.c (.int .i64 (21)))), (3, 1, (.c (.int .i64 (61))))], none⟩, ⟨.call (.c (.fn f_s_l1Cur_among [] [])) [(.l 1), (.l 2)], none⟩, ⟨.call (.c (.fn f_s_l1Cur_pick [] [])) [(.l 0), (.l 3)], none⟩, ⟨.mv (.l 4), none⟩] [(1, 5)])
 .ret)))
def a_s_l1Cur_placeIn : AFun := ⟨[0, 2, 4], 13, c_s_l1Cur_placeIn, [.tmp 1], 1⟩
def w_s_l1Cur_stand_1 : ACode :=
 (.seq (.seq (.region [⟨.mv (.t 5), none⟩, ⟨.bin 0 .gtr (.l 0) (.c (.int .i64 (0))), none⟩, ⟨.mv (.l 1), none⟩, ⟨.mv (.t 4), some ((.l 2), true)⟩, ⟨.pick (.l 2) (.l 3) (.c (.bool false)), none⟩] [(8, 4)])
 (.cond (.t 8) .skip (.exit 0)))
 (.seq (.block 1 (.seq (.draw [⟨.load true 6 (.t 3), none, []⟩, ⟨.mv (.t 0), none, []⟩, ⟨.load true 6 (.t 3), none, []⟩, ⟨.call (.c (.fn f_s_l1Cur_task12 [] [])) [(.l 1), (.l 2)], none, [(0, ⟨.load true 6 (.t 3), none⟩)]⟩, ⟨.call (.c (.fn f_s_l12Do [] [])) [(.l 0), (.l 3)], none, []⟩, ⟨.mv (.l 4), none, []⟩, ⟨.extract 0 (.l 5), none, []⟩, ⟨.extract 1 (.l 5), none, []⟩, ⟨.alloc [.slice none 0 0 none, .int .i64 (0), .int .i64 (0), .slice none 0 0 none, .int .i64 (0), .int .i64 (0)], none, [(0, ⟨.load true 6 (.t 3), none⟩), (2, ⟨.load true 6 (.t 3), none⟩)]⟩, ⟨.store 6 (.l 8) (.l 6), none, []⟩, ⟨.mv (.l 7), none, []⟩] [(6, 8), (7, 10)])
 (.seq (.region [⟨.mv (.t 7), none⟩] [(9, 0)])
 (.cond (.t 9) (.region [⟨.load true 6 (.t 6), none⟩, ⟨.store 6 (.t 3) (.l 0), none⟩] []) .skip))))
 (.region [⟨.mv (.t 5), none⟩, ⟨.bin 0 .sub (.l 0) (.c (.int .i64 (1))), none⟩, ⟨.mv (.l 1), none⟩] [(5, 2)])))
def c_s_l1Cur_stand : ACode :=
 (.seq (.region [⟨.alloc [.slice none 0 0 none, .int .i64 (0), .int .i64 (0), .slice none 0 0 none, .int .i64 (0), .int .i64 (0)], none⟩] [(1, 0)])
 (.seq (.region [⟨.mv (.t 0), none⟩, ⟨.call (.c (.fn f_s_l1Cur_pick [] [])) [(.l 0), (.c (.int .i64 (4)))], none⟩, ⟨.bin 0 .add (.c (.int .i64 (27))) (.l 1), none⟩, ⟨.mv (.l 2), none⟩] [(2, 3)])
 (.seq (.region [⟨.mv (.t 2), none⟩, ⟨.mv (.t 2), none⟩, ⟨.mv (.t 0), none⟩, ⟨.call (.c (.fn f_s_l1Cur_pick [] [])) [(.l 2), (.c (.int .i64 (5)))], none⟩, ⟨.bin 0 .add (.l 1) (.l 3), none⟩, ⟨.call (.c (.fn f_s_NewStand [] [])) [(.l 0), (.l 4)], none⟩, ⟨.mv (.l 5), none⟩, ⟨.extract 0 (.l 6), none⟩, ⟨.extract 1 (.l 6), none⟩, ⟨.alloc [.slice none 0 0 none, .int .i64 (0), .int .i64 (0), .slice none 0 0 none, .int .i64 (0), .int .i64 (0)], none⟩, ⟨.store 6 (.l 9) (.l 7), none⟩, ⟨.mv (.l 8), none⟩] [(3, 9), (4, 11)])
 (.seq (.seq (.region [⟨.mv (.t 0), none⟩, ⟨.call (.c (.fn f_s_l1Cur_pick [] [])) [(.l 0), (.c (.int .i64 (8)))], none⟩, ⟨.bin 0 .add (.c (.int .i64 (1))) (.l 1), none⟩, ⟨.mv (.l 2), none⟩] [(5, 3)])
 (.block 0 (.loop w_s_l1Cur_stand_1)))
 (.seq (.seq (.region [⟨.mv (.t 0), none⟩, ⟨.call (.c (.fn f_s_l1Cur_pick [] [])) [(.l 0), (.c (.int .i64 (48)))], none⟩] [(10, 1)])
 (.block 2 (.seq (.region [⟨.bin 0 .eql (.t 10) (.c (.int .i64 (0))), none⟩, ⟨.mv (.l 0), none⟩] [(11, 1)])
 (.cond (.t 11) (.region [⟨.mv (.t 0), none⟩, ⟨.buildSlice 1 3 [.int .i64 (0), .int .i64 (0), .int .i64 (0)] [(0, 1, (.c (.int .i64 (-1)))), (1, 1, (.c (.int .i64 (1000)))), (2, 1, (.c (.int .i64 (1001))))], none⟩, ⟨.call (.c (.fn f_s_l1Cur_among [] [])) [(.l 0), (.l 1)], none⟩, ⟨.fieldAddr 5 (.t 3), none⟩, ⟨.store 1 (.l 3) (.l 2), none⟩] []) (.seq (.region [⟨.bin 0 .eql (.t 10) (.c (.int .i64 (1))), none⟩, ⟨.mv (.l 0), none⟩] [(12, 1)])
 (.cond (.t 12) (.region [⟨.mv (.t 0), none⟩, ⟨.fieldAddr 5 (.t 3), none⟩, ⟨.load false 1 (.l 1), none⟩, ⟨.bin 0 .add (.l 2) (.c (.int .i64 (1))), none⟩, ⟨.buildSlice 1 3 [.int .i64 (0), .int .i64 (0), .int .i64 (0)] [(0, 1, (.c (.int .i64 (-1)))), (1, 1, (.l 3)), (2, 1, (.c (.int .i64 (0))))], none⟩, ⟨.call (.c (.fn f_s_l1Cur_among [] [])) [(.l 0), (.l 4)], none⟩, ⟨.fieldAddr 4 (.t 3), none⟩, ⟨.store 1 (.l 6) (.l 5), none⟩] []) (.seq (.region [⟨.bin 0 .eql (.t 10) (.c (.int .i64 (2))), none⟩, ⟨.mv (.l 0), none⟩] [(13, 1)])
 (.cond (.t 13) (.region [⟨.mv (.t 0), none⟩, ⟨.buildSlice 1 4 [.int .i64 (0), .int .i64 (0), .int .i64 (0), .int .i64 (0)] [(0, 1, (.c (.int .i64 (-1)))), (1, 1, (.c (.int .i64 (60)))), (2, 1, (.c (.int .i64 (61)))), (3, 1, (.c (.int .i64 (0))))], none⟩, ⟨.call (.c (.fn f_s_l1Cur_among [] [])) [(.l 0), (.l 1)], none⟩, ⟨.fieldAddr 2 (.t 3), none⟩, ⟨.store 1 (.l 3) (.l 2), none⟩] []) (.seq (.region [⟨.bin 0 .eql (.t 10) (.c (.int .i64 (3))), none⟩, ⟨.mv (.l 0), none⟩] [(14, 1)])
 (.cond (.t 14) (.region [⟨.buildSlice 2 0 [] [], none⟩, ⟨.fieldAddr 0 (.t 3), none⟩, ⟨.load false 1 (.l 1), none⟩, ⟨.append false 2 16 (.l 0) (.l 2), none⟩, ⟨.build [.int .i64 (0), .int .i64 (0)] [(0, 1, (.c (.int .i64 (61))))], none⟩, ⟨.buildSlice 2 1 [.int .i64 (0), .int .i64 (0)] [(0, 2, (.l 4))], none⟩, ⟨.append false 2 16 (.l 3) (.l 5), none⟩, ⟨.fieldAddr 0 (.t 3), none⟩, ⟨.store 1 (.l 7) (.l 6), none⟩] []) .skip))))))))))
 (.seq (.region [⟨.load true 6 (.t 3), none⟩, ⟨.store 6 (.t 1) (.l 0), none⟩] [])
 .ret))))))
def a_s_l1Cur_stand : AFun := ⟨[0, 2, 3, 4, 5, 6, 7, 8, 28, 39, 42, 43, 49, 58, 64], 75, c_s_l1Cur_stand, [.cell 1 true 6], 2⟩
def c_s_l1Cur_task12 : ACode :=
 (.seq (.region [⟨.box (.t 1), none⟩, ⟨.alloc [.int .i64 (0), .int .i64 (0), .int .i64 (0), .int .i64 (0)], none⟩] [(2, 0), (3, 1)])
 (.seq (.region [⟨.mv (.t 0), none⟩, ⟨.buildSlice 1 10 [.int .i64 (0), .int .i64 (0), .int .i64 (0), .int .i64 (0), .int .i64 (0), .int .i64 (0), .int .i64 (0), .int .i64 (0), .int .i64 (0), .int .i64 (0)] [(0, 1, (.c (.int .i64 (1)))), (1, 1, (.c (.int .i64 (1)))), (2, 1, (.c (.int .i64 (1)))), (3, 1, (.c (.int .i64 (2)))), (4, 1, (.c (.int .i64 (3)))), (5, 1, (.c (.int .i64 (3)))), (6, 1, (.c (.int .i64 (4)))), (7, 1, (.c (.int .i64 (5)))), (8, 1, (.c (.int .i64 (5)))), (9, 1, (.c (.int .i64 (6))))], none⟩, ⟨.call (.c (.fn f_s_l1Cur_among [] [])) [(.l 0), (.l 1)], none⟩, ⟨.build [.int .i64 (0), .int .i64 (0), .int .i64 (0), .int .i64 (0)] [(0, 1, (.l 2))], none⟩, ⟨.alloc [.int .i64 (0), .int .i64 (0), .int .i64 (0), .int .i64 (0)], none⟩, ⟨.store 4 (.l 4) (.l 3), none⟩] [(4, 4)])
 (.seq (.region [⟨.fieldAddr 0 (.t 2), none⟩, ⟨.load false 1 (.l 0), none⟩, ⟨.len (.l 1), none⟩, ⟨.call (.c (.fn f_s_l1Least [] [])) [(.l 2), (.c (.int .i64 (12)))], none⟩, ⟨.call (.c (.fn f_s_l1Most [] [])) [(.c (.int .i64 (1))), (.l 3)], none⟩, ⟨.mv (.l 4), none⟩] [(5, 5)])
 (.seq (.seq (.region [⟨.fieldAddr 0 (.t 4), none⟩, ⟨.load false 1 (.l 0), none⟩] [(7, 1)])
 (.block 0 (.seq (.region [⟨.bin 0 .eql (.t 7) (.c (.int .i64 (1))), none⟩, ⟨.mv (.l 0), none⟩] [(8, 1)])
 (.cond (.t 8) (.seq (.region [⟨.mv (.t 0), none⟩, ⟨.call (.c (.fn f_s_l1Cur_pick [] [])) [(.l 0), (.c (.int .i64 (9)))], none⟩, ⟨.bin 0 .add (.c (.int .i64 (26))) (.l 1), none⟩, ⟨.fieldAddr 1 (.t 4), none⟩, ⟨.store 1 (.l 3) (.l 2), none⟩] [])
 (.region [⟨.mv (.t 0), none⟩, ⟨.call (.c (.fn f_s_l1Cur_pick [] [])) [(.l 0), (.c (.int .i64 (6)))], none⟩, ⟨.bin 0 .add (.c (.int .i64 (1))) (.l 1), none⟩, ⟨.fieldAddr 2 (.t 4), none⟩, ⟨.store 1 (.l 3) (.l 2), none⟩] [])) (.seq (.region [⟨.bin 0 .eql (.t 7) (.c (.int .i64 (2))), none⟩, ⟨.mv (.l 0), none⟩] [(9, 1)])
 (.cond (.t 9) (.region [⟨.mv (.t 0), none⟩, ⟨.mv (.t 5), none⟩, ⟨.call (.c (.fn f_s_l1Cur_pick [] [])) [(.l 0), (.l 1)], none⟩, ⟨.fieldAddr 1 (.t 4), none⟩, ⟨.store 1 (.l 3) (.l 2), none⟩] []) (.seq (.region [⟨.bin 0 .eql (.t 7) (.c (.int .i64 (3))), none⟩, ⟨.mv (.l 0), none⟩] [(10, 1)])
 (.cond (.t 10) (.seq (.region [⟨.mv (.t 0), none⟩, ⟨.mv (.t 5), none⟩, ⟨.call (.c (.fn f_s_l1Cur_pick [] [])) [(.l 0), (.l 1)], none⟩, ⟨.fieldAddr 1 (.t 4), none⟩, ⟨.store 1 (.l 3) (.l 2), none⟩] [])
 (.region [⟨.mv (.t 0), none⟩, ⟨.call (.c (.fn f_s_l1Cur_pick [] [])) [(.l 0), (.c (.int .i64 (9)))], none⟩, ⟨.bin 0 .add (.c (.int .i64 (26))) (.l 1), none⟩, ⟨.fieldAddr 2 (.t 4), none⟩, ⟨.store 1 (.l 3) (.l 2), none⟩] [])) (.seq (.region [⟨.bin 0 .eql (.t 7) (.c (.int .i64 (4))), none⟩, ⟨.mv (.l 0), none⟩] [(11, 1)])
 (.cond (.t 11) (.seq (.region [⟨.mv (.t 0), none⟩, ⟨.call (.c (.fn f_s_l1Cur_pick [] [])) [(.l 0), (.c (.int .i64 (4)))], none⟩, ⟨.bin 0 .add (.c (.int .i64 (27))) (.l 1), none⟩, ⟨.fieldAddr 1 (.t 4), none⟩, ⟨.store 1 (.l 3) (.l 2), none⟩] [])
 (.draw [⟨.fieldAddr 1 (.t 4), none, []⟩, ⟨.load false 1 (.l 0), none, []⟩, ⟨.mv (.t 0), none, []⟩, ⟨.call (.c (.fn f_s_l1Cur_pick [] [])) [(.l 2), (.c (.int .i64 (5)))], none, [(1, ⟨.load false 1 (.l 0), none⟩)]⟩, ⟨.bin 0 .add (.l 1) (.l 3), none, []⟩, ⟨.fieldAddr 2 (.t 4), none, []⟩, ⟨.store 1 (.l 5) (.l 4), none, []⟩] [])) (.seq (.region [⟨.bin 0 .eql (.t 7) (.c (.int .i64 (5))), none⟩, ⟨.mv (.l 0), none⟩] [(12, 1)])
 (.cond (.t 12) (.seq (.region [⟨.mv (.t 0), none⟩, ⟨.call (.c (.fn f_s_l1Cur_stage7 [] [])) [(.l 0)], none⟩, ⟨.alloc [.int .i64 (0), .int .i64 (0), .int .i64 (0)], none⟩, ⟨.store 3 (.l 2) (.l 1), none⟩] [(6, 2)])
 (.seq (.region [⟨.fieldAddr 0 (.t 6), none⟩, ⟨.load false 1 (.l 0), none⟩, ⟨.fieldAddr 1 (.t 4), none⟩, ⟨.store 1 (.l 2) (.l 1), none⟩] [])
 (.seq (.region [⟨.fieldAddr 1 (.t 6), none⟩, ⟨.load false 1 (.l 0), none⟩, ⟨.fieldAddr 2 (.t 4), none⟩, ⟨.store 1 (.l 2) (.l 1), none⟩] [])
 (.region [⟨.fieldAddr 2 (.t 6), none⟩, ⟨.load false 1 (.l 0), none⟩, ⟨.fieldAddr 3 (.t 4), none⟩, ⟨.store 1 (.l 2) (.l 1), none⟩] [])))) (.seq (.region [⟨.bin 0 .eql (.t 7) (.c (.int .i64 (6))), none⟩, ⟨.mv (.l 0), none⟩] [(13, 1)])
 (.cond (.t 13) (.region [⟨.mv (.t 0), none⟩, ⟨.fieldAddr 3 (.t 2), none⟩, ⟨.load false 1 (.l 1), none⟩, ⟨.len (.l 2), none⟩, ⟨.call (.c (.fn f_s_l1Least [] [])) [(.l 3), (.c (.int .i64 (5)))], none⟩, ⟨.call (.c (.fn f_s_l1Most [] [])) [(.c (.int .i64 (1))), (.l 4)], none⟩, ⟨.call (.c (.fn f_s_l1Cur_pick [] [])) [(.l 0), (.l 5)], none⟩, ⟨.fieldAddr 1 (.t 4), none⟩, ⟨.store 1 (.l 7) (.l 6), none⟩] []) .skip))))))))))))))
 (.seq (.seq (.region [⟨.mv (.t 0), none⟩, ⟨.call (.c (.fn f_s_l1Cur_pick [] [])) [(.l 0), (.c (.int .i64 (32)))], none⟩] [(14, 1)])
 (.block 1 (.seq (.region [⟨.bin 0 .eql (.t 14) (.c (.int .i64 (0))), none⟩, ⟨.mv (.l 0), none⟩] [(15, 1)])
 (.cond (.t 15) (.region [⟨.mv (.t 0), none⟩, ⟨.buildSlice 1 5 [.int .i64 (0), .int .i64 (0), .int .i64 (0), .int .i64 (0), .int .i64 (0)] [(0, 1, (.c (.int .i64 (-1)))), (1, 1, (.c (.int .i64 (60)))), (2, 1, (.c (.int .i64 (61)))), (3, 1, (.c (.int .i64 (12)))), (4, 1, (.c (.int .i64 (4611686018427387904))))], none⟩, ⟨.call (.c (.fn f_s_l1Cur_among [] [])) [(.l 0), (.l 1)], none⟩, ⟨.fieldAddr 1 (.t 4), none⟩, ⟨.store 1 (.l 3) (.l 2), none⟩] []) (.seq (.region [⟨.bin 0 .eql (.t 14) (.c (.int .i64 (1))), none⟩, ⟨.mv (.l 0), none⟩] [(16, 1)])
 (.cond (.t 16) (.region [⟨.mv (.t 0), none⟩, ⟨.buildSlice 1 4 [.int .i64 (0), .int .i64 (0), .int .i64 (0), .int .i64 (0)] [(0, 1, (.c (.int .i64 (0)))), (1, 1, (.c (.int .i64 (99)))), (2, 1, (.c (.int .i64 (100)))), (3, 1, (.c (.int .i64 (-1))))], none⟩, ⟨.call (.c (.fn f_s_l1Cur_among [] [])) [(.l 0), (.l 1)], none⟩, ⟨.fieldAddr 2 (.t 4), none⟩, ⟨.store 1 (.l 3) (.l 2), none⟩] []) (.seq (.region [⟨.bin 0 .eql (.t 14) (.c (.int .i64 (2))), none⟩, ⟨.mv (.l 0), none⟩] [(17, 1)])
 (.cond (.t 17) (.region [⟨.mv (.t 0), none⟩, ⟨.buildSlice 1 3 [.int .i64 (0), .int .i64 (0), .int .i64 (0)] [(0, 1, (.c (.int .i64 (1)))), (1, 1, (.c (.int .i64 (25)))), (2, 1, (.c (.int .i64 (-1))))], none⟩, ⟨.call (.c (.fn f_s_l1Cur_among [] [])) [(.l 0), (.l 1)], none⟩, ⟨.fieldAddr 3 (.t 4), none⟩, ⟨.store 1 (.l 3) (.l 2), none⟩] []) (.seq (.region [⟨.bin 0 .eql (.t 14) (.c (.int .i64 (3))), none⟩, ⟨.mv (.l 0), none⟩] [(18, 1)])
 (.cond (.t 18) (.region [⟨.mv (.t 0), none⟩, ⟨.buildSlice 1 3 [.int .i64 (0), .int .i64 (0), .int .i64 (0)] [(0, 1, (.c (.int .i64 (0)))), (1, 1, (.c (.int .i64 (7)))), (2, 1, (.c (.int .i64 (-1))))], none⟩, ⟨.call (.c (.fn f_s_l1Cur_among [] [])) [(.l 0), (.l 1)], none⟩, ⟨.fieldAddr 0 (.t 4), none⟩, ⟨.store 1 (.l 3) (.l 2), none⟩] []) .skip))))))))))
 (.seq (.region [⟨.load true 4 (.t 4), none⟩, ⟨.store 4 (.t 3) (.l 0), none⟩] [])
 .ret))))))
def a_s_l1Cur_task12 : AFun := ⟨[0, 1, 3, 4, 5, 6, 7, 18, 19, 29, 35, 45, 57, 70, 81, 82, 88, 94, 100], 107, c_s_l1Cur_task12, [.cell 3 true 4], 1⟩
def c_s_l1Cur_pick : ACode :=
 (.seq (.region [⟨.mv (.c (.int .i64 (0))), none⟩] [(2, 0)])
 (.seq (.seq (.region [⟨.mv (.t 1), none⟩, ⟨.bin 0 .leq (.l 0) (.c (.int .i64 (1))), none⟩] [(4, 1)])
 (.cond (.t 4) (.seq (.region [⟨.mv (.c (.int .i64 (0))), none⟩] [(2, 0)])
 .ret) .skip))
 (.seq (.region [⟨.mv (.t 0), none⟩, ⟨.call (.c (.fn f_s_l1Cur_next [] [])) [(.l 0)], none⟩, ⟨.mv (.l 1), none⟩] [(3, 2)])
 (.seq (.seq (.region [⟨.mv (.t 1), none⟩, ⟨.bin 0 .gtr (.l 0) (.c (.int .i64 (200))), none⟩] [(5, 1)])
 (.cond (.t 5) (.region [⟨.mv (.t 3), none⟩, ⟨.bin 0 .mul (.l 0) (.c (.int .i64 (256))), none⟩, ⟨.mv (.t 0), none⟩, ⟨.call (.c (.fn f_s_l1Cur_next [] [])) [(.l 2)], none⟩, ⟨.bin 0 .add (.l 1) (.l 3), none⟩, ⟨.mv (.l 4), none⟩] [(3, 5)]) .skip))
 (.seq (.region [⟨.mv (.t 3), none⟩, ⟨.mv (.t 1), none⟩, ⟨.bin 0 .rem (.l 0) (.l 1), none⟩, ⟨.mv (.l 2), none⟩] [(2, 3)])
 .ret)))))
def a_s_l1Cur_pick : AFun := ⟨[0, 1, 4, 5, 7, 11], 20, c_s_l1Cur_pick, [.tmp 2], 1⟩
def c_s_DrawIsStand : ACode :=
 (.seq (.region [⟨.alloc [.slice none 0 0 none, .int .i64 (0), .int .i64 (0), .slice none 0 0 none, .int .i64 (0), .int .i64 (0)], none⟩] [(1, 0)])
 (.seq (.region [⟨.mv (.t 0), none⟩, ⟨.build [.slice none 0 0 none, .int .i64 (0), .int .u64 (0)] [(0, 1, (.l 0))], none⟩, ⟨.box (.l 1), none⟩, ⟨.mv (.l 2), none⟩] [(2, 3)])
 (.seq (.region [⟨.mv (.t 2), none⟩, ⟨.call (.c (.fn f_s_l1Cur_stand [] [])) [(.l 0)], none⟩, ⟨.store 6 (.t 1) (.l 1), none⟩] [])
 .ret)))
def a_s_DrawIsStand : AFun := ⟨[0, 2, 3], 9, c_s_DrawIsStand, [.cell 1 true 6], 2⟩
def c_i_PullFor : ACode :=
 (.seq (.region [⟨.alloc [.int .i64 (0), .int .i64 (0)], none⟩, ⟨.mv (.c (.bool false)), none⟩] [(2, 0), (3, 1)])
 (.seq (.seq (.region [⟨.mv (.t 0), none⟩, ⟨.call (.c (.fn f_i_isChain [] [])) [(.l 0)], none⟩, ⟨.un .not (.l 1), none⟩, ⟨.mv (.l 2), none⟩, ⟨.mv (.t 1), some ((.l 3), false)⟩, ⟨.call (.c (.fn f_i_isHaul [] [])) [(.l 4)], some ((.l 3), false)⟩, ⟨.un .not (.l 5), some ((.l 3), false)⟩, ⟨.pick (.l 3) (.c (.bool true)) (.l 6), none⟩] [(5, 7)])
 (.cond (.t 5) (.seq (.region [⟨.build [.int .i64 (0), .int .i64 (0)] [], none⟩, ⟨.store 2 (.t 2) (.l 0), none⟩, ⟨.mv (.c (.bool false)), none⟩] [(3, 2)])
 .ret) .skip))
 (.seq (.region [⟨.mv (.t 0), none⟩, ⟨.call (.c (.fn f_i_chainGain [] [])) [(.l 0)], none⟩, ⟨.alloc [.int .i64 (0), .int .i64 (0)], none⟩, ⟨.store 2 (.l 2) (.l 1), none⟩] [(4, 2)])
 (.seq (.region [⟨.mv (.t 1), none⟩, ⟨.indexAddrA 2 1 (.t 4) (.c (.int .i64 (1))), none⟩, ⟨.load false 1 (.l 1), none⟩, ⟨.bin 0 .mul (.l 0) (.l 2), none⟩, ⟨.indexAddrA 2 1 (.t 4) (.c (.int .i64 (0))), none⟩, ⟨.load false 1 (.l 4), none⟩, ⟨.call (.c (.fn f_i_fraction [] [])) [(.l 3), (.l 5)], none⟩, ⟨.store 2 (.t 2) (.l 6), none⟩, ⟨.mv (.c (.bool true)), none⟩] [(3, 8)])
 .ret))))
def a_i_PullFor : AFun := ⟨[0, 1, 4, 5, 6, 14], 25, c_i_PullFor, [.cell 2 true 2, .tmp 3], 1⟩
def w_i_chainGain_1 : ACode :=
 (.seq (.region [⟨.bin 0 .lss (.t 7) (.t 6), none⟩] [(8, 0)])
 (.seq (.cond (.t 8) .skip (.exit 0))
 (.seq (.block 1 (.seq (.region [⟨.indexAddrS 3 (.t 5) (.t 7), none⟩, ⟨.load true 3 (.l 0), none⟩, ⟨.alloc [.int .i64 (0), .int .i64 (0), .int .i64 (0)], none⟩, ⟨.store 3 (.l 2) (.l 1), none⟩] [(3, 2)])
 (.seq (.region [⟨.load true 3 (.t 3), none⟩, ⟨.call (.c (.fn f_i_stageGain [] [])) [(.l 0)], none⟩, ⟨.alloc [.int .i64 (0), .int .i64 (0)], none⟩, ⟨.store 2 (.l 2) (.l 1), none⟩] [(4, 2)])
 (.region [⟨.indexAddrA 2 1 (.t 2) (.c (.int .i64 (0))), none⟩, ⟨.load false 1 (.l 0), none⟩, ⟨.indexAddrA 2 1 (.t 4) (.c (.int .i64 (0))), none⟩, ⟨.load false 1 (.l 2), none⟩, ⟨.bin 0 .mul (.l 1) (.l 3), none⟩, ⟨.indexAddrA 2 1 (.t 2) (.c (.int .i64 (1))), none⟩, ⟨.load false 1 (.l 5), none⟩, ⟨.indexAddrA 2 1 (.t 4) (.c (.int .i64 (1))), none⟩, ⟨.load false 1 (.l 7), none⟩, ⟨.bin 0 .mul (.l 6) (.l 8), none⟩, ⟨.call (.c (.fn f_i_fraction [] [])) [(.l 4), (.l 9)], none⟩, ⟨.store 2 (.t 2) (.l 10), none⟩] []))))
 (.region [⟨.bin 0 .add (.t 7) (.c (.int .i64 (1))), none⟩, ⟨.mv (.l 0), none⟩] [(7, 1)]))))
def c_i_chainGain : ACode :=
 (.seq (.region [⟨.alloc [.int .i64 (0), .int .i64 (0)], none⟩] [(1, 0)])
 (.seq (.region [⟨.build [.int .i64 (0), .int .i64 (0)] [(0, 1, (.c (.int .i64 (1)))), (1, 1, (.c (.int .i64 (1))))], none⟩, ⟨.alloc [.int .i64 (0), .int .i64 (0)], none⟩, ⟨.store 2 (.l 1) (.l 0), none⟩] [(2, 1)])
 (.seq (.seq (.region [⟨.mv (.t 0), none⟩, ⟨.len (.l 0), none⟩, ⟨.mv (.c (.int .i64 (0))), none⟩] [(5, 0), (6, 1), (7, 2)])
 (.block 0 (.loop w_i_chainGain_1)))
 (.seq (.region [⟨.load true 2 (.t 2), none⟩, ⟨.store 2 (.t 1) (.l 0), none⟩] [])
 .ret))))
def a_i_chainGain : AFun := ⟨[0, 2, 3, 5, 6, 8, 9, 10, 11], 29, c_i_chainGain, [.cell 1 true 2], 1⟩
def c_l_eqTask : ACode :=
 (.seq (.region [⟨.box (.t 0), none⟩, ⟨.box (.t 1), none⟩, ⟨.mv (.c (.bool false)), none⟩] [(2, 0), (3, 1), (4, 2)])
 (.seq (.seq (.region [⟨.fieldAddr 0 (.t 2), none⟩, ⟨.load false 1 (.l 0), none⟩, ⟨.fieldAddr 0 (.t 3), none⟩, ⟨.load false 1 (.l 2), none⟩, ⟨.bin 0 .neq (.l 1) (.l 3), none⟩] [(5, 4)])
 (.cond (.t 5) (.seq (.region [⟨.mv (.c (.bool false)), none⟩] [(4, 0)])
 .ret) .skip))
 (.seq (.seq (.region [⟨.fieldAddr 1 (.t 2), none⟩, ⟨.load false 1 (.l 0), none⟩, ⟨.fieldAddr 1 (.t 3), none⟩, ⟨.load false 1 (.l 2), none⟩, ⟨.bin 0 .neq (.l 1) (.l 3), none⟩] [(6, 4)])
 (.cond (.t 6) (.seq (.region [⟨.mv (.c (.bool false)), none⟩] [(4, 0)])
 .ret) .skip))
 (.seq (.seq (.region [⟨.fieldAddr 2 (.t 2), none⟩, ⟨.load false 1 (.l 0), none⟩, ⟨.fieldAddr 2 (.t 3), none⟩, ⟨.load false 1 (.l 2), none⟩, ⟨.bin 0 .neq (.l 1) (.l 3), none⟩] [(7, 4)])
 (.cond (.t 7) (.seq (.region [⟨.mv (.c (.bool false)), none⟩] [(4, 0)])
 .ret) .skip))
 (.seq (.seq (.region [⟨.fieldAddr 3 (.t 2), none⟩, ⟨.load false 1 (.l 0), none⟩, ⟨.fieldAddr 3 (.t 3), none⟩, ⟨.load false 1 (.l 2), none⟩, ⟨.bin 0 .neq (.l 1) (.l 3), none⟩] [(8, 4)])
 (.cond (.t 8) (.seq (.region [⟨.mv (.c (.bool false)), none⟩] [(4, 0)])
 .ret) .skip))
 (.seq (.region [⟨.mv (.c (.bool true)), none⟩] [(4, 0)])
 .ret))))))
def a_l_eqTask : AFun := ⟨[0, 1, 2, 3, 4, 9, 14, 19, 24], 25, c_l_eqTask, [.tmp 4], 1⟩
def c_s_l2In : ACode :=
 (.seq (.region [⟨.mv (.c (.bool false)), none⟩] [(1, 0)])
 (.seq (.region [⟨.mv (.t 0), none⟩, ⟨.call (.c (.fn f_s_l1In [] [])) [(.l 0), (.c (.int .i64 (0))), (.c (.int .i64 (60)))], none⟩, ⟨.mv (.l 1), none⟩] [(1, 2)])
 .ret))
def a_s_l2In : AFun := ⟨[0, 2], 5, c_s_l2In, [.tmp 1], 1⟩
def c_l_eqLoad : ACode :=
 (.seq (.region [⟨.box (.t 0), none⟩, ⟨.box (.t 1), none⟩, ⟨.mv (.c (.bool false)), none⟩] [(2, 0), (3, 1), (4, 2)])
 (.seq (.seq (.region [⟨.fieldAddr 0 (.t 2), none⟩, ⟨.load false 1 (.l 0), none⟩, ⟨.fieldAddr 0 (.t 3), none⟩, ⟨.load false 1 (.l 2), none⟩, ⟨.bin 0 .neq (.l 1) (.l 3), none⟩] [(5, 4)])
 (.cond (.t 5) (.seq (.region [⟨.mv (.c (.bool false)), none⟩] [(4, 0)])
 .ret) .skip))
 (.seq (.seq (.region [⟨.fieldAddr 1 (.t 2), none⟩, ⟨.load false 1 (.l 0), none⟩, ⟨.fieldAddr 1 (.t 3), none⟩, ⟨.load false 1 (.l 2), none⟩, ⟨.bin 0 .neq (.l 1) (.l 3), none⟩] [(6, 4)])
 (.cond (.t 6) (.seq (.region [⟨.mv (.c (.bool false)), none⟩] [(4, 0)])
 .ret) .skip))
 (.seq (.region [⟨.mv (.c (.bool true)), none⟩] [(4, 0)])
 .ret))))
def a_l_eqLoad : AFun := ⟨[0, 1, 2, 3, 4, 9, 14], 15, c_l_eqLoad, [.tmp 4], 1⟩
def c_l_eqStage : ACode :=
 (.seq (.region [⟨.box (.t 0), none⟩, ⟨.box (.t 1), none⟩, ⟨.mv (.c (.bool false)), none⟩] [(2, 0), (3, 1), (4, 2)])
 (.seq (.seq (.region [⟨.fieldAddr 0 (.t 2), none⟩, ⟨.load false 1 (.l 0), none⟩, ⟨.fieldAddr 0 (.t 3), none⟩, ⟨.load false 1 (.l 2), none⟩, ⟨.bin 0 .neq (.l 1) (.l 3), none⟩] [(5, 4)])
 (.cond (.t 5) (.seq (.region [⟨.mv (.c (.bool false)), none⟩] [(4, 0)])
 .ret) .skip))
 (.seq (.seq (.region [⟨.fieldAddr 1 (.t 2), none⟩, ⟨.load false 1 (.l 0), none⟩, ⟨.fieldAddr 1 (.t 3), none⟩, ⟨.load false 1 (.l 2), none⟩, ⟨.bin 0 .neq (.l 1) (.l 3), none⟩] [(6, 4)])
 (.cond (.t 6) (.seq (.region [⟨.mv (.c (.bool false)), none⟩] [(4, 0)])
 .ret) .skip))
 (.seq (.seq (.region [⟨.fieldAddr 2 (.t 2), none⟩, ⟨.load false 1 (.l 0), none⟩, ⟨.fieldAddr 2 (.t 3), none⟩, ⟨.load false 1 (.l 2), none⟩, ⟨.bin 0 .neq (.l 1) (.l 3), none⟩] [(7, 4)])
 (.cond (.t 7) (.seq (.region [⟨.mv (.c (.bool false)), none⟩] [(4, 0)])
 .ret) .skip))
 (.seq (.region [⟨.mv (.c (.bool true)), none⟩] [(4, 0)])
 .ret)))))
def a_l_eqStage : AFun := ⟨[0, 1, 2, 3, 4, 9, 14, 19], 20, c_l_eqStage, [.tmp 4], 1⟩
def c_s_l2On : ACode :=
 (.seq (.region [⟨.mv (.c (.bool false)), none⟩] [(3, 0)])
 (.seq (.region [⟨.mv (.t 0), none⟩, ⟨.call (.c (.fn f_s_l2Row [] [])) [(.l 0)], none⟩, ⟨.mv (.l 1), none⟩, ⟨.mv (.t 1), some ((.l 2), true)⟩, ⟨.mv (.t 2), some ((.l 2), true)⟩, ⟨.call (.c (.fn f_s_l2Base [] [])) [(.l 3), (.l 4)], some ((.l 2), true)⟩, ⟨.pick (.l 2) (.l 5) (.c (.bool false)), none⟩, ⟨.mv (.l 6), none⟩] [(3, 7)])
 .ret))
def a_s_l2On : AFun := ⟨[0, 1, 2, 6], 14, c_s_l2On, [.tmp 3], 1⟩
def w_s_l7Stages_1 : ACode :=
 (.seq (.seq (.region [⟨.mv (.t 3), none⟩, ⟨.mv (.t 0), none⟩, ⟨.len (.l 1), none⟩, ⟨.bin 0 .lss (.l 0) (.l 2), none⟩] [(4, 3)])
 (.cond (.t 4) .skip (.exit 0)))
 (.seq (.block 1 (.seq (.region [⟨.mv (.t 0), none⟩, ⟨.mv (.t 3), none⟩, ⟨.indexAddrS 3 (.l 0) (.l 1), none⟩, ⟨.load true 3 (.l 2), none⟩, ⟨.call (.c (.fn f_s_l7Stage [] [])) [(.l 3)], none⟩, ⟨.un .not (.l 4), none⟩] [(5, 5)])
 (.cond (.t 5) (.seq (.region [⟨.mv (.c (.bool false)), none⟩] [(2, 0)])
 .ret) .skip)))
 (.region [⟨.mv (.t 3), none⟩, ⟨.bin 0 .add (.l 0) (.c (.int .i64 (1))), none⟩, ⟨.mv (.l 1), none⟩] [(3, 2)])))
def c_s_l7Stages : ACode :=
 (.seq (.region [⟨.mv (.c (.bool false)), none⟩] [(2, 0)])
 (.seq (.seq (.region [⟨.mv (.c (.int .i64 (0))), none⟩] [(3, 0)])
 (.block 0 (.loop w_s_l7Stages_1)))
 (.seq (.region [⟨.mv (.t 0), none⟩, ⟨.len (.l 0), none⟩, ⟨.mv (.t 1), none⟩, ⟨.bin 0 .leq (.l 1) (.l 2), none⟩, ⟨.mv (.l 3), none⟩] [(2, 4)])
 .ret)))
def a_s_l7Stages : AFun := ⟨[0, 1, 4, 5, 9, 17], 22, c_s_l7Stages, [.tmp 2], 1⟩
def c_s_l1In : ACode :=
 (.seq (.region [⟨.mv (.c (.bool false)), none⟩] [(3, 0)])
 (.seq (.region [⟨.mv (.t 0), none⟩, ⟨.mv (.t 1), none⟩, ⟨.bin 0 .geq (.l 0) (.l 1), none⟩, ⟨.mv (.l 2), none⟩, ⟨.mv (.t 0), some ((.l 3), true)⟩, ⟨.mv (.t 2), some ((.l 3), true)⟩, ⟨.bin 0 .leq (.l 4) (.l 5), some ((.l 3), true)⟩, ⟨.pick (.l 3) (.l 6) (.c (.bool false)), none⟩, ⟨.mv (.l 7), none⟩] [(3, 8)])
 .ret))
def a_s_l1In : AFun := ⟨[0, 1, 2, 6], 15, c_s_l1In, [.tmp 3], 1⟩
def c_l_toLoad : ACode :=
 (.seq (.region [⟨.box (.t 0), none⟩, ⟨.alloc [.int .i64 (0), .int .i64 (0)], none⟩] [(1, 0), (2, 1)])
 (.seq (.region [⟨.alloc [.int .i64 (0), .int .i64 (0)], none⟩] [(3, 0)])
 (.seq (.region [⟨.fieldAddr 0 (.t 1), none⟩, ⟨.load false 1 (.l 0), none⟩, ⟨.fieldAddr 0 (.t 3), none⟩, ⟨.store 1 (.l 2) (.l 1), none⟩] [])
 (.seq (.region [⟨.fieldAddr 1 (.t 1), none⟩, ⟨.load false 1 (.l 0), none⟩, ⟨.fieldAddr 1 (.t 3), none⟩, ⟨.store 1 (.l 2) (.l 1), none⟩] [])
 (.seq (.region [⟨.load true 2 (.t 3), none⟩, ⟨.store 2 (.t 2) (.l 0), none⟩] [])
 .ret)))))
def a_l_toLoad : AFun := ⟨[0, 1, 2, 3], 11, c_l_toLoad, [.cell 2 true 2], 1⟩
def c_l_toStage : ACode :=
 (.seq (.region [⟨.box (.t 0), none⟩, ⟨.alloc [.int .i64 (0), .int .i64 (0), .int .i64 (0)], none⟩] [(1, 0), (2, 1)])
 (.seq (.region [⟨.alloc [.int .i64 (0), .int .i64 (0), .int .i64 (0)], none⟩] [(3, 0)])
 (.seq (.region [⟨.fieldAddr 0 (.t 1), none⟩, ⟨.load false 1 (.l 0), none⟩, ⟨.fieldAddr 0 (.t 3), none⟩, ⟨.store 1 (.l 2) (.l 1), none⟩] [])
 (.seq (.region [⟨.fieldAddr 1 (.t 1), none⟩, ⟨.load false 1 (.l 0), none⟩, ⟨.fieldAddr 1 (.t 3), none⟩, ⟨.store 1 (.l 2) (.l 1), none⟩] [])
 (.seq (.region [⟨.fieldAddr 2 (.t 1), none⟩, ⟨.load false 1 (.l 0), none⟩, ⟨.fieldAddr 2 (.t 3), none⟩, ⟨.store 1 (.l 2) (.l 1), none⟩] [])
 (.seq (.region [⟨.load true 3 (.t 3), none⟩, ⟨.store 3 (.t 2) (.l 0), none⟩] [])
 .ret))))))
def a_l_toStage : AFun := ⟨[0, 1, 2, 3], 14, c_l_toStage, [.cell 2 true 3], 1⟩
def c_slices_ContainsFunc_Si_Load_i_Load : ACode :=
 (.seq (.region [⟨.mv (.c (.bool false)), none⟩] [(2, 0)])
 (.seq (.region [⟨.mv (.t 0), none⟩, ⟨.mv (.t 1), none⟩, ⟨.call (.c (.fn f_slices_IndexFunc_Si_Load_i_Load [] [])) [(.l 0), (.l 1)], none⟩, ⟨.bin 0 .geq (.l 2) (.c (.int .i64 (0))), none⟩, ⟨.mv (.l 3), none⟩] [(2, 4)])
 .ret))
def a_slices_ContainsFunc_Si_Load_i_Load : AFun := ⟨[0, 1, 4], 9, c_slices_ContainsFunc_Si_Load_i_Load, [.tmp 2], 1⟩
def c_i_IsRow_1 : ACode :=
 (.seq (.region [⟨.box (.t 0), none⟩, ⟨.mv (.c (.bool false)), none⟩] [(1, 0), (2, 1)])
 (.seq (.region [⟨.fieldAddr 0 (.t 1), none⟩, ⟨.load false 1 (.l 0), none⟩, ⟨.call (.c (.fn f_i_isPlace [] [])) [(.l 1)], none⟩, ⟨.un .not (.l 2), none⟩, ⟨.mv (.l 3), none⟩, ⟨.fieldAddr 1 (.t 1), some ((.l 4), false)⟩, ⟨.load false 1 (.l 5), some ((.l 4), false)⟩, ⟨.call (.c (.fn f_i_isWeight [] [])) [(.l 6)], some ((.l 4), false)⟩, ⟨.un .not (.l 7), some ((.l 4), false)⟩, ⟨.pick (.l 4) (.c (.bool true)) (.l 8), none⟩, ⟨.mv (.l 9), none⟩] [(2, 10)])
 .ret))
def a_i_IsRow_1 : AFun := ⟨[0, 1, 2], 13, c_i_IsRow_1, [.tmp 2], 1⟩
def c_i_isPlace : ACode :=
 (.seq (.region [⟨.mv (.c (.bool false)), none⟩] [(1, 0)])
 (.seq (.region [⟨.mv (.t 0), none⟩, ⟨.call (.c (.fn f_i_within [] [])) [(.l 0), (.c (.int .i64 (0))), (.c (.int .i64 (60)))], none⟩, ⟨.mv (.l 1), none⟩] [(1, 2)])
 .ret))
def a_i_isPlace : AFun := ⟨[0, 2], 5, c_i_isPlace, [.tmp 1], 1⟩
def c_i_isWeight : ACode :=
 (.seq (.region [⟨.mv (.c (.bool false)), none⟩] [(1, 0)])
 (.seq (.region [⟨.mv (.t 0), none⟩, ⟨.call (.c (.fn f_i_within [] [])) [(.l 0), (.c (.int .i64 (1))), (.c (.int .i64 (99)))], none⟩, ⟨.mv (.l 1), none⟩] [(1, 2)])
 .ret))
def a_i_isWeight : AFun := ⟨[0, 2], 5, c_i_isWeight, [.tmp 1], 1⟩
def c_i_IsStage : ACode :=
 (.seq (.region [⟨.box (.t 0), none⟩, ⟨.mv (.c (.bool false)), none⟩] [(1, 0), (2, 1)])
 (.seq (.seq (.region [⟨.fieldAddr 0 (.t 1), none⟩, ⟨.load false 1 (.l 0), none⟩] [(3, 1)])
 (.block 0 (.seq (.seq (.region [⟨.bin 0 .eql (.t 3) (.c (.int .i64 (1))), none⟩, ⟨.mv (.l 0), none⟩] [(4, 1)])
 (.cond (.t 4) .skip (.region [⟨.bin 0 .eql (.t 3) (.c (.int .i64 (3))), none⟩, ⟨.mv (.l 0), none⟩] [(4, 1)])))
 (.cond (.t 4) (.seq (.region [⟨.fieldAddr 1 (.t 1), none⟩, ⟨.load false 1 (.l 0), none⟩, ⟨.call (.c (.fn f_i_isRatio [] [])) [(.l 1)], none⟩, ⟨.mv (.l 2), none⟩, ⟨.fieldAddr 2 (.t 1), some ((.l 3), true)⟩, ⟨.load false 1 (.l 4), some ((.l 3), true)⟩, ⟨.call (.c (.fn f_i_isRatio [] [])) [(.l 5)], some ((.l 3), true)⟩, ⟨.pick (.l 3) (.l 6) (.c (.bool false)), none⟩, ⟨.mv (.l 7), none⟩] [(2, 8)])
 .ret) (.seq (.region [⟨.bin 0 .eql (.t 3) (.c (.int .i64 (2))), none⟩, ⟨.mv (.l 0), none⟩] [(5, 1)])
 (.cond (.t 5) (.seq (.region [⟨.fieldAddr 1 (.t 1), none⟩, ⟨.load false 1 (.l 0), none⟩, ⟨.call (.c (.fn f_i_isRatio [] [])) [(.l 1)], none⟩, ⟨.mv (.l 2), none⟩, ⟨.fieldAddr 2 (.t 1), some ((.l 3), true)⟩, ⟨.load false 1 (.l 4), some ((.l 3), true)⟩, ⟨.bin 0 .eql (.l 5) (.c (.int .i64 (0))), some ((.l 3), true)⟩, ⟨.pick (.l 3) (.l 6) (.c (.bool false)), none⟩, ⟨.mv (.l 7), none⟩] [(2, 8)])
 .ret) (.seq (.region [⟨.bin 0 .eql (.t 3) (.c (.int .i64 (4))), none⟩, ⟨.mv (.l 0), none⟩] [(6, 1)])
 (.cond (.t 6) (.seq (.region [⟨.fieldAddr 1 (.t 1), none⟩, ⟨.load false 1 (.l 0), none⟩, ⟨.call (.c (.fn f_i_isRatio [] [])) [(.l 1)], none⟩, ⟨.mv (.l 2), none⟩, ⟨.fieldAddr 2 (.t 1), some ((.l 3), true)⟩, ⟨.load false 1 (.l 4), some ((.l 3), true)⟩, ⟨.call (.c (.fn f_i_isRatio [] [])) [(.l 5)], some ((.l 3), true)⟩, ⟨.pick (.l 3) (.l 6) (.c (.bool false)), none⟩, ⟨.mv (.l 7), none⟩, ⟨.fieldAddr 1 (.t 1), some ((.l 8), true)⟩, ⟨.load false 1 (.l 9), some ((.l 8), true)⟩, ⟨.fieldAddr 2 (.t 1), some ((.l 8), true)⟩, ⟨.load false 1 (.l 11), some ((.l 8), true)⟩, ⟨.bin 0 .geq (.l 10) (.l 12), some ((.l 8), true)⟩, ⟨.pick (.l 8) (.l 13) (.c (.bool false)), none⟩, ⟨.mv (.l 14), none⟩] [(2, 15)])
 .ret) (.seq (.region [⟨.bin 0 .eql (.t 3) (.c (.int .i64 (5))), none⟩, ⟨.mv (.l 0), none⟩] [(7, 1)])
 (.cond (.t 7) (.seq (.region [⟨.fieldAddr 1 (.t 1), none⟩, ⟨.load false 1 (.l 0), none⟩, ⟨.call (.c (.fn f_i_isRatio [] [])) [(.l 1)], none⟩, ⟨.mv (.l 2), none⟩, ⟨.fieldAddr 2 (.t 1), some ((.l 3), true)⟩, ⟨.load false 1 (.l 4), some ((.l 3), true)⟩, ⟨.call (.c (.fn f_i_isRatio [] [])) [(.l 5)], some ((.l 3), true)⟩, ⟨.pick (.l 3) (.l 6) (.c (.bool false)), none⟩, ⟨.mv (.l 7), none⟩, ⟨.fieldAddr 1 (.t 1), some ((.l 8), true)⟩, ⟨.load false 1 (.l 9), some ((.l 8), true)⟩, ⟨.fieldAddr 2 (.t 1), some ((.l 8), true)⟩, ⟨.load false 1 (.l 11), some ((.l 8), true)⟩, ⟨.bin 0 .gtr (.l 10) (.l 12), some ((.l 8), true)⟩, ⟨.pick (.l 8) (.l 13) (.c (.bool false)), none⟩, ⟨.mv (.l 14), none⟩] [(2, 15)])
 .ret) .skip))))))))))
 (.seq (.region [⟨.mv (.c (.bool false)), none⟩] [(2, 0)])
 .ret)))
def a_i_IsStage : AFun := ⟨[0, 1, 2, 4, 5, 16, 26, 43], 60, c_i_IsStage, [.tmp 2], 1⟩
def c_s_l7Ask : ACode :=
 (.seq (.region [⟨.mv (.c (.bool false)), none⟩] [(2, 0)])
 (.seq (.region [⟨.mv (.t 0), none⟩, ⟨.call (.c (.fn f_s_l7Stages [] [])) [(.l 0), (.c (.int .i64 (5)))], none⟩, ⟨.mv (.l 1), none⟩, ⟨.mv (.t 1), some ((.l 2), true)⟩, ⟨.call (.c (.fn f_s_l1In [] [])) [(.l 3), (.c (.int .i64 (0))), (.c (.int .i64 (1000000)))], some ((.l 2), true)⟩, ⟨.pick (.l 2) (.l 4) (.c (.bool false)), none⟩, ⟨.mv (.l 5), none⟩] [(2, 6)])
 .ret))
def a_s_l7Ask : AFun := ⟨[0, 1, 4], 11, c_s_l7Ask, [.tmp 2], 1⟩
def w_s_l7Chain_1 : ACode :=
 (.seq (.seq (.region [⟨.mv (.t 3), none⟩, ⟨.mv (.t 0), none⟩, ⟨.len (.l 1), none⟩, ⟨.bin 0 .lss (.l 0) (.l 2), none⟩] [(5, 3)])
 (.cond (.t 5) .skip (.exit 0)))
 (.seq (.block 1 (.seq (.region [⟨.mv (.t 0), none⟩, ⟨.mv (.t 3), none⟩, ⟨.indexAddrS 3 (.l 0) (.l 1), none⟩, ⟨.load true 3 (.l 2), none⟩, ⟨.call (.c (.fn f_s_l7Gain [] [])) [(.l 3)], none⟩, ⟨.alloc [.int .i64 (0), .int .i64 (0)], none⟩, ⟨.store 2 (.l 5) (.l 4), none⟩] [(4, 5)])
 (.region [⟨.indexAddrA 2 1 (.t 2) (.c (.int .i64 (0))), none⟩, ⟨.load false 1 (.l 0), none⟩, ⟨.indexAddrA 2 1 (.t 4) (.c (.int .i64 (0))), none⟩, ⟨.load false 1 (.l 2), none⟩, ⟨.bin 0 .mul (.l 1) (.l 3), none⟩, ⟨.indexAddrA 2 1 (.t 2) (.c (.int .i64 (1))), none⟩, ⟨.load false 1 (.l 5), none⟩, ⟨.indexAddrA 2 1 (.t 4) (.c (.int .i64 (1))), none⟩, ⟨.load false 1 (.l 7), none⟩, ⟨.bin 0 .mul (.l 6) (.l 8), none⟩, ⟨.call (.c (.fn f_s_l2Cut [] [])) [(.l 4), (.l 9)], none⟩, ⟨.store 2 (.t 2) (.l 10), none⟩] [])))
 (.region [⟨.mv (.t 3), none⟩, ⟨.bin 0 .add (.l 0) (.c (.int .i64 (1))), none⟩, ⟨.mv (.l 1), none⟩] [(3, 2)])))
def c_s_l7Chain : ACode :=
 (.seq (.region [⟨.alloc [.int .i64 (0), .int .i64 (0)], none⟩] [(1, 0)])
 (.seq (.region [⟨.build [.int .i64 (0), .int .i64 (0)] [(0, 1, (.c (.int .i64 (1)))), (1, 1, (.c (.int .i64 (1))))], none⟩, ⟨.alloc [.int .i64 (0), .int .i64 (0)], none⟩, ⟨.store 2 (.l 1) (.l 0), none⟩] [(2, 1)])
 (.seq (.seq (.region [⟨.mv (.c (.int .i64 (0))), none⟩] [(3, 0)])
 (.block 0 (.loop w_s_l7Chain_1)))
 (.seq (.region [⟨.load true 2 (.t 2), none⟩, ⟨.store 2 (.t 1) (.l 0), none⟩] [])
 .ret))))
def a_s_l7Chain : AFun := ⟨[0, 2, 3, 4, 5, 10], 30, c_s_l7Chain, [.cell 1 true 2], 1⟩
def c_slices_Clone_Si_Load_i_Load : ACode :=
 (.seq (.region [⟨.mv (.c (.slice none 0 0 none)), none⟩] [(1, 0)])
 (.seq (.seq (.region [⟨.mv (.t 0), none⟩, ⟨.bin 3 .eql (.l 0) (.c (.slice none 0 0 none)), none⟩] [(2, 1)])
 (.cond (.t 2) (.seq (.region [⟨.mv (.c (.slice none 0 0 none)), none⟩] [(1, 0)])
 .ret) .skip))
 (.seq (.region [⟨.buildSlice 2 0 [] [], none⟩, ⟨.mv (.t 0), none⟩, ⟨.append false 2 16 (.l 0) (.l 1), none⟩, ⟨.mv (.l 2), none⟩] [(1, 3)])
 .ret)))
def a_slices_Clone_Si_Load_i_Load : AFun := ⟨[0, 2, 4], 8, c_slices_Clone_Si_Load_i_Load, [.tmp 1], 2⟩
def c_slices_Clone_Si_Stage_i_Stage : ACode :=
 (.seq (.region [⟨.mv (.c (.slice none 0 0 none)), none⟩] [(1, 0)])
 (.seq (.seq (.region [⟨.mv (.t 0), none⟩, ⟨.bin 3 .eql (.l 0) (.c (.slice none 0 0 none)), none⟩] [(2, 1)])
 (.cond (.t 2) (.seq (.region [⟨.mv (.c (.slice none 0 0 none)), none⟩] [(1, 0)])
 .ret) .skip))
 (.seq (.region [⟨.buildSlice 3 0 [] [], none⟩, ⟨.mv (.t 0), none⟩, ⟨.append false 3 24 (.l 0) (.l 1), none⟩, ⟨.mv (.l 2), none⟩] [(1, 3)])
 .ret)))
def a_slices_Clone_Si_Stage_i_Stage : AFun := ⟨[0, 2, 4], 8, c_slices_Clone_Si_Stage_i_Stage, [.tmp 1], 2⟩
def c_s_l12May : ACode :=
 (.seq (.region [⟨.box (.t 0), none⟩, ⟨.box (.t 1), none⟩, ⟨.mv (.c (.bool false)), none⟩] [(2, 0), (3, 1), (4, 2)])
 (.seq (.seq (.region [⟨.fieldAddr 0 (.t 3), none⟩, ⟨.load false 1 (.l 0), none⟩] [(5, 1)])
 (.block 0 (.seq (.seq (.region [⟨.bin 0 .eql (.t 5) (.c (.int .i64 (1))), none⟩, ⟨.mv (.l 0), none⟩] [(6, 1)])
 (.cond (.t 6) .skip (.region [⟨.bin 0 .eql (.t 5) (.c (.int .i64 (4))), none⟩, ⟨.mv (.l 0), none⟩] [(6, 1)])))
 (.cond (.t 6) (.seq (.region [⟨.fieldAddr 3 (.t 3), none⟩, ⟨.load false 1 (.l 0), none⟩, ⟨.bin 0 .eql (.l 1) (.c (.int .i64 (0))), none⟩, ⟨.mv (.l 2), none⟩] [(4, 3)])
 .ret) (.seq (.region [⟨.bin 0 .eql (.t 5) (.c (.int .i64 (2))), none⟩, ⟨.mv (.l 0), none⟩] [(7, 1)])
 (.cond (.t 7) (.seq (.region [⟨.fieldAddr 1 (.t 3), none⟩, ⟨.load false 1 (.l 0), none⟩, ⟨.fieldAddr 0 (.t 2), none⟩, ⟨.load false 1 (.l 2), none⟩, ⟨.len (.l 3), none⟩, ⟨.bin 0 .sub (.l 4) (.c (.int .i64 (1))), none⟩, ⟨.call (.c (.fn f_s_l1In [] [])) [(.l 1), (.c (.int .i64 (0))), (.l 5)], none⟩, ⟨.mv (.l 6), none⟩, ⟨.fieldAddr 2 (.t 3), some ((.l 7), true)⟩, ⟨.load false 1 (.l 8), some ((.l 7), true)⟩, ⟨.bin 0 .eql (.l 9) (.c (.int .i64 (0))), some ((.l 7), true)⟩, ⟨.pick (.l 7) (.l 10) (.c (.bool false)), none⟩, ⟨.mv (.l 11), none⟩, ⟨.fieldAddr 3 (.t 3), some ((.l 12), true)⟩, ⟨.load false 1 (.l 13), some ((.l 12), true)⟩, ⟨.bin 0 .eql (.l 14) (.c (.int .i64 (0))), some ((.l 12), true)⟩, ⟨.pick (.l 12) (.l 15) (.c (.bool false)), none⟩, ⟨.mv (.l 16), none⟩] [(4, 17)])
 .ret) (.seq (.region [⟨.bin 0 .eql (.t 5) (.c (.int .i64 (3))), none⟩, ⟨.mv (.l 0), none⟩] [(8, 1)])
 (.cond (.t 8) (.seq (.region [⟨.fieldAddr 1 (.t 3), none⟩, ⟨.load false 1 (.l 0), none⟩, ⟨.fieldAddr 0 (.t 2), none⟩, ⟨.load false 1 (.l 2), none⟩, ⟨.len (.l 3), none⟩, ⟨.bin 0 .sub (.l 4) (.c (.int .i64 (1))), none⟩, ⟨.call (.c (.fn f_s_l1In [] [])) [(.l 1), (.c (.int .i64 (0))), (.l 5)], none⟩, ⟨.mv (.l 6), none⟩, ⟨.fieldAddr 3 (.t 3), some ((.l 7), true)⟩, ⟨.load false 1 (.l 8), some ((.l 7), true)⟩, ⟨.bin 0 .eql (.l 9) (.c (.int .i64 (0))), some ((.l 7), true)⟩, ⟨.pick (.l 7) (.l 10) (.c (.bool false)), none⟩, ⟨.mv (.l 11), none⟩] [(4, 12)])
 .ret) (.seq (.region [⟨.bin 0 .eql (.t 5) (.c (.int .i64 (6))), none⟩, ⟨.mv (.l 0), none⟩] [(9, 1)])
 (.cond (.t 9) (.seq (.region [⟨.fieldAddr 1 (.t 3), none⟩, ⟨.load false 1 (.l 0), none⟩, ⟨.fieldAddr 3 (.t 2), none⟩, ⟨.load false 1 (.l 2), none⟩, ⟨.len (.l 3), none⟩, ⟨.bin 0 .sub (.l 4) (.c (.int .i64 (1))), none⟩, ⟨.call (.c (.fn f_s_l1In [] [])) [(.l 1), (.c (.int .i64 (0))), (.l 5)], none⟩, ⟨.mv (.l 6), none⟩, ⟨.fieldAddr 2 (.t 3), some ((.l 7), true)⟩, ⟨.load false 1 (.l 8), some ((.l 7), true)⟩, ⟨.bin 0 .eql (.l 9) (.c (.int .i64 (0))), some ((.l 7), true)⟩, ⟨.pick (.l 7) (.l 10) (.c (.bool false)), none⟩, ⟨.mv (.l 11), none⟩, ⟨.fieldAddr 3 (.t 3), some ((.l 12), true)⟩, ⟨.load false 1 (.l 13), some ((.l 12), true)⟩, ⟨.bin 0 .eql (.l 14) (.c (.int .i64 (0))), some ((.l 12), true)⟩, ⟨.pick (.l 12) (.l 15) (.c (.bool false)), none⟩, ⟨.mv (.l 16), none⟩] [(4, 17)])
 .ret) .skip))))))))))
 (.seq (.region [⟨.fieldAddr 0 (.t 3), none⟩, ⟨.load false 1 (.l 0), none⟩, ⟨.bin 0 .eql (.l 1) (.c (.int .i64 (5))), none⟩, ⟨.mv (.l 2), none⟩] [(4, 3)])
 .ret)))
def a_s_l12May : AFun := ⟨[0, 1, 2, 3, 4, 6, 7, 13, 32, 46], 68, c_s_l12May, [.tmp 4], 1⟩
def c_s_l12Make : ACode :=
 (.seq (.region [⟨.box (.t 0), none⟩, ⟨.box (.t 1), none⟩, ⟨.alloc [.slice none 0 0 none, .int .i64 (0), .int .i64 (0), .slice none 0 0 none, .int .i64 (0), .int .i64 (0)], none⟩] [(2, 0), (3, 1), (4, 2)])
 (.seq (.region [⟨.load true 6 (.t 2), none⟩, ⟨.call (.c (.fn f_s_l12Own [] [])) [(.l 0)], none⟩, ⟨.alloc [.slice none 0 0 none, .int .i64 (0), .int .i64 (0), .slice none 0 0 none, .int .i64 (0), .int .i64 (0)], none⟩, ⟨.store 6 (.l 2) (.l 1), none⟩] [(5, 2)])
 (.seq (.seq (.region [⟨.fieldAddr 0 (.t 3), none⟩, ⟨.load false 1 (.l 0), none⟩] [(6, 1)])
 (.block 0 (.seq (.region [⟨.bin 0 .eql (.t 6) (.c (.int .i64 (1))), none⟩, ⟨.mv (.l 0), none⟩] [(7, 1)])
 (.cond (.t 7) (.region [⟨.fieldAddr 0 (.t 5), none⟩, ⟨.load false 1 (.l 0), none⟩, ⟨.fieldAddr 1 (.t 3), none⟩, ⟨.load false 1 (.l 2), none⟩, ⟨.fieldAddr 2 (.t 3), none⟩, ⟨.load false 1 (.l 4), none⟩, ⟨.build [.int .i64 (0), .int .i64 (0)] [(0, 1, (.l 3)), (1, 1, (.l 5))], none⟩, ⟨.buildSlice 2 1 [.int .i64 (0), .int .i64 (0)] [(0, 2, (.l 6))], none⟩, ⟨.append false 2 16 (.l 1) (.l 7), none⟩, ⟨.fieldAddr 0 (.t 5), none⟩, ⟨.store 1 (.l 9) (.l 8), none⟩] []) (.seq (.region [⟨.bin 0 .eql (.t 6) (.c (.int .i64 (2))), none⟩, ⟨.mv (.l 0), none⟩] [(8, 1)])
 (.cond (.t 8) (.draw [⟨.fieldAddr 0 (.t 5), none, []⟩, ⟨.load false 1 (.l 0), none, []⟩, ⟨.fieldAddr 1 (.t 3), none, []⟩, ⟨.load false 1 (.l 2), none, []⟩, ⟨.sliceSl 2 (.l 1) none (some (.l 3)) none, none, []⟩, ⟨.fieldAddr 0 (.t 5), none, []⟩, ⟨.load false 1 (.l 5), none, []⟩, ⟨.fieldAddr 1 (.t 3), none, []⟩, ⟨.load false 1 (.l 7), none, []⟩, ⟨.bin 0 .add (.l 8) (.c (.int .i64 (1))), none, []⟩, ⟨.sliceSl 2 (.l 6) (some (.l 9)) none none, none, []⟩, ⟨.append false 2 16 (.l 4) (.l 10), none, []⟩, ⟨.fieldAddr 0 (.t 5), none, []⟩, ⟨.store 1 (.l 12) (.l 11), none, []⟩] []) (.seq (.region [⟨.bin 0 .eql (.t 6) (.c (.int .i64 (3))), none⟩, ⟨.mv (.l 0), none⟩] [(9, 1)])
 (.cond (.t 9) (.region [⟨.fieldAddr 0 (.t 5), none⟩, ⟨.load false 1 (.l 0), none⟩, ⟨.fieldAddr 1 (.t 3), none⟩, ⟨.load false 1 (.l 2), none⟩, ⟨.fieldAddr 2 (.t 3), none⟩, ⟨.load false 1 (.l 4), none⟩, ⟨.indexAddrS 2 (.l 1) (.l 3), none⟩, ⟨.fieldAddr 0 (.l 6), none⟩, ⟨.store 1 (.l 7) (.l 5), none⟩] []) (.seq (.region [⟨.bin 0 .eql (.t 6) (.c (.int .i64 (4))), none⟩, ⟨.mv (.l 0), none⟩] [(10, 1)])
 (.cond (.t 10) (.seq (.region [⟨.fieldAddr 1 (.t 3), none⟩, ⟨.load false 1 (.l 0), none⟩, ⟨.fieldAddr 1 (.t 5), none⟩, ⟨.store 1 (.l 2) (.l 1), none⟩] [])
 (.region [⟨.fieldAddr 2 (.t 3), none⟩, ⟨.load false 1 (.l 0), none⟩, ⟨.fieldAddr 2 (.t 5), none⟩, ⟨.store 1 (.l 2) (.l 1), none⟩] [])) (.seq (.region [⟨.bin 0 .eql (.t 6) (.c (.int .i64 (5))), none⟩, ⟨.mv (.l 0), none⟩] [(11, 1)])
 (.cond (.t 11) (.region [⟨.fieldAddr 3 (.t 5), none⟩, ⟨.load false 1 (.l 0), none⟩, ⟨.fieldAddr 1 (.t 3), none⟩, ⟨.load false 1 (.l 2), none⟩, ⟨.fieldAddr 2 (.t 3), none⟩, ⟨.load false 1 (.l 4), none⟩, ⟨.fieldAddr 3 (.t 3), none⟩, ⟨.load false 1 (.l 6), none⟩, ⟨.build [.int .i64 (0), .int .i64 (0), .int .i64 (0)] [(0, 1, (.l 3)), (1, 1, (.l 5)), (2, 1, (.l 7))], none⟩, ⟨.buildSlice 3 1 [.int .i64 (0), .int .i64 (0), .int .i64 (0)] [(0, 3, (.l 8))], none⟩, ⟨.append false 3 24 (.l 1) (.l 9), none⟩, ⟨.fieldAddr 3 (.t 5), none⟩, ⟨.store 1 (.l 11) (.l 10), none⟩] []) (.seq (.region [⟨.bin 0 .eql (.t 6) (.c (.int .i64 (6))), none⟩, ⟨.mv (.l 0), none⟩] [(12, 1)])
 (.cond (.t 12) (.draw [⟨.fieldAddr 3 (.t 5), none, []⟩, ⟨.load false 1 (.l 0), none, []⟩, ⟨.fieldAddr 1 (.t 3), none, []⟩, ⟨.load false 1 (.l 2), none, []⟩, ⟨.sliceSl 3 (.l 1) none (some (.l 3)) none, none, []⟩, ⟨.fieldAddr 3 (.t 5), none, []⟩, ⟨.load false 1 (.l 5), none, []⟩, ⟨.fieldAddr 1 (.t 3), none, []⟩, ⟨.load false 1 (.l 7), none, []⟩, ⟨.bin 0 .add (.l 8) (.c (.int .i64 (1))), none, []⟩, ⟨.sliceSl 3 (.l 6) (some (.l 9)) none none, none, []⟩, ⟨.append false 3 24 (.l 4) (.l 10), none, []⟩, ⟨.fieldAddr 3 (.t 5), none, []⟩, ⟨.store 1 (.l 12) (.l 11), none, []⟩] []) .skip))))))))))))))
 (.seq (.region [⟨.load true 6 (.t 5), none⟩, ⟨.store 6 (.t 4) (.l 0), none⟩] [])
 .ret))))
def a_s_l12Make : AFun := ⟨[0, 1, 2, 3, 4, 5, 9, 10, 22, 37, 47, 55, 69], 85, c_s_l12Make, [.cell 4 true 6], 2⟩
def c_s_l2Side : ACode :=
 (.seq (.region [⟨.mv (.c (.int .i64 (0))), none⟩] [(3, 0)])
 (.seq (.seq (.region [⟨.mv (.t 0), none⟩, ⟨.mv (.t 1), none⟩, ⟨.call (.c (.fn f_s_l2Moment [] [])) [(.l 0), (.l 1)], none⟩, ⟨.bin 0 .lss (.l 2) (.c (.int .i64 (0))), none⟩] [(4, 3)])
 (.cond (.t 4) (.seq (.region [⟨.mv (.c (.int .i64 (-1))), none⟩] [(3, 0)])
 .ret) .skip))
 (.seq (.seq (.region [⟨.mv (.t 0), none⟩, ⟨.mv (.t 2), none⟩, ⟨.call (.c (.fn f_s_l2Moment [] [])) [(.l 0), (.l 1)], none⟩, ⟨.bin 0 .gtr (.l 2) (.c (.int .i64 (0))), none⟩] [(5, 3)])
 (.cond (.t 5) (.seq (.region [⟨.mv (.c (.int .i64 (1))), none⟩] [(3, 0)])
 .ret) .skip))
 (.seq (.region [⟨.mv (.c (.int .i64 (0))), none⟩] [(3, 0)])
 .ret))))
def a_s_l2Side : AFun := ⟨[0, 1, 2, 6, 10, 14], 15, c_s_l2Side, [.tmp 3], 1⟩
def w_i_momentAbout_1 : ACode :=
 (.seq (.region [⟨.bin 0 .lss (.t 7) (.t 6), none⟩] [(8, 0)])
 (.seq (.cond (.t 8) .skip (.exit 0))
 (.seq (.block 1 (.seq (.region [⟨.indexAddrS 2 (.t 5) (.t 7), none⟩, ⟨.load true 2 (.l 0), none⟩, ⟨.alloc [.int .i64 (0), .int .i64 (0)], none⟩, ⟨.store 2 (.l 2) (.l 1), none⟩] [(4, 2)])
 (.region [⟨.mv (.t 3), none⟩, ⟨.fieldAddr 1 (.t 4), none⟩, ⟨.load false 1 (.l 1), none⟩, ⟨.fieldAddr 0 (.t 4), none⟩, ⟨.load false 1 (.l 3), none⟩, ⟨.mv (.t 1), none⟩, ⟨.bin 0 .sub (.l 4) (.l 5), none⟩, ⟨.bin 0 .mul (.l 2) (.l 6), none⟩, ⟨.bin 0 .add (.l 0) (.l 7), none⟩, ⟨.mv (.l 8), none⟩] [(3, 9)])))
 (.region [⟨.bin 0 .add (.t 7) (.c (.int .i64 (1))), none⟩, ⟨.mv (.l 0), none⟩] [(7, 1)]))))
def c_i_momentAbout : ACode :=
 (.seq (.region [⟨.mv (.c (.int .i64 (0))), none⟩] [(2, 0)])
 (.seq (.region [⟨.mv (.c (.int .i64 (0))), none⟩] [(3, 0)])
 (.seq (.seq (.region [⟨.mv (.t 0), none⟩, ⟨.len (.l 0), none⟩, ⟨.mv (.c (.int .i64 (0))), none⟩] [(5, 0), (6, 1), (7, 2)])
 (.block 0 (.loop w_i_momentAbout_1)))
 (.seq (.region [⟨.mv (.t 3), none⟩, ⟨.mv (.l 0), none⟩] [(2, 1)])
 .ret))))
def a_i_momentAbout : AFun := ⟨[0, 1, 4, 5, 7, 8, 9, 10, 11], 25, c_i_momentAbout, [.tmp 2], 1⟩
def c_s_l1Cur_one : ACode :=
 (.seq (.region [⟨.mv (.c (.bool false)), none⟩] [(2, 0)])
 (.seq (.region [⟨.mv (.t 0), none⟩, ⟨.mv (.t 1), none⟩, ⟨.call (.c (.fn f_s_l1Cur_pick [] [])) [(.l 0), (.l 1)], none⟩, ⟨.bin 0 .eql (.l 2) (.c (.int .i64 (0))), none⟩, ⟨.mv (.l 3), none⟩] [(2, 4)])
 .ret))
def a_s_l1Cur_one : AFun := ⟨[0, 1, 4], 9, c_s_l1Cur_one, [.tmp 2], 1⟩
def c_s_l1Cur_among : ACode :=
 (.seq (.region [⟨.mv (.c (.int .i64 (0))), none⟩] [(2, 0)])
 (.seq (.region [⟨.mv (.t 1), none⟩, ⟨.mv (.t 0), none⟩, ⟨.mv (.t 1), none⟩, ⟨.len (.l 2), none⟩, ⟨.call (.c (.fn f_s_l1Cur_pick [] [])) [(.l 1), (.l 3)], none⟩, ⟨.indexAddrS 1 (.l 0) (.l 4), none⟩, ⟨.load false 1 (.l 5), none⟩, ⟨.mv (.l 6), none⟩] [(2, 7)])
 .ret))
def a_s_l1Cur_among : AFun := ⟨[0, 1, 4], 12, c_s_l1Cur_among, [.tmp 2], 1⟩
def c_s_l1Most : ACode :=
 (.seq (.region [⟨.mv (.c (.int .i64 (0))), none⟩] [(2, 0)])
 (.seq (.seq (.region [⟨.mv (.t 0), none⟩, ⟨.mv (.t 1), none⟩, ⟨.bin 0 .gtr (.l 0) (.l 1), none⟩] [(3, 2)])
 (.cond (.t 3) (.seq (.region [⟨.mv (.t 0), none⟩, ⟨.mv (.l 0), none⟩] [(2, 1)])
 .ret) .skip))
 (.seq (.region [⟨.mv (.t 1), none⟩, ⟨.mv (.l 0), none⟩] [(2, 1)])
 .ret)))
def a_s_l1Most : AFun := ⟨[0, 1, 4, 7], 10, c_s_l1Most, [.tmp 2], 1⟩
def c_s_l1Least : ACode :=
 (.seq (.region [⟨.mv (.c (.int .i64 (0))), none⟩] [(2, 0)])
 (.seq (.seq (.region [⟨.mv (.t 0), none⟩, ⟨.mv (.t 1), none⟩, ⟨.bin 0 .lss (.l 0) (.l 1), none⟩] [(3, 2)])
 (.cond (.t 3) (.seq (.region [⟨.mv (.t 0), none⟩, ⟨.mv (.l 0), none⟩] [(2, 1)])
 .ret) .skip))
 (.seq (.region [⟨.mv (.t 1), none⟩, ⟨.mv (.l 0), none⟩] [(2, 1)])
 .ret)))
def a_s_l1Least : AFun := ⟨[0, 1, 4, 7], 10, c_s_l1Least, [.tmp 2], 1⟩
def c_s_l1Cur_stage7 : ACode :=
 (.seq (.region [⟨.alloc [.int .i64 (0), .int .i64 (0), .int .i64 (0)], none⟩] [(1, 0)])
 (.seq (.region [⟨.mv (.t 0), none⟩, ⟨.buildSlice 1 5 [.int .i64 (0), .int .i64 (0), .int .i64 (0), .int .i64 (0), .int .i64 (0)] [(0, 1, (.c (.int .i64 (1)))), (1, 1, (.c (.int .i64 (2)))), (2, 1, (.c (.int .i64 (3)))), (3, 1, (.c (.int .i64 (4)))), (4, 1, (.c (.int .i64 (5))))], none⟩, ⟨.call (.c (.fn f_s_l1Cur_among [] [])) [(.l 0), (.l 1)], none⟩, ⟨.mv (.t 0), none⟩, ⟨.call (.c (.fn f_s_l1Cur_pick [] [])) [(.l 3), (.c (.int .i64 (6)))], none⟩, ⟨.bin 0 .add (.c (.int .i64 (1))) (.l 4), none⟩, ⟨.mv (.t 0), none⟩, ⟨.call (.c (.fn f_s_l1Cur_pick [] [])) [(.l 6), (.c (.int .i64 (4)))], none⟩, ⟨.bin 0 .add (.c (.int .i64 (1))) (.l 7), none⟩, ⟨.build [.int .i64 (0), .int .i64 (0), .int .i64 (0)] [(0, 1, (.l 2)), (1, 1, (.l 5)), (2, 1, (.l 8))], none⟩, ⟨.alloc [.int .i64 (0), .int .i64 (0), .int .i64 (0)], none⟩, ⟨.store 3 (.l 10) (.l 9), none⟩] [(2, 10)])
 (.seq (.seq (.region [⟨.fieldAddr 0 (.t 2), none⟩, ⟨.load false 1 (.l 0), none⟩] [(3, 1)])
 (.block 0 (.seq (.region [⟨.bin 0 .eql (.t 3) (.c (.int .i64 (2))), none⟩, ⟨.mv (.l 0), none⟩] [(4, 1)])
 (.cond (.t 4) (.region [⟨.fieldAddr 2 (.t 2), none⟩, ⟨.store 1 (.l 0) (.c (.int .i64 (0))), none⟩] []) (.seq (.region [⟨.bin 0 .eql (.t 3) (.c (.int .i64 (4))), none⟩, ⟨.mv (.l 0), none⟩] [(5, 1)])
 (.cond (.t 5) (.region [⟨.fieldAddr 1 (.t 2), none⟩, ⟨.load false 1 (.l 0), none⟩, ⟨.fieldAddr 2 (.t 2), none⟩, ⟨.load false 1 (.l 2), none⟩, ⟨.call (.c (.fn f_s_l1Most [] [])) [(.l 1), (.l 3)], none⟩, ⟨.fieldAddr 1 (.t 2), none⟩, ⟨.store 1 (.l 5) (.l 4), none⟩] []) (.seq (.region [⟨.bin 0 .eql (.t 3) (.c (.int .i64 (5))), none⟩, ⟨.mv (.l 0), none⟩] [(6, 1)])
 (.cond (.t 6) (.region [⟨.fieldAddr 2 (.t 2), none⟩, ⟨.load false 1 (.l 0), none⟩, ⟨.fieldAddr 1 (.t 2), none⟩, ⟨.load false 1 (.l 2), none⟩, ⟨.bin 0 .add (.l 1) (.l 3), none⟩, ⟨.fieldAddr 1 (.t 2), none⟩, ⟨.store 1 (.l 5) (.l 4), none⟩] []) .skip))))))))
 (.seq (.seq (.region [⟨.mv (.t 0), none⟩, ⟨.call (.c (.fn f_s_l1Cur_pick [] [])) [(.l 0), (.c (.int .i64 (40)))], none⟩] [(7, 1)])
 (.block 1 (.seq (.region [⟨.bin 0 .eql (.t 7) (.c (.int .i64 (0))), none⟩, ⟨.mv (.l 0), none⟩] [(8, 1)])
 (.cond (.t 8) (.region [⟨.mv (.t 0), none⟩, ⟨.buildSlice 1 4 [.int .i64 (0), .int .i64 (0), .int .i64 (0), .int .i64 (0)] [(0, 1, (.c (.int .i64 (0)))), (1, 1, (.c (.int .i64 (-1)))), (2, 1, (.c (.int .i64 (24)))), (3, 1, (.c (.int .i64 (25))))], none⟩, ⟨.call (.c (.fn f_s_l1Cur_among [] [])) [(.l 0), (.l 1)], none⟩, ⟨.fieldAddr 1 (.t 2), none⟩, ⟨.store 1 (.l 3) (.l 2), none⟩] []) (.seq (.region [⟨.bin 0 .eql (.t 7) (.c (.int .i64 (1))), none⟩, ⟨.mv (.l 0), none⟩] [(9, 1)])
 (.cond (.t 9) (.region [⟨.mv (.t 0), none⟩, ⟨.buildSlice 1 4 [.int .i64 (0), .int .i64 (0), .int .i64 (0), .int .i64 (0)] [(0, 1, (.c (.int .i64 (0)))), (1, 1, (.c (.int .i64 (24)))), (2, 1, (.c (.int .i64 (25)))), (3, 1, (.c (.int .i64 (-1))))], none⟩, ⟨.call (.c (.fn f_s_l1Cur_among [] [])) [(.l 0), (.l 1)], none⟩, ⟨.fieldAddr 2 (.t 2), none⟩, ⟨.store 1 (.l 3) (.l 2), none⟩] []) (.seq (.region [⟨.bin 0 .eql (.t 7) (.c (.int .i64 (2))), none⟩, ⟨.mv (.l 0), none⟩] [(10, 1)])
 (.cond (.t 10) (.region [⟨.mv (.t 0), none⟩, ⟨.buildSlice 1 3 [.int .i64 (0), .int .i64 (0), .int .i64 (0)] [(0, 1, (.c (.int .i64 (0)))), (1, 1, (.c (.int .i64 (6)))), (2, 1, (.c (.int .i64 (-1))))], none⟩, ⟨.call (.c (.fn f_s_l1Cur_among [] [])) [(.l 0), (.l 1)], none⟩, ⟨.fieldAddr 0 (.t 2), none⟩, ⟨.store 1 (.l 3) (.l 2), none⟩] []) .skip))))))))
 (.seq (.region [⟨.load true 3 (.t 2), none⟩, ⟨.store 3 (.t 1) (.l 0), none⟩] [])
 .ret)))))
def a_s_l1Cur_stage7 : AFun := ⟨[0, 2, 3, 15, 16, 19, 27, 36, 37, 43, 49], 56, c_s_l1Cur_stage7, [.cell 1 true 3], 1⟩
def c_s_l1Cur_next : ACode :=
 (.seq (.region [⟨.mv (.c (.int .i64 (0))), none⟩] [(1, 0)])
 (.seq (.region [⟨.mv (.c (.int .i64 (0))), none⟩] [(2, 0)])
 (.seq (.seq (.draw [⟨.mv (.t 0), none, []⟩, ⟨.nilCheck (.l 0), none, []⟩, ⟨.fieldAddr 1 (.l 1), none, []⟩, ⟨.load false 1 (.l 2), none, []⟩, ⟨.mv (.t 0), none, []⟩, ⟨.nilCheck (.l 4), none, []⟩, ⟨.fieldAddr 0 (.l 5), none, []⟩, ⟨.load false 1 (.l 6), none, []⟩, ⟨.len (.l 7), none, []⟩, ⟨.bin 0 .lss (.l 3) (.l 8), none, []⟩] [(3, 9)])
 (.cond (.t 3) (.draw [⟨.mv (.t 0), none, []⟩, ⟨.nilCheck (.l 0), none, []⟩, ⟨.fieldAddr 0 (.l 1), none, []⟩, ⟨.load false 1 (.l 2), none, []⟩, ⟨.mv (.t 0), none, []⟩, ⟨.nilCheck (.l 4), none, []⟩, ⟨.fieldAddr 1 (.l 5), none, []⟩, ⟨.load false 1 (.l 6), none, []⟩, ⟨.indexAddrS 1 (.l 3) (.l 7), none, []⟩, ⟨.load false 1 (.l 8), none, []⟩, ⟨.conv .i64 (.l 9), none, []⟩, ⟨.mv (.l 10), none, []⟩] [(2, 11)]) .skip))
 (.seq (.region [⟨.mv (.t 0), none⟩, ⟨.nilCheck (.l 0), none⟩, ⟨.fieldAddr 1 (.l 1), none⟩, ⟨.load false 1 (.l 2), none⟩, ⟨.bin 0 .add (.l 3) (.c (.int .i64 (1))), none⟩, ⟨.nilCheck (.l 0), none⟩, ⟨.fieldAddr 1 (.l 5), none⟩, ⟨.store 1 (.l 6) (.l 4), none⟩] [])
 (.seq (.region [⟨.mv (.t 0), none⟩, ⟨.mv (.t 0), none⟩, ⟨.nilCheck (.l 1), none⟩, ⟨.fieldAddr 2 (.l 2), none⟩, ⟨.load false 1 (.l 3), none⟩, ⟨.bin 0 .mul (.l 4) (.c (.int .u64 (6364136223846793005))), none⟩, ⟨.mv (.t 2), none⟩, ⟨.conv .u64 (.l 6), none⟩, ⟨.bin 0 .add (.l 5) (.l 7), none⟩, ⟨.bin 0 .add (.l 8) (.c (.int .u64 (462197))), none⟩, ⟨.nilCheck (.l 0), none⟩, ⟨.fieldAddr 2 (.l 10), none⟩, ⟨.store 1 (.l 11) (.l 9), none⟩] [])
 (.seq (.seq (.draw [⟨.mv (.t 0), none, []⟩, ⟨.nilCheck (.l 0), none, []⟩, ⟨.fieldAddr 1 (.l 1), none, []⟩, ⟨.load false 1 (.l 2), none, []⟩, ⟨.mv (.t 0), none, []⟩, ⟨.nilCheck (.l 4), none, []⟩, ⟨.fieldAddr 0 (.l 5), none, []⟩, ⟨.load false 1 (.l 6), none, []⟩, ⟨.len (.l 7), none, []⟩, ⟨.bin 0 .leq (.l 3) (.l 8), none, []⟩] [(4, 9)])
 (.cond (.t 4) (.seq (.region [⟨.mv (.t 2), none⟩, ⟨.mv (.l 0), none⟩] [(1, 1)])
 .ret) .skip))
 (.seq (.region [⟨.mv (.t 0), none⟩, ⟨.nilCheck (.l 0), none⟩, ⟨.fieldAddr 2 (.l 1), none⟩, ⟨.load false 1 (.l 2), none⟩, ⟨.bin 0 .shr (.l 3) (.c (.int .u64 (40))), none⟩, ⟨.bin 0 .and (.l 4) (.c (.int .u64 (255))), none⟩, ⟨.conv .i64 (.l 5), none⟩, ⟨.mv (.l 6), none⟩] [(1, 7)])
 .ret)))))))
def a_s_l1Cur_next : AFun := ⟨[0, 2, 3, 13, 53], 62, c_s_l1Cur_next, [.tmp 1], 1⟩
def c_i_isHaul : ACode :=
 (.seq (.region [⟨.mv (.c (.bool false)), none⟩] [(1, 0)])
 (.seq (.region [⟨.mv (.t 0), none⟩, ⟨.call (.c (.fn f_i_within [] [])) [(.l 0), (.c (.int .i64 (0))), (.c (.int .i64 (1000000)))], none⟩, ⟨.mv (.l 1), none⟩] [(1, 2)])
 .ret))
def a_i_isHaul : AFun := ⟨[0, 2], 5, c_i_isHaul, [.tmp 1], 1⟩
def c_i_fraction : ACode :=
 (.seq (.region [⟨.alloc [.int .i64 (0), .int .i64 (0)], none⟩] [(2, 0)])
 (.seq (.region [⟨.mv (.t 0), none⟩, ⟨.mv (.t 0), none⟩, ⟨.un .neg (.l 1), none⟩, ⟨.max2 (.l 0) (.l 2), none⟩, ⟨.mv (.t 1), none⟩, ⟨.call (.c (.fn f_i_divisor [] [])) [(.l 3), (.l 4)], none⟩, ⟨.mv (.l 5), none⟩] [(3, 6)])
 (.seq (.draw [⟨.mv (.t 0), none, []⟩, ⟨.mv (.t 3), none, []⟩, ⟨.bin 0 .quo (.l 0) (.l 1), none, []⟩, ⟨.mv (.t 1), none, []⟩, ⟨.mv (.t 3), none, []⟩, ⟨.bin 0 .quo (.l 3) (.l 4), none, []⟩, ⟨.build [.int .i64 (0), .int .i64 (0)] [(0, 1, (.l 2)), (1, 1, (.l 5))], none, []⟩, ⟨.store 2 (.t 2) (.l 6), none, []⟩] [])
 .ret)))
def a_i_fraction : AFun := ⟨[0, 1, 4, 5], 19, c_i_fraction, [.cell 2 true 2], 1⟩
def c_i_stageGain : ACode :=
 (.seq (.region [⟨.box (.t 0), none⟩, ⟨.alloc [.int .i64 (0), .int .i64 (0)], none⟩] [(1, 0), (2, 1)])
 (.seq (.seq (.region [⟨.fieldAddr 0 (.t 1), none⟩, ⟨.load false 1 (.l 0), none⟩] [(3, 1)])
 (.block 0 (.seq (.region [⟨.bin 0 .eql (.t 3) (.c (.int .i64 (2))), none⟩, ⟨.mv (.l 0), none⟩] [(4, 1)])
 (.cond (.t 4) (.seq (.region [⟨.fieldAddr 1 (.t 1), none⟩, ⟨.load false 1 (.l 0), none⟩, ⟨.build [.int .i64 (0), .int .i64 (0)] [(0, 1, (.l 1)), (1, 1, (.c (.int .i64 (1))))], none⟩, ⟨.store 2 (.t 2) (.l 2), none⟩] [])
 .ret) (.seq (.region [⟨.bin 0 .eql (.t 3) (.c (.int .i64 (5))), none⟩, ⟨.mv (.l 0), none⟩] [(5, 1)])
 (.cond (.t 5) (.seq (.region [⟨.fieldAddr 1 (.t 1), none⟩, ⟨.load false 1 (.l 0), none⟩, ⟨.bin 0 .mul (.c (.int .i64 (2))) (.l 1), none⟩, ⟨.fieldAddr 1 (.t 1), none⟩, ⟨.load false 1 (.l 3), none⟩, ⟨.fieldAddr 2 (.t 1), none⟩, ⟨.load false 1 (.l 5), none⟩, ⟨.bin 0 .sub (.l 4) (.l 6), none⟩, ⟨.call (.c (.fn f_i_fraction [] [])) [(.l 2), (.l 7)], none⟩, ⟨.store 2 (.t 2) (.l 8), none⟩] [])
 .ret) .skip))))))
 (.seq (.region [⟨.fieldAddr 1 (.t 1), none⟩, ⟨.load false 1 (.l 0), none⟩, ⟨.fieldAddr 2 (.t 1), none⟩, ⟨.load false 1 (.l 2), none⟩, ⟨.call (.c (.fn f_i_fraction [] [])) [(.l 1), (.l 3)], none⟩, ⟨.store 2 (.t 2) (.l 4), none⟩] [])
 .ret)))
def a_i_stageGain : AFun := ⟨[0, 1, 2, 4, 5, 10], 26, c_i_stageGain, [.cell 2 true 2], 1⟩
def w_s_l2Row_1 : ACode :=
 (.seq (.seq (.region [⟨.mv (.t 2), none⟩, ⟨.mv (.t 0), none⟩, ⟨.len (.l 1), none⟩, ⟨.bin 0 .lss (.l 0) (.l 2), none⟩, ⟨.mv (.l 3), none⟩, ⟨.mv (.t 2), some ((.l 4), true)⟩, ⟨.bin 0 .leq (.l 5) (.c (.int .i64 (12))), some ((.l 4), true)⟩, ⟨.pick (.l 4) (.l 6) (.c (.bool false)), none⟩] [(3, 7)])
 (.cond (.t 3) .skip (.exit 0)))
 (.seq (.block 1 (.seq (.region [⟨.mv (.t 0), none⟩, ⟨.mv (.t 2), none⟩, ⟨.indexAddrS 2 (.l 0) (.l 1), none⟩, ⟨.fieldAddr 0 (.l 2), none⟩, ⟨.load false 1 (.l 3), none⟩, ⟨.call (.c (.fn f_s_l2In [] [])) [(.l 4)], none⟩, ⟨.un .not (.l 5), none⟩, ⟨.mv (.l 6), none⟩, ⟨.mv (.t 0), some ((.l 7), false)⟩, ⟨.mv (.t 2), some ((.l 7), false)⟩, ⟨.indexAddrS 2 (.l 8) (.l 9), some ((.l 7), false)⟩, ⟨.fieldAddr 1 (.l 10), some ((.l 7), false)⟩, ⟨.load false 1 (.l 11), some ((.l 7), false)⟩, ⟨.call (.c (.fn f_s_l1In [] [])) [(.l 12), (.c (.int .i64 (1))), (.c (.int .i64 (99)))], some ((.l 7), false)⟩, ⟨.un .not (.l 13), some ((.l 7), false)⟩, ⟨.pick (.l 7) (.c (.bool true)) (.l 14), none⟩] [(4, 15)])
 (.cond (.t 4) (.seq (.region [⟨.mv (.c (.bool false)), none⟩] [(1, 0)])
 .ret) .skip)))
 (.region [⟨.mv (.t 2), none⟩, ⟨.bin 0 .add (.l 0) (.c (.int .i64 (1))), none⟩, ⟨.mv (.l 1), none⟩] [(2, 2)])))
def c_s_l2Row : ACode :=
 (.seq (.region [⟨.mv (.c (.bool false)), none⟩] [(1, 0)])
 (.seq (.seq (.region [⟨.mv (.c (.int .i64 (0))), none⟩] [(2, 0)])
 (.block 0 (.loop w_s_l2Row_1)))
 (.seq (.region [⟨.mv (.t 0), none⟩, ⟨.len (.l 0), none⟩, ⟨.bin 0 .leq (.l 1) (.c (.int .i64 (12))), none⟩, ⟨.mv (.l 2), none⟩] [(1, 3)])
 .ret)))
def a_s_l2Row : AFun := ⟨[0, 2, 3, 11, 29], 33, c_s_l2Row, [.tmp 1], 1⟩
def c_s_l7Stage : ACode :=
 (.seq (.region [⟨.box (.t 0), none⟩, ⟨.mv (.c (.bool false)), none⟩] [(1, 0), (2, 1)])
 (.seq (.seq (.region [⟨.fieldAddr 0 (.t 1), none⟩, ⟨.load false 1 (.l 0), none⟩] [(3, 1)])
 (.block 0 (.seq (.seq (.region [⟨.bin 0 .eql (.t 3) (.c (.int .i64 (1))), none⟩, ⟨.mv (.l 0), none⟩] [(4, 1)])
 (.cond (.t 4) .skip (.region [⟨.bin 0 .eql (.t 3) (.c (.int .i64 (3))), none⟩, ⟨.mv (.l 0), none⟩] [(4, 1)])))
 (.cond (.t 4) (.seq (.region [⟨.fieldAddr 1 (.t 1), none⟩, ⟨.load false 1 (.l 0), none⟩, ⟨.fieldAddr 2 (.t 1), none⟩, ⟨.load false 1 (.l 2), none⟩, ⟨.call (.c (.fn f_s_l7Two [] [])) [(.l 1), (.l 3)], none⟩, ⟨.mv (.l 4), none⟩] [(2, 5)])
 .ret) (.seq (.region [⟨.bin 0 .eql (.t 3) (.c (.int .i64 (2))), none⟩, ⟨.mv (.l 0), none⟩] [(5, 1)])
 (.cond (.t 5) (.seq (.region [⟨.fieldAddr 1 (.t 1), none⟩, ⟨.load false 1 (.l 0), none⟩, ⟨.call (.c (.fn f_s_l1In [] [])) [(.l 1), (.c (.int .i64 (1))), (.c (.int .i64 (24)))], none⟩, ⟨.mv (.l 2), none⟩, ⟨.fieldAddr 2 (.t 1), some ((.l 3), true)⟩, ⟨.load false 1 (.l 4), some ((.l 3), true)⟩, ⟨.bin 0 .eql (.l 5) (.c (.int .i64 (0))), some ((.l 3), true)⟩, ⟨.pick (.l 3) (.l 6) (.c (.bool false)), none⟩, ⟨.mv (.l 7), none⟩] [(2, 8)])
 .ret) (.seq (.region [⟨.bin 0 .eql (.t 3) (.c (.int .i64 (4))), none⟩, ⟨.mv (.l 0), none⟩] [(6, 1)])
 (.cond (.t 6) (.seq (.region [⟨.fieldAddr 1 (.t 1), none⟩, ⟨.load false 1 (.l 0), none⟩, ⟨.fieldAddr 2 (.t 1), none⟩, ⟨.load false 1 (.l 2), none⟩, ⟨.call (.c (.fn f_s_l7Two [] [])) [(.l 1), (.l 3)], none⟩, ⟨.mv (.l 4), none⟩, ⟨.fieldAddr 1 (.t 1), some ((.l 5), true)⟩, ⟨.load false 1 (.l 6), some ((.l 5), true)⟩, ⟨.fieldAddr 2 (.t 1), some ((.l 5), true)⟩, ⟨.load false 1 (.l 8), some ((.l 5), true)⟩, ⟨.bin 0 .geq (.l 7) (.l 9), some ((.l 5), true)⟩, ⟨.pick (.l 5) (.l 10) (.c (.bool false)), none⟩, ⟨.mv (.l 11), none⟩] [(2, 12)])
 .ret) (.seq (.region [⟨.bin 0 .eql (.t 3) (.c (.int .i64 (5))), none⟩, ⟨.mv (.l 0), none⟩] [(7, 1)])
 (.cond (.t 7) (.seq (.region [⟨.fieldAddr 1 (.t 1), none⟩, ⟨.load false 1 (.l 0), none⟩, ⟨.fieldAddr 2 (.t 1), none⟩, ⟨.load false 1 (.l 2), none⟩, ⟨.call (.c (.fn f_s_l7Two [] [])) [(.l 1), (.l 3)], none⟩, ⟨.mv (.l 4), none⟩, ⟨.fieldAddr 1 (.t 1), some ((.l 5), true)⟩, ⟨.load false 1 (.l 6), some ((.l 5), true)⟩, ⟨.fieldAddr 2 (.t 1), some ((.l 5), true)⟩, ⟨.load false 1 (.l 8), some ((.l 5), true)⟩, ⟨.bin 0 .gtr (.l 7) (.l 9), some ((.l 5), true)⟩, ⟨.pick (.l 5) (.l 10) (.c (.bool false)), none⟩, ⟨.mv (.l 11), none⟩] [(2, 12)])
 .ret) .skip))))))))))
 (.seq (.region [⟨.mv (.c (.bool false)), none⟩] [(2, 0)])
 .ret)))
def a_s_l7Stage : AFun := ⟨[0, 1, 2, 4, 5, 13, 23, 37], 51, c_s_l7Stage, [.tmp 2], 1⟩
def w_slices_IndexFunc_Si_Load_i_Load_1 : ACode :=
 (.seq (.region [⟨.bin 0 .lss (.t 5) (.t 4), none⟩] [(6, 0)])
 (.seq (.cond (.t 6) .skip (.exit 0))
 (.seq (.block 1 (.seq (.region [⟨.mv (.t 5), none⟩, ⟨.mv (.l 0), none⟩] [(3, 1)])
 (.seq (.region [⟨.mv (.t 1), none⟩, ⟨.mv (.t 0), none⟩, ⟨.mv (.t 3), none⟩, ⟨.indexAddrS 2 (.l 1) (.l 2), none⟩, ⟨.load true 2 (.l 3), none⟩, ⟨.call (.l 0) [(.l 4)], none⟩] [(7, 5)])
 (.cond (.t 7) (.seq (.region [⟨.mv (.t 3), none⟩, ⟨.mv (.l 0), none⟩] [(2, 1)])
 .ret) .skip))))
 (.region [⟨.bin 0 .add (.t 5) (.c (.int .i64 (1))), none⟩, ⟨.mv (.l 0), none⟩] [(5, 1)]))))
def c_slices_IndexFunc_Si_Load_i_Load : ACode :=
 (.seq (.region [⟨.mv (.c (.int .i64 (0))), none⟩] [(2, 0)])
 (.seq (.seq (.region [⟨.mv (.t 0), none⟩, ⟨.len (.l 0), none⟩, ⟨.mv (.c (.int .i64 (0))), none⟩] [(4, 1), (5, 2)])
 (.block 0 (.loop w_slices_IndexFunc_Si_Load_i_Load_1)))
 (.seq (.region [⟨.mv (.c (.int .i64 (-1))), none⟩] [(2, 0)])
 .ret)))
def a_slices_IndexFunc_Si_Load_i_Load : AFun := ⟨[0, 1, 4, 5, 7, 8, 9, 16], 19, c_slices_IndexFunc_Si_Load_i_Load, [.tmp 2], 1⟩
def c_i_isRatio : ACode :=
 (.seq (.region [⟨.mv (.c (.bool false)), none⟩] [(1, 0)])
 (.seq (.region [⟨.mv (.t 0), none⟩, ⟨.call (.c (.fn f_i_within [] [])) [(.l 0), (.c (.int .i64 (1))), (.c (.int .i64 (24)))], none⟩, ⟨.mv (.l 1), none⟩] [(1, 2)])
 .ret))
def a_i_isRatio : AFun := ⟨[0, 2], 5, c_i_isRatio, [.tmp 1], 1⟩
def c_s_l7Gain : ACode :=
 (.seq (.region [⟨.box (.t 0), none⟩, ⟨.alloc [.int .i64 (0), .int .i64 (0)], none⟩] [(1, 0), (2, 1)])
 (.seq (.seq (.region [⟨.fieldAddr 0 (.t 1), none⟩, ⟨.load false 1 (.l 0), none⟩] [(3, 1)])
 (.block 0 (.seq (.region [⟨.bin 0 .eql (.t 3) (.c (.int .i64 (2))), none⟩, ⟨.mv (.l 0), none⟩] [(4, 1)])
 (.cond (.t 4) (.seq (.region [⟨.fieldAddr 1 (.t 1), none⟩, ⟨.load false 1 (.l 0), none⟩, ⟨.build [.int .i64 (0), .int .i64 (0)] [(0, 1, (.l 1)), (1, 1, (.c (.int .i64 (1))))], none⟩, ⟨.store 2 (.t 2) (.l 2), none⟩] [])
 .ret) (.seq (.region [⟨.bin 0 .eql (.t 3) (.c (.int .i64 (5))), none⟩, ⟨.mv (.l 0), none⟩] [(5, 1)])
 (.cond (.t 5) (.seq (.region [⟨.fieldAddr 1 (.t 1), none⟩, ⟨.load false 1 (.l 0), none⟩, ⟨.bin 0 .mul (.c (.int .i64 (2))) (.l 1), none⟩, ⟨.fieldAddr 1 (.t 1), none⟩, ⟨.load false 1 (.l 3), none⟩, ⟨.fieldAddr 2 (.t 1), none⟩, ⟨.load false 1 (.l 5), none⟩, ⟨.bin 0 .sub (.l 4) (.l 6), none⟩, ⟨.call (.c (.fn f_s_l2Cut [] [])) [(.l 2), (.l 7)], none⟩, ⟨.store 2 (.t 2) (.l 8), none⟩] [])
 .ret) .skip))))))
 (.seq (.region [⟨.fieldAddr 1 (.t 1), none⟩, ⟨.load false 1 (.l 0), none⟩, ⟨.fieldAddr 2 (.t 1), none⟩, ⟨.load false 1 (.l 2), none⟩, ⟨.call (.c (.fn f_s_l2Cut [] [])) [(.l 1), (.l 3)], none⟩, ⟨.store 2 (.t 2) (.l 4), none⟩] [])
 .ret)))
def a_s_l7Gain : AFun := ⟨[0, 1, 2, 4, 5, 10], 26, c_s_l7Gain, [.cell 2 true 2], 1⟩
def c_s_l2Cut : ACode :=
 (.seq (.region [⟨.alloc [.int .i64 (0), .int .i64 (0)], none⟩] [(2, 0)])
 (.seq (.region [⟨.mv (.t 0), none⟩, ⟨.mv (.t 0), none⟩, ⟨.un .neg (.l 1), none⟩, ⟨.call (.c (.fn f_s_l1Most [] [])) [(.l 0), (.l 2)], none⟩, ⟨.mv (.t 1), none⟩, ⟨.call (.c (.fn f_s_l2Gcd [] [])) [(.l 3), (.l 4)], none⟩, ⟨.mv (.l 5), none⟩] [(3, 6)])
 (.seq (.draw [⟨.mv (.t 0), none, []⟩, ⟨.mv (.t 3), none, []⟩, ⟨.bin 0 .quo (.l 0) (.l 1), none, []⟩, ⟨.mv (.t 1), none, []⟩, ⟨.mv (.t 3), none, []⟩, ⟨.bin 0 .quo (.l 3) (.l 4), none, []⟩, ⟨.build [.int .i64 (0), .int .i64 (0)] [(0, 1, (.l 2)), (1, 1, (.l 5))], none, []⟩, ⟨.store 2 (.t 2) (.l 6), none, []⟩] [])
 .ret)))
def a_s_l2Cut : AFun := ⟨[0, 1, 4, 5], 19, c_s_l2Cut, [.cell 2 true 2], 1⟩
def w_s_l2Moment_1 : ACode :=
 (.seq (.seq (.region [⟨.mv (.t 4), none⟩, ⟨.mv (.t 0), none⟩, ⟨.len (.l 1), none⟩, ⟨.bin 0 .lss (.l 0) (.l 2), none⟩] [(5, 3)])
 (.cond (.t 5) .skip (.exit 0)))
 (.seq (.block 1 (.draw [⟨.mv (.t 3), none, []⟩, ⟨.mv (.t 0), none, []⟩, ⟨.mv (.t 4), none, []⟩, ⟨.indexAddrS 2 (.l 1) (.l 2), none, []⟩, ⟨.fieldAddr 1 (.l 3), none, []⟩, ⟨.load false 1 (.l 4), none, []⟩, ⟨.mv (.t 0), none, []⟩, ⟨.mv (.t 4), none, []⟩, ⟨.indexAddrS 2 (.l 6) (.l 7), none, []⟩, ⟨.fieldAddr 0 (.l 8), none, []⟩, ⟨.load false 1 (.l 9), none, []⟩, ⟨.mv (.t 1), none, []⟩, ⟨.bin 0 .sub (.l 10) (.l 11), none, []⟩, ⟨.bin 0 .mul (.l 5) (.l 12), none, []⟩, ⟨.bin 0 .add (.l 0) (.l 13), none, []⟩, ⟨.mv (.l 14), none, []⟩] [(3, 15)]))
 (.region [⟨.mv (.t 4), none⟩, ⟨.bin 0 .add (.l 0) (.c (.int .i64 (1))), none⟩, ⟨.mv (.l 1), none⟩] [(4, 2)])))
def c_s_l2Moment : ACode :=
 (.seq (.region [⟨.mv (.c (.int .i64 (0))), none⟩] [(2, 0)])
 (.seq (.region [⟨.mv (.c (.int .i64 (0))), none⟩] [(3, 0)])
 (.seq (.seq (.region [⟨.mv (.c (.int .i64 (0))), none⟩] [(4, 0)])
 (.block 0 (.loop w_s_l2Moment_1)))
 (.seq (.region [⟨.mv (.t 3), none⟩, ⟨.mv (.l 0), none⟩] [(2, 1)])
 .ret))))
def a_s_l2Moment : AFun := ⟨[0, 1, 4, 5, 6, 10], 29, c_s_l2Moment, [.tmp 2], 1⟩
def w_i_divisor_1 : ACode :=
 (.seq (.seq (.region [⟨.mv (.t 1), none⟩, ⟨.bin 0 .gtr (.l 0) (.c (.int .i64 (0))), none⟩] [(3, 1)])
 (.cond (.t 3) .skip (.exit 0)))
 (.block 1 (.draw [⟨.mv (.t 1), none, []⟩, ⟨.mv (.t 0), none, []⟩, ⟨.mv (.t 1), none, []⟩, ⟨.bin 0 .rem (.l 1) (.l 2), none, []⟩, ⟨.mv (.l 0), none, []⟩, ⟨.mv (.l 3), none, []⟩] [(0, 4), (1, 5)])))
def c_i_divisor : ACode :=
 (.seq (.region [⟨.mv (.c (.int .i64 (0))), none⟩] [(2, 0)])
 (.seq (.block 0 (.loop w_i_divisor_1))
 (.seq (.region [⟨.mv (.t 0), none⟩, ⟨.mv (.l 0), none⟩] [(2, 1)])
 .ret)))
def a_i_divisor : AFun := ⟨[0, 1, 4, 6], 12, c_i_divisor, [.tmp 2], 1⟩
def c_s_l7Two : ACode :=
 (.seq (.region [⟨.mv (.c (.bool false)), none⟩] [(2, 0)])
 (.seq (.region [⟨.mv (.t 0), none⟩, ⟨.call (.c (.fn f_s_l1In [] [])) [(.l 0), (.c (.int .i64 (1))), (.c (.int .i64 (24)))], none⟩, ⟨.mv (.l 1), none⟩, ⟨.mv (.t 1), some ((.l 2), true)⟩, ⟨.call (.c (.fn f_s_l1In [] [])) [(.l 3), (.c (.int .i64 (1))), (.c (.int .i64 (24)))], some ((.l 2), true)⟩, ⟨.pick (.l 2) (.l 4) (.c (.bool false)), none⟩, ⟨.mv (.l 5), none⟩] [(2, 6)])
 .ret))
def a_s_l7Two : AFun := ⟨[0, 1, 4], 11, c_s_l7Two, [.tmp 2], 1⟩
def w_s_l2Gcd_1 : ACode :=
 (.seq (.seq (.region [⟨.mv (.t 1), none⟩, ⟨.bin 0 .gtr (.l 0) (.c (.int .i64 (0))), none⟩] [(3, 1)])
 (.cond (.t 3) .skip (.exit 0)))
 (.block 1 (.draw [⟨.mv (.t 1), none, []⟩, ⟨.mv (.t 0), none, []⟩, ⟨.mv (.t 1), none, []⟩, ⟨.bin 0 .rem (.l 1) (.l 2), none, []⟩, ⟨.mv (.l 0), none, []⟩, ⟨.mv (.l 3), none, []⟩] [(0, 4), (1, 5)])))
def c_s_l2Gcd : ACode :=
 (.seq (.region [⟨.mv (.c (.int .i64 (0))), none⟩] [(2, 0)])
 (.seq (.block 0 (.loop w_s_l2Gcd_1))
 (.seq (.region [⟨.mv (.t 0), none⟩, ⟨.mv (.l 0), none⟩] [(2, 1)])
 .ret)))
def a_s_l2Gcd : AFun := ⟨[0, 1, 4, 6], 12, c_s_l2Gcd, [.tmp 2], 1⟩
def tab : List (FuncId × AFun) :=
 [(f_gosem_cut_init, a_gosem_cut_init), (f_l_FnExactNewStand, a_l_FnExactNewStand), (f_l_FnExactIsStand, a_l_FnExactIsStand), (f_l_FnExactRowPull, a_l_FnExactRowPull), (f_l_FnExactNewConsole, a_l_FnExactNewConsole), (f_l_FnExactDoTask, a_l_FnExactDoTask), (f_l_FnStands, a_l_FnStands), (f_l_FnRowPulls, a_l_FnRowPulls), (f_l_FnExactDoTasks, a_l_FnExactDoTasks), (f_s_NewStand, a_s_NewStand), (f_i_NewStand, a_i_NewStand), (f_l_eqStand, a_l_eqStand), (f_l_markStand, a_l_markStand), (f_l_heldStand, a_l_heldStand), (f_l_szStand, a_l_szStand), (f_s_IsStand, a_s_IsStand), (f_l_toStand, a_l_toStand), (f_i_IsStand, a_i_IsStand), (f_s_RowPull, a_s_RowPull), (f_i_RowPull, a_i_RowPull), (f_s_NewConsole, a_s_NewConsole), (f_i_NewConsole, a_i_NewConsole), (f_l_eqConsole, a_l_eqConsole), (f_l_markConsole, a_l_markConsole), (f_l_heldConsole, a_l_heldConsole), (f_s_DoTask, a_s_DoTask), (f_l_toTask, a_l_toTask), (f_i_DoTask, a_i_DoTask), (f_l_vBig, a_l_vBig), (f_s_DrawNewStand, a_s_DrawNewStand), (f_s_DrawDoTask, a_s_DrawDoTask), (f_l_vCut, a_l_vCut), (f_s_DrawDoTasks, a_s_DrawDoTasks), (f_i_DoTasks, a_i_DoTasks), (f_s_DoTasks, a_s_DoTasks), (f_l_vStand, a_l_vStand), (f_i_TipSide, a_i_TipSide), (f_l_vRow, a_l_vRow), (f_l_vChain, a_l_vChain), (f_s_DrawRowPull, a_s_DrawRowPull), (f_i_WeightOf, a_i_WeightOf), (f_i_LeastPull, a_i_LeastPull), (f_i_ChainGain, a_i_ChainGain), (f_l_szTaskS, a_l_szTaskS), (f_l_toTaskS, a_l_toTaskS), (f_l_eqTaskS, a_l_eqTaskS), (f_l_markTaskS, a_l_markTaskS), (f_s_l2Base, a_s_l2Base), (f_s_l12Own, a_s_l12Own), (f_l_eqLoadS, a_l_eqLoadS), (f_l_eqStageS, a_l_eqStageS), (f_l_markLoadS, a_l_markLoadS), (f_l_markStageS, a_l_markStageS), (f_l_heldLoadS, a_l_heldLoadS), (f_l_heldStageS, a_l_heldStageS), (f_l_szLoadS, a_l_szLoadS), (f_l_szStageS, a_l_szStageS), (f_s_l12Good, a_s_l12Good), (f_l_toLoadS, a_l_toLoadS), (f_l_toStageS, a_l_toStageS), (f_i_IsRow, a_i_IsRow), (f_i_isBase, a_i_isBase), (f_i_isChain, a_i_isChain), (f_i_within, a_i_within), (f_s_LeastPull, a_s_LeastPull), (f_s_l2Weight, a_s_l2Weight), (f_i_weightOf, a_i_weightOf), (f_i_copyStand, a_i_copyStand), (f_l_eqLog, a_l_eqLog), (f_s_l12Do, a_s_l12Do), (f_i_tipSide, a_i_tipSide), (f_s_l1Cur_placeIn, a_s_l1Cur_placeIn), (f_s_l1Cur_stand, a_s_l1Cur_stand), (f_s_l1Cur_task12, a_s_l1Cur_task12), (f_s_l1Cur_pick, a_s_l1Cur_pick), (f_s_DrawIsStand, a_s_DrawIsStand), (f_i_PullFor, a_i_PullFor), (f_i_chainGain, a_i_chainGain), (f_l_eqTask, a_l_eqTask), (f_s_l2In, a_s_l2In), (f_l_eqLoad, a_l_eqLoad), (f_l_eqStage, a_l_eqStage), (f_s_l2On, a_s_l2On), (f_s_l7Stages, a_s_l7Stages), (f_s_l1In, a_s_l1In), (f_l_toLoad, a_l_toLoad), (f_l_toStage, a_l_toStage), (f_slices_ContainsFunc_Si_Load_i_Load, a_slices_ContainsFunc_Si_Load_i_Load), (f_i_IsRow_1, a_i_IsRow_1), (f_i_isPlace, a_i_isPlace), (f_i_isWeight, a_i_isWeight), (f_i_IsStage, a_i_IsStage), (f_s_l7Ask, a_s_l7Ask), (f_s_l7Chain, a_s_l7Chain), (f_slices_Clone_Si_Load_i_Load, a_slices_Clone_Si_Load_i_Load), (f_slices_Clone_Si_Stage_i_Stage, a_slices_Clone_Si_Stage_i_Stage), (f_s_l12May, a_s_l12May), (f_s_l12Make, a_s_l12Make), (f_s_l2Side, a_s_l2Side), (f_i_momentAbout, a_i_momentAbout), (f_s_l1Cur_one, a_s_l1Cur_one), (f_s_l1Cur_among, a_s_l1Cur_among), (f_s_l1Most, a_s_l1Most), (f_s_l1Least, a_s_l1Least), (f_s_l1Cur_stage7, a_s_l1Cur_stage7), (f_s_l1Cur_next, a_s_l1Cur_next), (f_i_isHaul, a_i_isHaul), (f_i_fraction, a_i_fraction), (f_i_stageGain, a_i_stageGain), (f_s_l2Row, a_s_l2Row), (f_s_l7Stage, a_s_l7Stage), (f_slices_IndexFunc_Si_Load_i_Load, a_slices_IndexFunc_Si_Load_i_Load), (f_i_isRatio, a_i_isRatio), (f_s_l7Gain, a_s_l7Gain), (f_s_l2Cut, a_s_l2Cut), (f_s_l2Moment, a_s_l2Moment), (f_i_divisor, a_i_divisor), (f_s_l7Two, a_s_l7Two), (f_s_l2Gcd, a_s_l2Gcd)]
def T : Table := fun f => tab.lookup f
theorem t_gosem_cut_init : T f_gosem_cut_init = some a_gosem_cut_init := rfl
theorem t_l_FnExactNewStand : T f_l_FnExactNewStand = some a_l_FnExactNewStand := rfl
theorem t_l_FnExactIsStand : T f_l_FnExactIsStand = some a_l_FnExactIsStand := rfl
theorem t_l_FnExactRowPull : T f_l_FnExactRowPull = some a_l_FnExactRowPull := rfl
theorem t_l_FnExactNewConsole : T f_l_FnExactNewConsole = some a_l_FnExactNewConsole := rfl
theorem t_l_FnExactDoTask : T f_l_FnExactDoTask = some a_l_FnExactDoTask := rfl
theorem t_l_FnStands : T f_l_FnStands = some a_l_FnStands := rfl
theorem t_l_FnRowPulls : T f_l_FnRowPulls = some a_l_FnRowPulls := rfl
theorem t_l_FnExactDoTasks : T f_l_FnExactDoTasks = some a_l_FnExactDoTasks := rfl
theorem t_s_NewStand : T f_s_NewStand = some a_s_NewStand := rfl
theorem t_i_NewStand : T f_i_NewStand = some a_i_NewStand := rfl
theorem t_l_eqStand : T f_l_eqStand = some a_l_eqStand := rfl
theorem t_l_markStand : T f_l_markStand = some a_l_markStand := rfl
theorem t_l_heldStand : T f_l_heldStand = some a_l_heldStand := rfl
theorem t_l_szStand : T f_l_szStand = some a_l_szStand := rfl
theorem t_s_IsStand : T f_s_IsStand = some a_s_IsStand := rfl
theorem t_l_toStand : T f_l_toStand = some a_l_toStand := rfl
theorem t_i_IsStand : T f_i_IsStand = some a_i_IsStand := rfl
theorem t_s_RowPull : T f_s_RowPull = some a_s_RowPull := rfl
theorem t_i_RowPull : T f_i_RowPull = some a_i_RowPull := rfl
theorem t_s_NewConsole : T f_s_NewConsole = some a_s_NewConsole := rfl
theorem t_i_NewConsole : T f_i_NewConsole = some a_i_NewConsole := rfl
theorem t_l_eqConsole : T f_l_eqConsole = some a_l_eqConsole := rfl
theorem t_l_markConsole : T f_l_markConsole = some a_l_markConsole := rfl
theorem t_l_heldConsole : T f_l_heldConsole = some a_l_heldConsole := rfl
theorem t_s_DoTask : T f_s_DoTask = some a_s_DoTask := rfl
theorem t_l_toTask : T f_l_toTask = some a_l_toTask := rfl
theorem t_i_DoTask : T f_i_DoTask = some a_i_DoTask := rfl
theorem t_l_vBig : T f_l_vBig = some a_l_vBig := rfl
theorem t_s_DrawNewStand : T f_s_DrawNewStand = some a_s_DrawNewStand := rfl
theorem t_s_DrawDoTask : T f_s_DrawDoTask = some a_s_DrawDoTask := rfl
theorem t_l_vCut : T f_l_vCut = some a_l_vCut := rfl
theorem t_s_DrawDoTasks : T f_s_DrawDoTasks = some a_s_DrawDoTasks := rfl
theorem t_i_DoTasks : T f_i_DoTasks = some a_i_DoTasks := rfl
theorem t_s_DoTasks : T f_s_DoTasks = some a_s_DoTasks := rfl
theorem t_l_vStand : T f_l_vStand = some a_l_vStand := rfl
theorem t_i_TipSide : T f_i_TipSide = some a_i_TipSide := rfl
theorem t_l_vRow : T f_l_vRow = some a_l_vRow := rfl
theorem t_l_vChain : T f_l_vChain = some a_l_vChain := rfl
theorem t_s_DrawRowPull : T f_s_DrawRowPull = some a_s_DrawRowPull := rfl
theorem t_i_WeightOf : T f_i_WeightOf = some a_i_WeightOf := rfl
theorem t_i_LeastPull : T f_i_LeastPull = some a_i_LeastPull := rfl
theorem t_i_ChainGain : T f_i_ChainGain = some a_i_ChainGain := rfl
theorem t_l_szTaskS : T f_l_szTaskS = some a_l_szTaskS := rfl
theorem t_l_toTaskS : T f_l_toTaskS = some a_l_toTaskS := rfl
theorem t_l_eqTaskS : T f_l_eqTaskS = some a_l_eqTaskS := rfl
theorem t_l_markTaskS : T f_l_markTaskS = some a_l_markTaskS := rfl
theorem t_s_l2Base : T f_s_l2Base = some a_s_l2Base := rfl
theorem t_s_l12Own : T f_s_l12Own = some a_s_l12Own := rfl
theorem t_l_eqLoadS : T f_l_eqLoadS = some a_l_eqLoadS := rfl
theorem t_l_eqStageS : T f_l_eqStageS = some a_l_eqStageS := rfl
theorem t_l_markLoadS : T f_l_markLoadS = some a_l_markLoadS := rfl
theorem t_l_markStageS : T f_l_markStageS = some a_l_markStageS := rfl
theorem t_l_heldLoadS : T f_l_heldLoadS = some a_l_heldLoadS := rfl
theorem t_l_heldStageS : T f_l_heldStageS = some a_l_heldStageS := rfl
theorem t_l_szLoadS : T f_l_szLoadS = some a_l_szLoadS := rfl
theorem t_l_szStageS : T f_l_szStageS = some a_l_szStageS := rfl
theorem t_s_l12Good : T f_s_l12Good = some a_s_l12Good := rfl
theorem t_l_toLoadS : T f_l_toLoadS = some a_l_toLoadS := rfl
theorem t_l_toStageS : T f_l_toStageS = some a_l_toStageS := rfl
theorem t_i_IsRow : T f_i_IsRow = some a_i_IsRow := rfl
theorem t_i_isBase : T f_i_isBase = some a_i_isBase := rfl
theorem t_i_isChain : T f_i_isChain = some a_i_isChain := rfl
theorem t_i_within : T f_i_within = some a_i_within := rfl
theorem t_s_LeastPull : T f_s_LeastPull = some a_s_LeastPull := rfl
theorem t_s_l2Weight : T f_s_l2Weight = some a_s_l2Weight := rfl
theorem t_i_weightOf : T f_i_weightOf = some a_i_weightOf := rfl
theorem t_i_copyStand : T f_i_copyStand = some a_i_copyStand := rfl
theorem t_l_eqLog : T f_l_eqLog = some a_l_eqLog := rfl
theorem t_s_l12Do : T f_s_l12Do = some a_s_l12Do := rfl
theorem t_i_tipSide : T f_i_tipSide = some a_i_tipSide := rfl
theorem t_s_l1Cur_placeIn : T f_s_l1Cur_placeIn = some a_s_l1Cur_placeIn := rfl
theorem t_s_l1Cur_stand : T f_s_l1Cur_stand = some a_s_l1Cur_stand := rfl
theorem t_s_l1Cur_task12 : T f_s_l1Cur_task12 = some a_s_l1Cur_task12 := rfl
theorem t_s_l1Cur_pick : T f_s_l1Cur_pick = some a_s_l1Cur_pick := rfl
theorem t_s_DrawIsStand : T f_s_DrawIsStand = some a_s_DrawIsStand := rfl
theorem t_i_PullFor : T f_i_PullFor = some a_i_PullFor := rfl
theorem t_i_chainGain : T f_i_chainGain = some a_i_chainGain := rfl
theorem t_l_eqTask : T f_l_eqTask = some a_l_eqTask := rfl
theorem t_s_l2In : T f_s_l2In = some a_s_l2In := rfl
theorem t_l_eqLoad : T f_l_eqLoad = some a_l_eqLoad := rfl
theorem t_l_eqStage : T f_l_eqStage = some a_l_eqStage := rfl
theorem t_s_l2On : T f_s_l2On = some a_s_l2On := rfl
theorem t_s_l7Stages : T f_s_l7Stages = some a_s_l7Stages := rfl
theorem t_s_l1In : T f_s_l1In = some a_s_l1In := rfl
theorem t_l_toLoad : T f_l_toLoad = some a_l_toLoad := rfl
theorem t_l_toStage : T f_l_toStage = some a_l_toStage := rfl
theorem t_slices_ContainsFunc_Si_Load_i_Load : T f_slices_ContainsFunc_Si_Load_i_Load = some a_slices_ContainsFunc_Si_Load_i_Load := rfl
theorem t_i_IsRow_1 : T f_i_IsRow_1 = some a_i_IsRow_1 := rfl
theorem t_i_isPlace : T f_i_isPlace = some a_i_isPlace := rfl
theorem t_i_isWeight : T f_i_isWeight = some a_i_isWeight := rfl
theorem t_i_IsStage : T f_i_IsStage = some a_i_IsStage := rfl
theorem t_s_l7Ask : T f_s_l7Ask = some a_s_l7Ask := rfl
theorem t_s_l7Chain : T f_s_l7Chain = some a_s_l7Chain := rfl
theorem t_slices_Clone_Si_Load_i_Load : T f_slices_Clone_Si_Load_i_Load = some a_slices_Clone_Si_Load_i_Load := rfl
theorem t_slices_Clone_Si_Stage_i_Stage : T f_slices_Clone_Si_Stage_i_Stage = some a_slices_Clone_Si_Stage_i_Stage := rfl
theorem t_s_l12May : T f_s_l12May = some a_s_l12May := rfl
theorem t_s_l12Make : T f_s_l12Make = some a_s_l12Make := rfl
theorem t_s_l2Side : T f_s_l2Side = some a_s_l2Side := rfl
theorem t_i_momentAbout : T f_i_momentAbout = some a_i_momentAbout := rfl
theorem t_s_l1Cur_one : T f_s_l1Cur_one = some a_s_l1Cur_one := rfl
theorem t_s_l1Cur_among : T f_s_l1Cur_among = some a_s_l1Cur_among := rfl
theorem t_s_l1Most : T f_s_l1Most = some a_s_l1Most := rfl
theorem t_s_l1Least : T f_s_l1Least = some a_s_l1Least := rfl
theorem t_s_l1Cur_stage7 : T f_s_l1Cur_stage7 = some a_s_l1Cur_stage7 := rfl
theorem t_s_l1Cur_next : T f_s_l1Cur_next = some a_s_l1Cur_next := rfl
theorem t_i_isHaul : T f_i_isHaul = some a_i_isHaul := rfl
theorem t_i_fraction : T f_i_fraction = some a_i_fraction := rfl
theorem t_i_stageGain : T f_i_stageGain = some a_i_stageGain := rfl
theorem t_s_l2Row : T f_s_l2Row = some a_s_l2Row := rfl
theorem t_s_l7Stage : T f_s_l7Stage = some a_s_l7Stage := rfl
theorem t_slices_IndexFunc_Si_Load_i_Load : T f_slices_IndexFunc_Si_Load_i_Load = some a_slices_IndexFunc_Si_Load_i_Load := rfl
theorem t_i_isRatio : T f_i_isRatio = some a_i_isRatio := rfl
theorem t_s_l7Gain : T f_s_l7Gain = some a_s_l7Gain := rfl
theorem t_s_l2Cut : T f_s_l2Cut = some a_s_l2Cut := rfl
theorem t_s_l2Moment : T f_s_l2Moment = some a_s_l2Moment := rfl
theorem t_i_divisor : T f_i_divisor = some a_i_divisor := rfl
theorem t_s_l7Two : T f_s_l7Two = some a_s_l7Two := rfl
theorem t_s_l2Gcd : T f_s_l2Gcd = some a_s_l2Gcd := rfl
end Go.Proofs.Ytlocjmbfcdfjfaa.Slim
