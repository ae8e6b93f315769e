/- The slim machine: what slices.Delete does to the memory. -/
import Derived.Test.YtlcklonakjhoiaaSlimZ7
import Derived.Deep.RegionLaw
import Derived.WalkKit
import Derived.OwnWalk
import Derived.Lib.Walk
import Derived.Lib.SliceRun
import Derived.Lib.Slices
import Derived.Shelf.RegionOpenPlain
import Derived.Deep.LoopGhost
import Derived.Below
/- The slim machine: what slices.Delete does to the memory. -/
namespace Go.Proofs.Ytlcklonakjhoiaa.Slim
open Go Go.Lib Go.RowKit
set_option linter.unusedVariables false
set_option linter.unusedSimpArgs false

theorem clear_one {P : Program} (w : World) (t e ty : TypeId) (z : Value) (ht : P.underlying t = some (.slice e)) (hv : ∀ w, (zeroValue e).run P w = .ok z w) (h1 : ∀ v ∈ z.cells.toList, v.oneCell' = true) (b o c : Nat)
    (hc : ∀ j, j < z.cells.size → (w.cell? ⟨b, o + j, none⟩).isSome = true) (hf : ∀ j, j < z.cells.size → w.frozen? ⟨b, o + j, none⟩ = false) :
    (Builtin.clear_ #[t] ty #[.slice (some ⟨b, o, none⟩) 1 c]).run P w = .ok (.tuple #[]) (w.setCells b o z.cells.toList) := by
  have hzc : (Builtin.zeroCells z.cells 1).toList = z.cells.toList := by
    simp [Builtin.zeroCells]
    apply List.ext_getElem
    · simp
    · intro i h1 h2
      simp at h2
      simp [Nat.mod_eq_of_lt h2, getElem!_pos z.cells i h2]
  have hst := run_storeCells_cells (P := P) b o z.cells.toList 0 w (by simpa using hc) (by simpa using hf) h1
  simp only [Nat.add_zero] at hst
  simp [Builtin.clear_, run_underlying ht, hv, hzc, hst]

section
variable {ι : Emb} {m : Mem} {w : World}

/-- of a block an end is no longer told -/
theorem Rel.trim (R : Rel ι m w) {b : Nat} {cs : List AV} {wr : Bool} (hb : m.H[b]? = some (.cells cs wr)) (k : Nat) :
    Rel ι { m with H := m.H.set b (.cells (cs.take k) wr) } w ∧ Ext ι m w ι { m with H := m.H.set b (.cells (cs.take k) wr) } w := by
  have hbl : b < m.H.length := (List.getElem?_eq_some_iff.mp hb).1
  have hset : ∀ (b' : Nat) cs' wr', (m.H.set b (.cells (cs.take k) wr))[b']? = some (Blk.cells cs' wr') → ∃ cs'', m.H[b']? = some (Blk.cells cs'' wr') ∧ cs' = if b = b' then cs''.take k else cs'' := by
    intro b' cs' wr' h
    rw [List.getElem?_set] at h
    split at h
    · rename_i hbb
      subst hbb
      cases h
      exact ⟨cs, hb, by simp⟩
    · rename_i hbb
      exact ⟨cs', h, by simp [hbb]⟩
  refine R.of0 ⟨⟨by simp [R.len], R.low, fun b' cs' wr' h => ?_, fun b1 b2 cs1 cs2 wr' c d c' d' hne h1 h2 h3 h4 => ?_⟩, ⟨Emb.le_refl _, Nat.le_refl _, Nat.le_refl _, Shapes.refl _, fun r hr => ?_, fun _ _ _ => rfl, rfl, rfl, rfl⟩⟩
  · obtain ⟨cs'', h1, rfl⟩ := hset _ _ _ h
    obtain ⟨c, d, h2, hC⟩ := R.at' b' cs'' wr' h1
    refine ⟨c, d, h2, ?_⟩
    split
    · obtain ⟨us, h3, h4⟩ := hC.vals
      refine ⟨⟨us.take k, h3.take k, fun j v hj => h4 j v ?_⟩, ?_, hC.free⟩
      · rw [List.getElem?_take] at hj
        split at hj
        · exact hj
        · cases hj
      · have := all_sub hC.cell 0 k
        rwa [List.drop_zero] at this
    · exact hC
  · obtain ⟨e1, g1, _⟩ := hset _ _ _ h1
    obtain ⟨e2, g2, _⟩ := hset _ _ _ h2
    exact R.inj b1 b2 e1 e2 wr' c d c' d' hne g1 g2 h3 h4
  · obtain ⟨b', cs', d', h1, h2⟩ := hr
    obtain ⟨e1, g1, _⟩ := hset _ _ _ h1
    exact .inl ⟨b', e1, d', g1, h2⟩

theorem del_rel {P : Program} (R : Rel ι m w) {b n sz i : Nat} {cap : Option Nat} {cs : List AV} {v : Value} (hb : m.H[b]? = some (.cells cs true)) (hcs : cs.length = n * sz) (hi : i < n) (hv : V ι w (.slice (some (b, 0)) sz n cap) v) :
    ∃ (c x k : Nat) (news : List Value), v = .slice (some ⟨c, x, none⟩) n k ∧ n ≤ k ∧ news.length = (n - (i + 1)) * sz ∧
      (∀ t u, news[t]? = some u → w.drew.cell? ⟨c, x + (i + 1) * sz + t, none⟩ = some u) ∧ (∀ u ∈ news, u.oneCell' = true) ∧
      (∀ t, t < (n - (i + 1)) * sz → (w.drew.cell? ⟨c, x + i * sz + t, none⟩).isSome = true ∧ w.drew.frozen? ⟨c, x + i * sz + t, none⟩ = false) ∧
      (∀ t, t < sz → ((w.drew.setCells c (x + i * sz) news).cell? ⟨c, x + (i + (n - (i + 1))) * sz + t, none⟩).isSome = true ∧ (w.drew.setCells c (x + i * sz) news).frozen? ⟨c, x + (i + (n - (i + 1))) * sz + t, none⟩ = false) ∧
      ∃ ι', V ι' ((w.drew.setCells c (x + i * sz) news).setCells c (x + (i + (n - (i + 1))) * sz) (List.replicate sz (.int .i64 0))) (.slice (some (m.H.length + 1, 0)) sz (n - 1) none) (.slice (some ⟨c, x, none⟩) (i + (n - (i + 1))) k) ∧
        Rel ι' ⟨m.H.set b .dead ++ [.dead, .cells (cs.take (i * sz) ++ cs.drop ((i + 1) * sz)) true], m.esc⟩ ((w.drew.setCells c (x + i * sz) news).setCells c (x + (i + (n - (i + 1))) * sz) (List.replicate sz (.int .i64 0))) ∧
        Ext ι m w ι' ⟨m.H.set b .dead ++ [.dead, .cells (cs.take (i * sz) ++ cs.drop ((i + 1) * sz)) true], m.esc⟩ ((w.drew.setCells c (x + i * sz) news).setCells c (x + (i + (n - (i + 1))) * sz) (List.replicate sz (.int .i64 0))) := by
  obtain ⟨c, d, x, k, e, M, g1, rfl, g3, g4, g5, g6, g7⟩ := hv
  obtain ⟨c', d', g1', hC⟩ := R.at' b cs true hb
  rw [g1] at g1'
  cases g1'
  have hx : x = d := by rcases g4 with h | ⟨h, _⟩ <;> omega
  subst hx
  obtain ⟨us, hu, hcell⟩ := hC.vals
  obtain ⟨e', M', g5', hfree⟩ := hC.free rfl
  rw [g5] at g5'
  cases g5'
  have hul : us.length = n * sz := hu.length.trans hcs
  have hkM : x + k * sz ≤ M := by rcases g6 with h | h <;> omega
  have hnk : n * sz ≤ k * sz := Nat.mul_le_mul_right _ g3
  have e1 : (i + 1) * sz + (n - (i + 1)) * sz = n * sz := by rw [← Nat.add_mul]; congr 1; omega
  have e2 : (i + 1) * sz = i * sz + sz := by rw [Nat.add_mul, Nat.one_mul]
  have e3 : (i + (n - (i + 1))) * sz = i * sz + (n - (i + 1)) * sz := Nat.add_mul _ _ _
  have hbl : b < m.H.length := (List.getElem?_eq_some_iff.mp hb).1
  have R0 := R.drew
  have hu0 : VL ι w.drew cs us := VL.mono (w := w) (w' := w.drew) (Emb.le_refl _) (fun _ _ h => h) _ _ hu
  have hM : w.drew.shape? c = some (e, M) := g5
  obtain ⟨_, r1, r2⟩ := Rel.inplace (P := P) (b := b) (old := cs) (cs := cs.take (i * sz)) (new := cs.drop ((i + 1) * sz)) (us := us.take (i * sz)) (vs := us.drop ((i + 1) * sz)) R0 hb g1 hM (hu0.take _)
    (fun j v hj => by
      rw [List.getElem?_take] at hj
      split at hj
      · exact hcell j v hj
      · cases hj) (by have := all_sub hC.cell 0 (i * sz); rwa [List.drop_zero] at this)
    (hu0.drop _) (by have := all_sub hC.cell ((i + 1) * sz) cs.length; rwa [List.take_of_length_le (by simp)] at this) (by simp; omega)
  have htl : (us.take (i * sz)).length = i * sz := by rw [List.length_take]; omega
  rw [htl] at r1 r2
  have hH1 : (m.H.set b .dead ++ [Blk.cells (cs.take (i * sz) ++ cs.drop ((i + 1) * sz)) true])[m.H.length]? = some (.cells (cs.take (i * sz) ++ cs.drop ((i + 1) * sz)) true) := by
    rw [List.getElem?_append_right (by simp)]; simp
  have hι1 : (ι ++ [some (c, x)])[m.H.length]? = some (some (c, x)) := by rw [← R.len]; exact emb_last _ _
  obtain ⟨c', d', q1, hC1⟩ := r1.at' m.H.length _ true hH1
  rw [hι1] at q1
  cases q1
  obtain ⟨us1, hu1, hcell1⟩ := hC1.vals
  obtain ⟨e', M', g5', hfree1⟩ := hC1.free rfl
  have hM1 := r2.shapes _ _ hM
  rw [hM1] at g5'
  cases g5'
  have hal : (cs.take (i * sz) ++ cs.drop ((i + 1) * sz)).length = (i + (n - (i + 1))) * sz := by
    rw [List.length_append, List.length_take, List.length_drop]; omega
  have hu1l : us1.length = (i + (n - (i + 1))) * sz := hu1.length.trans hal
  obtain ⟨_, r3, r4⟩ := Rel.inplace (P := P) (b := m.H.length) (old := cs.take (i * sz) ++ cs.drop ((i + 1) * sz)) (cs := cs.take (i * sz) ++ cs.drop ((i + 1) * sz)) (new := List.replicate sz (AV.int .i64 0)) (us := us1) (vs := List.replicate sz (.int .i64 0)) r1 hH1 hι1 hM1 hu1 hcell1 hC1.cell
    (VL.replicate (c := .int .i64 0) (y := .int .i64 0) rfl sz) (by simp [AV.isCell]) (by right; simp; omega)
  rw [hu1l] at r3 r4
  have hH2 : (m.H.set b .dead ++ [Blk.cells (cs.take (i * sz) ++ cs.drop ((i + 1) * sz)) true]).set m.H.length .dead ++ [Blk.cells (cs.take (i * sz) ++ cs.drop ((i + 1) * sz) ++ List.replicate sz (AV.int .i64 0)) true] =
      m.H.set b .dead ++ [.dead, .cells (cs.take (i * sz) ++ cs.drop ((i + 1) * sz) ++ List.replicate sz (AV.int .i64 0)) true] := by
    rw [List.set_append_right _ _ (by simp)]
    simp
  simp only [hH2] at r3 r4
  obtain ⟨r5, r6⟩ := r3.trim (b := m.H.length + 1) (cs := cs.take (i * sz) ++ cs.drop ((i + 1) * sz) ++ List.replicate sz (AV.int .i64 0)) (wr := true) (by
    show (m.H.set b .dead ++ [.dead, _])[m.H.length + 1]? = _
    rw [List.getElem?_append_right (by simp)]; simp) ((i + (n - (i + 1))) * sz)
  have hH3 : (m.H.set b .dead ++ [.dead, Blk.cells (cs.take (i * sz) ++ cs.drop ((i + 1) * sz) ++ List.replicate sz (AV.int .i64 0)) true]).set (m.H.length + 1) (.cells ((cs.take (i * sz) ++ cs.drop ((i + 1) * sz) ++ List.replicate sz (AV.int .i64 0)).take ((i + (n - (i + 1))) * sz)) true) =
      m.H.set b .dead ++ [.dead, .cells (cs.take (i * sz) ++ cs.drop ((i + 1) * sz)) true] := by
    rw [List.set_append_right _ _ (by simp), List.take_left' hal]
    simp
  simp only [hH3] at r5 r6
  refine ⟨c, x, k, us.drop ((i + 1) * sz), rfl, g3, by rw [List.length_drop]; omega, fun t u ht => ?_, fun u hu' => ?_, fun t ht => ?_, fun t ht => ?_, _, ?_, r5, ((Ext.drew ι m w).trans r2).trans (r4.trans r6)⟩
  · rw [List.getElem?_drop] at ht
    have := hcell _ _ ht
    rw [← Nat.add_assoc] at this
    exact this
  · exact oneCells hu hC.cell u (List.mem_of_mem_drop hu')
  · obtain ⟨y, hy⟩ := shape_cell hM (show x + i * sz + t < M by omega)
    exact ⟨by rw [hy]; rfl, hfree _ (by omega)⟩
  · obtain ⟨y, hy⟩ := shape_cell hM1 (show x + (i + (n - (i + 1))) * sz + t < M by omega)
    exact ⟨by rw [hy]; rfl, hfree1 _ (by omega)⟩
  · refine ⟨c, x, x, k, e, M, ?_, ?_, by omega, .inl rfl, r6.shapes _ _ (r4.shapes _ _ hM1), .inr hkM, fun q hq => by cases hq⟩
    · rw [show m.H.length + 1 = (ι ++ [some (c, x)]).length by simp [R.len]]
      exact emb_last _ _
    · rw [show i + (n - (i + 1)) = n - 1 by omega]

end

end Go.Proofs.Ytlcklonakjhoiaa.Slim

/- The slim functions of this seat (printed by a program; each is checked against the program by the kernel in SlimOk). -/
namespace Go.Proofs.Ytlcklonakjhoiaa.Slim
open Go
abbrev f_main_main : FuncId := 0
abbrev f_gosem_cut : FuncId := 1
abbrev f_gosem_cut_init : FuncId := 2
abbrev f_l_FnExactFirstTip : FuncId := 3
abbrev f_l_FnExactHardestItem : FuncId := 4
abbrev f_l_FnExactUnloadOrder : FuncId := 5
abbrev f_l_FnExactSafeOrder : FuncId := 6
abbrev f_l_FnExactSafeStep : FuncId := 7
abbrev f_l_FnRafts : FuncId := 8
abbrev f_l_FnSafeOrders : FuncId := 9
abbrev f_l_szLoadS : FuncId := 10
abbrev f_s_FirstTip : FuncId := 11
abbrev f_l_toRaft : FuncId := 12
abbrev f_l_toLoadS : FuncId := 13
abbrev f_l_toIntS : FuncId := 14
abbrev f_i_FirstTip : FuncId := 15
abbrev f_l_eqLoadS : FuncId := 16
abbrev f_l_eqIntS : FuncId := 17
abbrev f_s_HardestItem : FuncId := 18
abbrev f_i_HardestItem : FuncId := 19
abbrev f_s_UnloadOrder : FuncId := 20
abbrev f_i_UnloadOrder : FuncId := 21
abbrev f_l_markLoadS : FuncId := 22
abbrev f_l_markIntS : FuncId := 23
abbrev f_l_heldIntS : FuncId := 24
abbrev f_s_SafeOrder : FuncId := 25
abbrev f_i_SafeOrder : FuncId := 26
abbrev f_s_SafeStep : FuncId := 27
abbrev f_i_SafeStep : FuncId := 28
abbrev f_l_rBig : FuncId := 29
abbrev f_s_DrawRaftSide : FuncId := 30
abbrev f_i_RaftSide : FuncId := 31
abbrev f_s_RaftSide : FuncId := 32
abbrev f_i_RaftReserve : FuncId := 33
abbrev f_s_RaftReserve : FuncId := 34
abbrev f_i_SafeSets : FuncId := 35
abbrev f_s_SafeSets : FuncId := 36
abbrev f_s_DrawIsSafeOrder : FuncId := 37
abbrev f_i_IsSafeOrder : FuncId := 38
abbrev f_s_IsSafeOrder : FuncId := 39
abbrev f_s_DrawIsRaft : FuncId := 40
abbrev f_i_IsRaft : FuncId := 41
abbrev f_s_IsRaft : FuncId := 42
abbrev f_l_rHas : FuncId := 43
abbrev f_s_DrawSafeOrder : FuncId := 44
abbrev f_l_rInts : FuncId := 45
abbrev f_i_CountSafe : FuncId := 46
abbrev f_s_CountSafe : FuncId := 47
abbrev f_i_LeastOwn : FuncId := 48
abbrev f_s_LeastOwn : FuncId := 49
abbrev f_i_PairSteps : FuncId := 50
abbrev f_s_PairSteps : FuncId := 51
abbrev f_s_DrawSafeStep : FuncId := 52
abbrev f_s_l10Order : FuncId := 53
abbrev f_s_l10Tip : FuncId := 54
abbrev f_l_toLoad : FuncId := 55
abbrev f_i_areCargo : FuncId := 56
abbrev f_i_isOrder : FuncId := 57
abbrev f_i_Raft_firstTip : FuncId := 58
abbrev f_l_eqLoad : FuncId := 59
abbrev f_s_l10Cargo : FuncId := 60
abbrev f_s_l10Ways : FuncId := 61
abbrev f_i_Raft_waysOf : FuncId := 62
abbrev f_slices_Delete_Si_Load_i_Load : FuncId := 63
abbrev f_slices_Clone_Si_Load_i_Load : FuncId := 64
abbrev f_s_l10Back : FuncId := 65
abbrev f_i_Raft_isSafe : FuncId := 66
abbrev f_i_stepsFrom : FuncId := 67
abbrev f_s_l10Code : FuncId := 68
abbrev f_s_l10Safe : FuncId := 69
abbrev f_i_bitsOf : FuncId := 70
abbrev f_s_l1Cur_raft : FuncId := 71
abbrev f_s_l1Cur_cargo : FuncId := 72
abbrev f_s_l1Cur_setOf : FuncId := 73
abbrev f_s_l10Reserve : FuncId := 74
abbrev f_i_Raft_reserve : FuncId := 75
abbrev f_s_l1Cur_one : FuncId := 76
abbrev f_s_l1Cur_orderFor : FuncId := 77
abbrev f_i_isBase : FuncId := 78
abbrev f_i_within : FuncId := 79
abbrev f_s_l10Raft : FuncId := 80
abbrev f_s_DrawSafeSets : FuncId := 81
abbrev f_s_l1Most : FuncId := 82
abbrev f_s_l1Cur_pick : FuncId := 83
abbrev f_s_l1Put : FuncId := 84
abbrev f_s_l1Has : FuncId := 85
abbrev f_i_IsRow : FuncId := 86
abbrev f_s_l2Row : FuncId := 87
abbrev f_s_l1Rising : FuncId := 88
abbrev f_s_l1Cur_among : FuncId := 89
abbrev f_i_isPlace : FuncId := 90
abbrev f_s_l2Base : FuncId := 91
abbrev f_s_l1In : FuncId := 92
abbrev f_s_l1Cur_next : FuncId := 93
abbrev f_slices_ContainsFunc_Si_Load_i_Load : FuncId := 94
abbrev f_i_IsRow_1 : FuncId := 95
abbrev f_i_isWeight : FuncId := 96
abbrev f_s_l2In : FuncId := 97
abbrev f_slices_IndexFunc_Si_Load_i_Load : FuncId := 98
abbrev f_runtime_boundsError_Error : FuncId := 99
abbrev f_runtime_boundsError_RuntimeError : FuncId := 100
abbrev f_runtime_errorString_Error : FuncId := 101
abbrev f_runtime_errorString_RuntimeError : FuncId := 102
abbrev f_runtime_plainError_Error : FuncId := 103
abbrev f_runtime_plainError_RuntimeError : FuncId := 104
abbrev f_runtime_errorAddressString_Error : FuncId := 105
abbrev f_runtime_errorAddressString_RuntimeError : FuncId := 106
abbrev f_runtime_TypeAssertionError_Error : FuncId := 107
abbrev f_runtime_TypeAssertionError_RuntimeError : FuncId := 108
abbrev f_runtime_PanicNilError_Error : FuncId := 109
abbrev f_runtime_PanicNilError_RuntimeError : FuncId := 110
abbrev f_internal_abi_Type_Align : FuncId := 111
abbrev f_internal_runtime_maps_unhashableTypeError_Error : FuncId := 112
abbrev f_internal_runtime_maps_unhashableTypeError_RuntimeError : FuncId := 113
abbrev f_s_l1Cur_any1 : FuncId := 114
abbrev f_internal_abi_Kind_String : FuncId := 115
def c_gosem_cut_init : ACode :=
 (.region [⟨.call (.c (.fn f_gosem_cut [] [])) [], none⟩] [])
def a_gosem_cut_init : AFun := ⟨[], 1, c_gosem_cut_init, [], 1⟩
def c_l_FnExactFirstTip : ACode :=
 (.seq (.region [⟨.box (.t 0), none⟩, ⟨.mv (.c (.bool false)), none⟩] [(3, 0), (4, 1)])
 (.seq (.seq (.region [⟨.mv (.t 2), none⟩, ⟨.len (.l 0), none⟩, ⟨.bin 0 .gtr (.l 1) (.c (.int .i64 (1048576))), none⟩] [(12, 2)])
 (.cond (.t 12) (.seq (.region [⟨.mv (.c (.bool true)), none⟩] [(4, 0)])
 .ret) .skip))
 (.seq (.region [⟨.mv (.c (.int .i64 (1048576))), none⟩] [(5, 0)])
 (.seq (.region [⟨.mv (.t 1), none⟩, ⟨.mv (.t 5), none⟩, ⟨.call (.c (.fn f_l_szLoadS [] [])) [(.l 0), (.l 1)], none⟩, ⟨.mv (.l 2), none⟩] [(5, 3)])
 (.seq (.seq (.region [⟨.mv (.t 5), none⟩, ⟨.bin 0 .lss (.l 0) (.c (.int .i64 (0))), none⟩] [(13, 1)])
 (.cond (.t 13) (.seq (.region [⟨.mv (.c (.bool true)), none⟩] [(4, 0)])
 .ret) .skip))
 (.seq (.region [⟨.load true 3 (.t 3), none⟩, ⟨.call (.c (.fn f_l_toRaft [] [])) [(.l 0)], none⟩, ⟨.mv (.t 1), none⟩, ⟨.call (.c (.fn f_l_toLoadS [] [])) [(.l 2)], none⟩, ⟨.mv (.t 2), none⟩, ⟨.call (.c (.fn f_l_toIntS [] [])) [(.l 4)], none⟩, ⟨.call (.c (.fn f_s_FirstTip [] [])) [(.l 1), (.l 3), (.l 5)], none⟩, ⟨.mv (.l 6), none⟩, ⟨.extract 0 (.l 7), none⟩, ⟨.extract 1 (.l 7), none⟩, ⟨.mv (.l 8), none⟩, ⟨.mv (.l 9), none⟩] [(6, 10), (7, 11)])
 (.seq (.region [⟨.mv (.t 1), none⟩, ⟨.call (.c (.fn f_l_toLoadS [] [])) [(.l 0)], none⟩, ⟨.mv (.l 1), none⟩] [(8, 2)])
 (.seq (.region [⟨.mv (.t 2), none⟩, ⟨.call (.c (.fn f_l_toIntS [] [])) [(.l 0)], none⟩, ⟨.mv (.l 1), none⟩] [(9, 2)])
 (.seq (.region [⟨.load true 3 (.t 3), none⟩, ⟨.call (.c (.fn f_l_toRaft [] [])) [(.l 0)], none⟩, ⟨.mv (.t 8), none⟩, ⟨.mv (.t 9), none⟩, ⟨.call (.c (.fn f_i_FirstTip [] [])) [(.l 1), (.l 2), (.l 3)], none⟩, ⟨.mv (.l 4), none⟩, ⟨.extract 0 (.l 5), none⟩, ⟨.extract 1 (.l 5), none⟩, ⟨.mv (.l 6), none⟩, ⟨.mv (.l 7), none⟩] [(10, 8), (11, 9)])
 (.seq (.seq (.region [⟨.mv (.t 10), none⟩, ⟨.mv (.t 6), none⟩, ⟨.bin 0 .neq (.l 0) (.l 1), none⟩, ⟨.mv (.l 2), none⟩, ⟨.mv (.t 11), some ((.l 3), false)⟩, ⟨.mv (.t 7), some ((.l 3), false)⟩, ⟨.bin 2 .neq (.l 4) (.l 5), some ((.l 3), false)⟩, ⟨.pick (.l 3) (.c (.bool true)) (.l 6), none⟩] [(14, 7)])
 (.cond (.t 14) (.seq (.region [⟨.mv (.c (.bool false)), none⟩] [(4, 0)])
 .ret) .skip))
 (.seq (.seq (.region [⟨.mv (.t 8), none⟩, ⟨.mv (.t 1), none⟩, ⟨.call (.c (.fn f_l_toLoadS [] [])) [(.l 1)], none⟩, ⟨.call (.c (.fn f_l_eqLoadS [] [])) [(.l 0), (.l 2)], none⟩, ⟨.un .not (.l 3), none⟩] [(15, 4)])
 (.cond (.t 15) (.seq (.region [⟨.mv (.c (.bool false)), none⟩] [(4, 0)])
 .ret) .skip))
 (.seq (.seq (.region [⟨.mv (.t 9), none⟩, ⟨.mv (.t 2), none⟩, ⟨.call (.c (.fn f_l_toIntS [] [])) [(.l 1)], none⟩, ⟨.call (.c (.fn f_l_eqIntS [] [])) [(.l 0), (.l 2)], none⟩, ⟨.un .not (.l 3), none⟩] [(16, 4)])
 (.cond (.t 16) (.seq (.region [⟨.mv (.c (.bool false)), none⟩] [(4, 0)])
 .ret) .skip))
 (.seq (.region [⟨.mv (.c (.bool true)), none⟩] [(4, 0)])
 .ret)))))))))))))
def a_l_FnExactFirstTip : AFun := ⟨[0, 1, 2, 3, 6, 7, 8, 9, 10, 11, 12, 13, 16, 21, 51, 56, 61], 62, c_l_FnExactFirstTip, [.tmp 4], 1⟩
def c_l_FnExactHardestItem : ACode :=
 (.seq (.region [⟨.box (.t 0), none⟩, ⟨.mv (.c (.bool false)), none⟩] [(2, 0), (3, 1)])
 (.seq (.region [⟨.mv (.c (.int .i64 (1048576))), none⟩] [(4, 0)])
 (.seq (.region [⟨.mv (.t 1), none⟩, ⟨.mv (.t 4), none⟩, ⟨.call (.c (.fn f_l_szLoadS [] [])) [(.l 0), (.l 1)], none⟩, ⟨.mv (.l 2), none⟩] [(4, 3)])
 (.seq (.seq (.region [⟨.mv (.t 4), none⟩, ⟨.bin 0 .lss (.l 0) (.c (.int .i64 (0))), none⟩] [(10, 1)])
 (.cond (.t 10) (.seq (.region [⟨.mv (.c (.bool true)), none⟩] [(3, 0)])
 .ret) .skip))
 (.seq (.region [⟨.load true 3 (.t 2), none⟩, ⟨.call (.c (.fn f_l_toRaft [] [])) [(.l 0)], none⟩, ⟨.mv (.t 1), none⟩, ⟨.call (.c (.fn f_l_toLoadS [] [])) [(.l 2)], none⟩, ⟨.call (.c (.fn f_s_HardestItem [] [])) [(.l 1), (.l 3)], none⟩, ⟨.mv (.l 4), none⟩, ⟨.extract 0 (.l 5), none⟩, ⟨.extract 1 (.l 5), none⟩, ⟨.mv (.l 6), none⟩, ⟨.mv (.l 7), none⟩] [(5, 8), (6, 9)])
 (.seq (.region [⟨.mv (.t 1), none⟩, ⟨.call (.c (.fn f_l_toLoadS [] [])) [(.l 0)], none⟩, ⟨.mv (.l 1), none⟩] [(7, 2)])
 (.seq (.region [⟨.load true 3 (.t 2), none⟩, ⟨.call (.c (.fn f_l_toRaft [] [])) [(.l 0)], none⟩, ⟨.mv (.t 7), none⟩, ⟨.call (.c (.fn f_i_HardestItem [] [])) [(.l 1), (.l 2)], none⟩, ⟨.mv (.l 3), none⟩, ⟨.extract 0 (.l 4), none⟩, ⟨.extract 1 (.l 4), none⟩, ⟨.mv (.l 5), none⟩, ⟨.mv (.l 6), none⟩] [(8, 7), (9, 8)])
 (.seq (.seq (.region [⟨.mv (.t 8), none⟩, ⟨.mv (.t 5), none⟩, ⟨.bin 0 .neq (.l 0) (.l 1), none⟩, ⟨.mv (.l 2), none⟩, ⟨.mv (.t 9), some ((.l 3), false)⟩, ⟨.mv (.t 6), some ((.l 3), false)⟩, ⟨.bin 2 .neq (.l 4) (.l 5), some ((.l 3), false)⟩, ⟨.pick (.l 3) (.c (.bool true)) (.l 6), none⟩] [(11, 7)])
 (.cond (.t 11) (.seq (.region [⟨.mv (.c (.bool false)), none⟩] [(3, 0)])
 .ret) .skip))
 (.seq (.seq (.region [⟨.mv (.t 7), none⟩, ⟨.mv (.t 1), none⟩, ⟨.call (.c (.fn f_l_toLoadS [] [])) [(.l 1)], none⟩, ⟨.call (.c (.fn f_l_eqLoadS [] [])) [(.l 0), (.l 2)], none⟩, ⟨.un .not (.l 3), none⟩] [(12, 4)])
 (.cond (.t 12) (.seq (.region [⟨.mv (.c (.bool false)), none⟩] [(3, 0)])
 .ret) .skip))
 (.seq (.region [⟨.mv (.c (.bool true)), none⟩] [(3, 0)])
 .ret))))))))))
def a_l_FnExactHardestItem : AFun := ⟨[0, 1, 2, 4, 5, 6, 7, 8, 9, 10, 15, 40, 45], 46, c_l_FnExactHardestItem, [.tmp 3], 1⟩
def c_l_FnExactUnloadOrder : ACode :=
 (.seq (.region [⟨.box (.t 0), none⟩, ⟨.mv (.c (.bool false)), none⟩] [(2, 0), (3, 1)])
 (.seq (.region [⟨.mv (.c (.int .i64 (1048576))), none⟩] [(4, 0)])
 (.seq (.region [⟨.mv (.t 1), none⟩, ⟨.mv (.t 4), none⟩, ⟨.call (.c (.fn f_l_szLoadS [] [])) [(.l 0), (.l 1)], none⟩, ⟨.mv (.l 2), none⟩] [(4, 3)])
 (.seq (.seq (.region [⟨.mv (.t 4), none⟩, ⟨.bin 0 .lss (.l 0) (.c (.int .i64 (0))), none⟩] [(15, 1)])
 (.cond (.t 15) (.seq (.region [⟨.mv (.c (.bool true)), none⟩] [(3, 0)])
 .ret) .skip))
 (.seq (.region [⟨.load true 3 (.t 2), none⟩, ⟨.call (.c (.fn f_l_toRaft [] [])) [(.l 0)], none⟩, ⟨.mv (.t 1), none⟩, ⟨.call (.c (.fn f_l_toLoadS [] [])) [(.l 2)], none⟩, ⟨.call (.c (.fn f_s_UnloadOrder [] [])) [(.l 1), (.l 3)], none⟩, ⟨.mv (.l 4), none⟩, ⟨.extract 0 (.l 5), none⟩, ⟨.extract 1 (.l 5), none⟩, ⟨.mv (.l 6), none⟩, ⟨.mv (.l 7), none⟩] [(5, 8), (6, 9)])
 (.seq (.region [⟨.mv (.t 1), none⟩, ⟨.call (.c (.fn f_l_toLoadS [] [])) [(.l 0)], none⟩, ⟨.mv (.l 1), none⟩] [(7, 2)])
 (.seq (.region [⟨.load true 3 (.t 2), none⟩, ⟨.call (.c (.fn f_l_toRaft [] [])) [(.l 0)], none⟩, ⟨.mv (.t 7), none⟩, ⟨.call (.c (.fn f_i_UnloadOrder [] [])) [(.l 1), (.l 2)], none⟩, ⟨.mv (.l 3), none⟩, ⟨.extract 0 (.l 4), none⟩, ⟨.extract 1 (.l 4), none⟩, ⟨.mv (.l 5), none⟩, ⟨.mv (.l 6), none⟩] [(8, 7), (9, 8)])
 (.seq (.seq (.region [⟨.mv (.t 8), none⟩, ⟨.mv (.t 5), none⟩, ⟨.call (.c (.fn f_l_eqIntS [] [])) [(.l 0), (.l 1)], none⟩, ⟨.un .not (.l 2), none⟩, ⟨.mv (.l 3), none⟩, ⟨.mv (.t 9), some ((.l 4), false)⟩, ⟨.mv (.t 6), some ((.l 4), false)⟩, ⟨.bin 2 .neq (.l 5) (.l 6), some ((.l 4), false)⟩, ⟨.pick (.l 4) (.c (.bool true)) (.l 7), none⟩] [(16, 8)])
 (.cond (.t 16) (.seq (.region [⟨.mv (.c (.bool false)), none⟩] [(3, 0)])
 .ret) .skip))
 (.seq (.seq (.region [⟨.mv (.t 7), none⟩, ⟨.mv (.t 1), none⟩, ⟨.call (.c (.fn f_l_toLoadS [] [])) [(.l 1)], none⟩, ⟨.call (.c (.fn f_l_eqLoadS [] [])) [(.l 0), (.l 2)], none⟩, ⟨.un .not (.l 3), none⟩] [(17, 4)])
 (.cond (.t 17) (.seq (.region [⟨.mv (.c (.bool false)), none⟩] [(3, 0)])
 .ret) .skip))
 (.seq (.region [⟨.mv (.c (.int .i64 (1))), none⟩] [(10, 0)])
 (.seq (.region [⟨.mv (.t 7), none⟩, ⟨.mv (.t 10), none⟩, ⟨.call (.c (.fn f_l_markLoadS [] [])) [(.l 0), (.l 1)], none⟩, ⟨.mv (.l 2), none⟩] [(10, 3)])
 (.seq (.seq (.region [⟨.mv (.t 10), none⟩, ⟨.bin 0 .lss (.l 0) (.c (.int .i64 (0))), none⟩, ⟨.mv (.l 1), none⟩, ⟨.mv (.t 8), some ((.l 2), false)⟩, ⟨.mv (.t 5), some ((.l 2), false)⟩, ⟨.call (.c (.fn f_l_eqIntS [] [])) [(.l 3), (.l 4)], some ((.l 2), false)⟩, ⟨.un .not (.l 5), some ((.l 2), false)⟩, ⟨.pick (.l 2) (.c (.bool true)) (.l 6), none⟩, ⟨.mv (.l 7), none⟩, ⟨.mv (.t 9), some ((.l 8), false)⟩, ⟨.mv (.t 6), some ((.l 8), false)⟩, ⟨.bin 2 .neq (.l 9) (.l 10), some ((.l 8), false)⟩, ⟨.pick (.l 8) (.c (.bool true)) (.l 11), none⟩] [(18, 12)])
 (.cond (.t 18) (.seq (.region [⟨.mv (.c (.bool false)), none⟩] [(3, 0)])
 .ret) .skip))
 (.seq (.region [⟨.mv (.c (.int .i64 (1))), none⟩] [(11, 0)])
 (.seq (.region [⟨.mv (.t 8), none⟩, ⟨.mv (.t 11), none⟩, ⟨.call (.c (.fn f_l_markIntS [] [])) [(.l 0), (.l 1)], none⟩, ⟨.mv (.l 2), none⟩] [(11, 3)])
 (.seq (.region [⟨.mv (.c (.int .i64 (1))), none⟩] [(12, 0)])
 (.seq (.region [⟨.mv (.t 8), none⟩, ⟨.mv (.t 12), none⟩, ⟨.call (.c (.fn f_l_heldIntS [] [])) [(.l 0), (.l 1)], none⟩, ⟨.mv (.l 2), none⟩] [(12, 3)])
 (.seq (.seq (.region [⟨.mv (.t 12), none⟩, ⟨.bin 0 .lss (.l 0) (.c (.int .i64 (0))), none⟩] [(19, 1)])
 (.cond (.t 19) (.seq (.region [⟨.mv (.c (.bool false)), none⟩] [(3, 0)])
 .ret) .skip))
 (.seq (.seq (.region [⟨.mv (.t 12), none⟩, ⟨.mv (.t 11), none⟩, ⟨.bin 0 .neq (.l 0) (.l 1), none⟩] [(20, 2)])
 (.cond (.t 20) (.seq (.region [⟨.mv (.c (.bool false)), none⟩] [(3, 0)])
 .ret) .skip))
 (.seq (.region [⟨.load true 3 (.t 2), none⟩, ⟨.call (.c (.fn f_l_toRaft [] [])) [(.l 0)], none⟩, ⟨.mv (.t 1), none⟩, ⟨.call (.c (.fn f_l_toLoadS [] [])) [(.l 2)], none⟩, ⟨.call (.c (.fn f_i_UnloadOrder [] [])) [(.l 1), (.l 3)], none⟩, ⟨.mv (.l 4), none⟩, ⟨.extract 0 (.l 5), none⟩, ⟨.extract 1 (.l 5), none⟩, ⟨.mv (.l 6), none⟩, ⟨.mv (.l 7), none⟩] [(13, 8), (14, 9)])
 (.seq (.seq (.region [⟨.mv (.t 13), none⟩, ⟨.mv (.t 5), none⟩, ⟨.call (.c (.fn f_l_eqIntS [] [])) [(.l 0), (.l 1)], none⟩, ⟨.un .not (.l 2), none⟩, ⟨.mv (.l 3), none⟩, ⟨.mv (.t 14), some ((.l 4), false)⟩, ⟨.mv (.t 6), some ((.l 4), false)⟩, ⟨.bin 2 .neq (.l 5) (.l 6), some ((.l 4), false)⟩, ⟨.pick (.l 4) (.c (.bool true)) (.l 7), none⟩] [(21, 8)])
 (.cond (.t 21) (.seq (.region [⟨.mv (.c (.bool false)), none⟩] [(3, 0)])
 .ret) .skip))
 (.seq (.region [⟨.mv (.c (.int .i64 (1))), none⟩] [(12, 0)])
 (.seq (.region [⟨.mv (.t 8), none⟩, ⟨.mv (.t 12), none⟩, ⟨.call (.c (.fn f_l_heldIntS [] [])) [(.l 0), (.l 1)], none⟩, ⟨.mv (.l 2), none⟩] [(12, 3)])
 (.seq (.seq (.region [⟨.mv (.t 12), none⟩, ⟨.bin 0 .lss (.l 0) (.c (.int .i64 (0))), none⟩] [(22, 1)])
 (.cond (.t 22) (.seq (.region [⟨.mv (.c (.bool false)), none⟩] [(3, 0)])
 .ret) .skip))
 (.seq (.seq (.region [⟨.mv (.t 12), none⟩, ⟨.mv (.t 11), none⟩, ⟨.bin 0 .neq (.l 0) (.l 1), none⟩] [(23, 2)])
 (.cond (.t 23) (.seq (.region [⟨.mv (.c (.bool false)), none⟩] [(3, 0)])
 .ret) .skip))
 (.seq (.region [⟨.mv (.c (.bool true)), none⟩] [(3, 0)])
 .ret)))))))))))))))))))))))))
def a_l_FnExactUnloadOrder : AFun := ⟨[0, 1, 2, 4, 5, 6, 7, 8, 9, 10, 11, 12, 13, 14, 15, 20, 46, 51, 67, 75, 78, 95, 100, 103], 104, c_l_FnExactUnloadOrder, [.tmp 3], 1⟩
def c_l_FnExactSafeOrder : ACode :=
 (.seq (.region [⟨.box (.t 0), none⟩, ⟨.mv (.c (.bool false)), none⟩] [(2, 0), (3, 1)])
 (.seq (.region [⟨.mv (.c (.int .i64 (1048576))), none⟩] [(4, 0)])
 (.seq (.region [⟨.mv (.t 1), none⟩, ⟨.mv (.t 4), none⟩, ⟨.call (.c (.fn f_l_szLoadS [] [])) [(.l 0), (.l 1)], none⟩, ⟨.mv (.l 2), none⟩] [(4, 3)])
 (.seq (.seq (.region [⟨.mv (.t 4), none⟩, ⟨.bin 0 .lss (.l 0) (.c (.int .i64 (0))), none⟩] [(15, 1)])
 (.cond (.t 15) (.seq (.region [⟨.mv (.c (.bool true)), none⟩] [(3, 0)])
 .ret) .skip))
 (.seq (.region [⟨.load true 3 (.t 2), none⟩, ⟨.call (.c (.fn f_l_toRaft [] [])) [(.l 0)], none⟩, ⟨.mv (.t 1), none⟩, ⟨.call (.c (.fn f_l_toLoadS [] [])) [(.l 2)], none⟩, ⟨.call (.c (.fn f_s_SafeOrder [] [])) [(.l 1), (.l 3)], none⟩, ⟨.mv (.l 4), none⟩, ⟨.extract 0 (.l 5), none⟩, ⟨.extract 1 (.l 5), none⟩, ⟨.mv (.l 6), none⟩, ⟨.mv (.l 7), none⟩] [(5, 8), (6, 9)])
 (.seq (.region [⟨.mv (.t 1), none⟩, ⟨.call (.c (.fn f_l_toLoadS [] [])) [(.l 0)], none⟩, ⟨.mv (.l 1), none⟩] [(7, 2)])
 (.seq (.region [⟨.load true 3 (.t 2), none⟩, ⟨.call (.c (.fn f_l_toRaft [] [])) [(.l 0)], none⟩, ⟨.mv (.t 7), none⟩, ⟨.call (.c (.fn f_i_SafeOrder [] [])) [(.l 1), (.l 2)], none⟩, ⟨.mv (.l 3), none⟩, ⟨.extract 0 (.l 4), none⟩, ⟨.extract 1 (.l 4), none⟩, ⟨.mv (.l 5), none⟩, ⟨.mv (.l 6), none⟩] [(8, 7), (9, 8)])
 (.seq (.seq (.region [⟨.mv (.t 8), none⟩, ⟨.mv (.t 5), none⟩, ⟨.call (.c (.fn f_l_eqIntS [] [])) [(.l 0), (.l 1)], none⟩, ⟨.un .not (.l 2), none⟩, ⟨.mv (.l 3), none⟩, ⟨.mv (.t 9), some ((.l 4), false)⟩, ⟨.mv (.t 6), some ((.l 4), false)⟩, ⟨.bin 2 .neq (.l 5) (.l 6), some ((.l 4), false)⟩, ⟨.pick (.l 4) (.c (.bool true)) (.l 7), none⟩] [(16, 8)])
 (.cond (.t 16) (.seq (.region [⟨.mv (.c (.bool false)), none⟩] [(3, 0)])
 .ret) .skip))
 (.seq (.seq (.region [⟨.mv (.t 7), none⟩, ⟨.mv (.t 1), none⟩, ⟨.call (.c (.fn f_l_toLoadS [] [])) [(.l 1)], none⟩, ⟨.call (.c (.fn f_l_eqLoadS [] [])) [(.l 0), (.l 2)], none⟩, ⟨.un .not (.l 3), none⟩] [(17, 4)])
 (.cond (.t 17) (.seq (.region [⟨.mv (.c (.bool false)), none⟩] [(3, 0)])
 .ret) .skip))
 (.seq (.region [⟨.mv (.c (.int .i64 (1))), none⟩] [(10, 0)])
 (.seq (.region [⟨.mv (.t 7), none⟩, ⟨.mv (.t 10), none⟩, ⟨.call (.c (.fn f_l_markLoadS [] [])) [(.l 0), (.l 1)], none⟩, ⟨.mv (.l 2), none⟩] [(10, 3)])
 (.seq (.seq (.region [⟨.mv (.t 10), none⟩, ⟨.bin 0 .lss (.l 0) (.c (.int .i64 (0))), none⟩, ⟨.mv (.l 1), none⟩, ⟨.mv (.t 8), some ((.l 2), false)⟩, ⟨.mv (.t 5), some ((.l 2), false)⟩, ⟨.call (.c (.fn f_l_eqIntS [] [])) [(.l 3), (.l 4)], some ((.l 2), false)⟩, ⟨.un .not (.l 5), some ((.l 2), false)⟩, ⟨.pick (.l 2) (.c (.bool true)) (.l 6), none⟩, ⟨.mv (.l 7), none⟩, ⟨.mv (.t 9), some ((.l 8), false)⟩, ⟨.mv (.t 6), some ((.l 8), false)⟩, ⟨.bin 2 .neq (.l 9) (.l 10), some ((.l 8), false)⟩, ⟨.pick (.l 8) (.c (.bool true)) (.l 11), none⟩] [(18, 12)])
 (.cond (.t 18) (.seq (.region [⟨.mv (.c (.bool false)), none⟩] [(3, 0)])
 .ret) .skip))
 (.seq (.region [⟨.mv (.c (.int .i64 (1))), none⟩] [(11, 0)])
 (.seq (.region [⟨.mv (.t 8), none⟩, ⟨.mv (.t 11), none⟩, ⟨.call (.c (.fn f_l_markIntS [] [])) [(.l 0), (.l 1)], none⟩, ⟨.mv (.l 2), none⟩] [(11, 3)])
 (.seq (.region [⟨.mv (.c (.int .i64 (1))), none⟩] [(12, 0)])
 (.seq (.region [⟨.mv (.t 8), none⟩, ⟨.mv (.t 12), none⟩, ⟨.call (.c (.fn f_l_heldIntS [] [])) [(.l 0), (.l 1)], none⟩, ⟨.mv (.l 2), none⟩] [(12, 3)])
 (.seq (.seq (.region [⟨.mv (.t 12), none⟩, ⟨.bin 0 .lss (.l 0) (.c (.int .i64 (0))), none⟩] [(19, 1)])
 (.cond (.t 19) (.seq (.region [⟨.mv (.c (.bool false)), none⟩] [(3, 0)])
 .ret) .skip))
 (.seq (.seq (.region [⟨.mv (.t 12), none⟩, ⟨.mv (.t 11), none⟩, ⟨.bin 0 .neq (.l 0) (.l 1), none⟩] [(20, 2)])
 (.cond (.t 20) (.seq (.region [⟨.mv (.c (.bool false)), none⟩] [(3, 0)])
 .ret) .skip))
 (.seq (.region [⟨.load true 3 (.t 2), none⟩, ⟨.call (.c (.fn f_l_toRaft [] [])) [(.l 0)], none⟩, ⟨.mv (.t 1), none⟩, ⟨.call (.c (.fn f_l_toLoadS [] [])) [(.l 2)], none⟩, ⟨.call (.c (.fn f_i_SafeOrder [] [])) [(.l 1), (.l 3)], none⟩, ⟨.mv (.l 4), none⟩, ⟨.extract 0 (.l 5), none⟩, ⟨.extract 1 (.l 5), none⟩, ⟨.mv (.l 6), none⟩, ⟨.mv (.l 7), none⟩] [(13, 8), (14, 9)])
 (.seq (.seq (.region [⟨.mv (.t 13), none⟩, ⟨.mv (.t 5), none⟩, ⟨.call (.c (.fn f_l_eqIntS [] [])) [(.l 0), (.l 1)], none⟩, ⟨.un .not (.l 2), none⟩, ⟨.mv (.l 3), none⟩, ⟨.mv (.t 14), some ((.l 4), false)⟩, ⟨.mv (.t 6), some ((.l 4), false)⟩, ⟨.bin 2 .neq (.l 5) (.l 6), some ((.l 4), false)⟩, ⟨.pick (.l 4) (.c (.bool true)) (.l 7), none⟩] [(21, 8)])
 (.cond (.t 21) (.seq (.region [⟨.mv (.c (.bool false)), none⟩] [(3, 0)])
 .ret) .skip))
 (.seq (.region [⟨.mv (.c (.int .i64 (1))), none⟩] [(12, 0)])
 (.seq (.region [⟨.mv (.t 8), none⟩, ⟨.mv (.t 12), none⟩, ⟨.call (.c (.fn f_l_heldIntS [] [])) [(.l 0), (.l 1)], none⟩, ⟨.mv (.l 2), none⟩] [(12, 3)])
 (.seq (.seq (.region [⟨.mv (.t 12), none⟩, ⟨.bin 0 .lss (.l 0) (.c (.int .i64 (0))), none⟩] [(22, 1)])
 (.cond (.t 22) (.seq (.region [⟨.mv (.c (.bool false)), none⟩] [(3, 0)])
 .ret) .skip))
 (.seq (.seq (.region [⟨.mv (.t 12), none⟩, ⟨.mv (.t 11), none⟩, ⟨.bin 0 .neq (.l 0) (.l 1), none⟩] [(23, 2)])
 (.cond (.t 23) (.seq (.region [⟨.mv (.c (.bool false)), none⟩] [(3, 0)])
 .ret) .skip))
 (.seq (.region [⟨.mv (.c (.bool true)), none⟩] [(3, 0)])
 .ret)))))))))))))))))))))))))
def a_l_FnExactSafeOrder : AFun := ⟨[0, 1, 2, 4, 5, 6, 7, 8, 9, 10, 11, 12, 13, 14, 15, 20, 46, 51, 67, 75, 78, 95, 100, 103], 104, c_l_FnExactSafeOrder, [.tmp 3], 1⟩
def c_l_FnExactSafeStep : ACode :=
 (.seq (.region [⟨.box (.t 0), none⟩, ⟨.mv (.c (.bool false)), none⟩] [(3, 0), (4, 1)])
 (.seq (.seq (.region [⟨.mv (.t 2), none⟩, ⟨.len (.l 0), none⟩, ⟨.bin 0 .gtr (.l 1) (.c (.int .i64 (1048576))), none⟩] [(17, 2)])
 (.cond (.t 17) (.seq (.region [⟨.mv (.c (.bool true)), none⟩] [(4, 0)])
 .ret) .skip))
 (.seq (.region [⟨.mv (.c (.int .i64 (1048576))), none⟩] [(5, 0)])
 (.seq (.region [⟨.mv (.t 1), none⟩, ⟨.mv (.t 5), none⟩, ⟨.call (.c (.fn f_l_szLoadS [] [])) [(.l 0), (.l 1)], none⟩, ⟨.mv (.l 2), none⟩] [(5, 3)])
 (.seq (.seq (.region [⟨.mv (.t 5), none⟩, ⟨.bin 0 .lss (.l 0) (.c (.int .i64 (0))), none⟩] [(18, 1)])
 (.cond (.t 18) (.seq (.region [⟨.mv (.c (.bool true)), none⟩] [(4, 0)])
 .ret) .skip))
 (.seq (.region [⟨.load true 3 (.t 3), none⟩, ⟨.call (.c (.fn f_l_toRaft [] [])) [(.l 0)], none⟩, ⟨.mv (.t 1), none⟩, ⟨.call (.c (.fn f_l_toLoadS [] [])) [(.l 2)], none⟩, ⟨.mv (.t 2), none⟩, ⟨.call (.c (.fn f_l_toIntS [] [])) [(.l 4)], none⟩, ⟨.call (.c (.fn f_s_SafeStep [] [])) [(.l 1), (.l 3), (.l 5)], none⟩, ⟨.mv (.l 6), none⟩, ⟨.extract 0 (.l 7), none⟩, ⟨.extract 1 (.l 7), none⟩, ⟨.mv (.l 8), none⟩, ⟨.mv (.l 9), none⟩] [(6, 10), (7, 11)])
 (.seq (.region [⟨.mv (.t 1), none⟩, ⟨.call (.c (.fn f_l_toLoadS [] [])) [(.l 0)], none⟩, ⟨.mv (.l 1), none⟩] [(8, 2)])
 (.seq (.region [⟨.mv (.t 2), none⟩, ⟨.call (.c (.fn f_l_toIntS [] [])) [(.l 0)], none⟩, ⟨.mv (.l 1), none⟩] [(9, 2)])
 (.seq (.region [⟨.load true 3 (.t 3), none⟩, ⟨.call (.c (.fn f_l_toRaft [] [])) [(.l 0)], none⟩, ⟨.mv (.t 8), none⟩, ⟨.mv (.t 9), none⟩, ⟨.call (.c (.fn f_i_SafeStep [] [])) [(.l 1), (.l 2), (.l 3)], none⟩, ⟨.mv (.l 4), none⟩, ⟨.extract 0 (.l 5), none⟩, ⟨.extract 1 (.l 5), none⟩, ⟨.mv (.l 6), none⟩, ⟨.mv (.l 7), none⟩] [(10, 8), (11, 9)])
 (.seq (.seq (.region [⟨.mv (.t 10), none⟩, ⟨.mv (.t 6), none⟩, ⟨.call (.c (.fn f_l_eqIntS [] [])) [(.l 0), (.l 1)], none⟩, ⟨.un .not (.l 2), none⟩, ⟨.mv (.l 3), none⟩, ⟨.mv (.t 11), some ((.l 4), false)⟩, ⟨.mv (.t 7), some ((.l 4), false)⟩, ⟨.bin 2 .neq (.l 5) (.l 6), some ((.l 4), false)⟩, ⟨.pick (.l 4) (.c (.bool true)) (.l 7), none⟩] [(19, 8)])
 (.cond (.t 19) (.seq (.region [⟨.mv (.c (.bool false)), none⟩] [(4, 0)])
 .ret) .skip))
 (.seq (.seq (.region [⟨.mv (.t 8), none⟩, ⟨.mv (.t 1), none⟩, ⟨.call (.c (.fn f_l_toLoadS [] [])) [(.l 1)], none⟩, ⟨.call (.c (.fn f_l_eqLoadS [] [])) [(.l 0), (.l 2)], none⟩, ⟨.un .not (.l 3), none⟩] [(20, 4)])
 (.cond (.t 20) (.seq (.region [⟨.mv (.c (.bool false)), none⟩] [(4, 0)])
 .ret) .skip))
 (.seq (.seq (.region [⟨.mv (.t 9), none⟩, ⟨.mv (.t 2), none⟩, ⟨.call (.c (.fn f_l_toIntS [] [])) [(.l 1)], none⟩, ⟨.call (.c (.fn f_l_eqIntS [] [])) [(.l 0), (.l 2)], none⟩, ⟨.un .not (.l 3), none⟩] [(21, 4)])
 (.cond (.t 21) (.seq (.region [⟨.mv (.c (.bool false)), none⟩] [(4, 0)])
 .ret) .skip))
 (.seq (.region [⟨.mv (.c (.int .i64 (1))), none⟩] [(12, 0)])
 (.seq (.region [⟨.mv (.t 8), none⟩, ⟨.mv (.t 12), none⟩, ⟨.call (.c (.fn f_l_markLoadS [] [])) [(.l 0), (.l 1)], none⟩, ⟨.mv (.l 2), none⟩] [(12, 3)])
 (.seq (.region [⟨.mv (.t 9), none⟩, ⟨.mv (.t 12), none⟩, ⟨.call (.c (.fn f_l_markIntS [] [])) [(.l 0), (.l 1)], none⟩, ⟨.mv (.l 2), none⟩] [(12, 3)])
 (.seq (.seq (.region [⟨.mv (.t 12), none⟩, ⟨.bin 0 .lss (.l 0) (.c (.int .i64 (0))), none⟩, ⟨.mv (.l 1), none⟩, ⟨.mv (.t 10), some ((.l 2), false)⟩, ⟨.mv (.t 6), some ((.l 2), false)⟩, ⟨.call (.c (.fn f_l_eqIntS [] [])) [(.l 3), (.l 4)], some ((.l 2), false)⟩, ⟨.un .not (.l 5), some ((.l 2), false)⟩, ⟨.pick (.l 2) (.c (.bool true)) (.l 6), none⟩, ⟨.mv (.l 7), none⟩, ⟨.mv (.t 11), some ((.l 8), false)⟩, ⟨.mv (.t 7), some ((.l 8), false)⟩, ⟨.bin 2 .neq (.l 9) (.l 10), some ((.l 8), false)⟩, ⟨.pick (.l 8) (.c (.bool true)) (.l 11), none⟩] [(22, 12)])
 (.cond (.t 22) (.seq (.region [⟨.mv (.c (.bool false)), none⟩] [(4, 0)])
 .ret) .skip))
 (.seq (.region [⟨.mv (.c (.int .i64 (1))), none⟩] [(13, 0)])
 (.seq (.region [⟨.mv (.t 10), none⟩, ⟨.mv (.t 13), none⟩, ⟨.call (.c (.fn f_l_markIntS [] [])) [(.l 0), (.l 1)], none⟩, ⟨.mv (.l 2), none⟩] [(13, 3)])
 (.seq (.region [⟨.mv (.c (.int .i64 (1))), none⟩] [(14, 0)])
 (.seq (.region [⟨.mv (.t 10), none⟩, ⟨.mv (.t 14), none⟩, ⟨.call (.c (.fn f_l_heldIntS [] [])) [(.l 0), (.l 1)], none⟩, ⟨.mv (.l 2), none⟩] [(14, 3)])
 (.seq (.seq (.region [⟨.mv (.t 14), none⟩, ⟨.bin 0 .lss (.l 0) (.c (.int .i64 (0))), none⟩] [(23, 1)])
 (.cond (.t 23) (.seq (.region [⟨.mv (.c (.bool false)), none⟩] [(4, 0)])
 .ret) .skip))
 (.seq (.seq (.region [⟨.mv (.t 14), none⟩, ⟨.mv (.t 13), none⟩, ⟨.bin 0 .neq (.l 0) (.l 1), none⟩] [(24, 2)])
 (.cond (.t 24) (.seq (.region [⟨.mv (.c (.bool false)), none⟩] [(4, 0)])
 .ret) .skip))
 (.seq (.region [⟨.load true 3 (.t 3), none⟩, ⟨.call (.c (.fn f_l_toRaft [] [])) [(.l 0)], none⟩, ⟨.mv (.t 1), none⟩, ⟨.call (.c (.fn f_l_toLoadS [] [])) [(.l 2)], none⟩, ⟨.mv (.t 2), none⟩, ⟨.call (.c (.fn f_l_toIntS [] [])) [(.l 4)], none⟩, ⟨.call (.c (.fn f_i_SafeStep [] [])) [(.l 1), (.l 3), (.l 5)], none⟩, ⟨.mv (.l 6), none⟩, ⟨.extract 0 (.l 7), none⟩, ⟨.extract 1 (.l 7), none⟩, ⟨.mv (.l 8), none⟩, ⟨.mv (.l 9), none⟩] [(15, 10), (16, 11)])
 (.seq (.seq (.region [⟨.mv (.t 15), none⟩, ⟨.mv (.t 6), none⟩, ⟨.call (.c (.fn f_l_eqIntS [] [])) [(.l 0), (.l 1)], none⟩, ⟨.un .not (.l 2), none⟩, ⟨.mv (.l 3), none⟩, ⟨.mv (.t 16), some ((.l 4), false)⟩, ⟨.mv (.t 7), some ((.l 4), false)⟩, ⟨.bin 2 .neq (.l 5) (.l 6), some ((.l 4), false)⟩, ⟨.pick (.l 4) (.c (.bool true)) (.l 7), none⟩] [(25, 8)])
 (.cond (.t 25) (.seq (.region [⟨.mv (.c (.bool false)), none⟩] [(4, 0)])
 .ret) .skip))
 (.seq (.region [⟨.mv (.c (.int .i64 (1))), none⟩] [(14, 0)])
 (.seq (.region [⟨.mv (.t 10), none⟩, ⟨.mv (.t 14), none⟩, ⟨.call (.c (.fn f_l_heldIntS [] [])) [(.l 0), (.l 1)], none⟩, ⟨.mv (.l 2), none⟩] [(14, 3)])
 (.seq (.seq (.region [⟨.mv (.t 14), none⟩, ⟨.bin 0 .lss (.l 0) (.c (.int .i64 (0))), none⟩] [(26, 1)])
 (.cond (.t 26) (.seq (.region [⟨.mv (.c (.bool false)), none⟩] [(4, 0)])
 .ret) .skip))
 (.seq (.seq (.region [⟨.mv (.t 14), none⟩, ⟨.mv (.t 13), none⟩, ⟨.bin 0 .neq (.l 0) (.l 1), none⟩] [(27, 2)])
 (.cond (.t 27) (.seq (.region [⟨.mv (.c (.bool false)), none⟩] [(4, 0)])
 .ret) .skip))
 (.seq (.region [⟨.mv (.c (.bool true)), none⟩] [(4, 0)])
 .ret)))))))))))))))))))))))))))))
def a_l_FnExactSafeStep : AFun := ⟨[0, 1, 2, 3, 6, 7, 8, 9, 10, 11, 12, 13, 14, 15, 16, 17, 18, 21, 26, 57, 62, 67, 86, 94, 97, 116, 121, 124], 125, c_l_FnExactSafeStep, [.tmp 4], 1⟩
def w_l_FnRafts_1 : ACode :=
 (.seq (.seq (.region [⟨.mv (.t 34), none⟩, ⟨.mv (.t 3), none⟩, ⟨.len (.l 1), none⟩, ⟨.bin 0 .lss (.l 0) (.l 2), none⟩] [(52, 3)])
 (.cond (.t 52) .skip (.exit 2)))
 (.seq (.block 3 (.seq (.region [⟨.mv (.t 32), none⟩, ⟨.mv (.t 34), none⟩, ⟨.bin 0 .shr (.l 0) (.l 1), none⟩, ⟨.bin 0 .and (.l 2) (.c (.int .i64 (1))), none⟩, ⟨.bin 0 .eql (.l 3) (.c (.int .i64 (1))), none⟩] [(53, 4)])
 (.cond (.t 53) (.region [⟨.mv (.t 33), none⟩, ⟨.mv (.t 34), none⟩, ⟨.buildSlice 1 1 [.int .i64 (0)] [(0, 1, (.l 1))], none⟩, ⟨.append false 1 8 (.l 0) (.l 2), none⟩, ⟨.mv (.l 3), none⟩] [(33, 4)]) .skip)))
 (.region [⟨.mv (.t 34), none⟩, ⟨.bin 0 .add (.l 0) (.c (.int .i64 (1))), none⟩, ⟨.mv (.l 1), none⟩] [(34, 2)])))
def w_l_FnRafts_2 : ACode :=
 (.seq (.seq (.region [⟨.mv (.t 32), none⟩, ⟨.mv (.t 3), none⟩, ⟨.len (.l 1), none⟩, ⟨.bin 0 .shl (.c (.int .i64 (1))) (.l 2), none⟩, ⟨.bin 0 .lss (.l 0) (.l 3), none⟩] [(51, 4)])
 (.cond (.t 51) .skip (.exit 0)))
 (.seq (.block 1 (.seq (.region [⟨.buildSlice 1 0 [] [], none⟩, ⟨.mv (.l 0), none⟩] [(33, 1)])
 (.seq (.seq (.region [⟨.mv (.c (.int .i64 (0))), none⟩] [(34, 0)])
 (.block 2 (.loop w_l_FnRafts_1)))
 (.seq (.region [⟨.load true 3 (.t 2), none⟩, ⟨.mv (.t 3), none⟩, ⟨.mv (.t 33), none⟩, ⟨.call (.c (.fn f_i_RaftSide [] [])) [(.l 0), (.l 1), (.l 2)], none⟩, ⟨.mv (.l 3), none⟩, ⟨.extract 0 (.l 4), none⟩, ⟨.extract 1 (.l 4), none⟩, ⟨.mv (.l 5), none⟩, ⟨.mv (.l 6), none⟩] [(35, 7), (36, 8)])
 (.seq (.seq (.region [⟨.mv (.t 36), none⟩, ⟨.un .not (.l 0), none⟩] [(54, 1)])
 (.cond (.t 54) (.seq (.region [⟨.mv (.c (.bool false)), none⟩] [(1, 0)])
 .ret) .skip))
 (.seq (.region [⟨.mv (.t 35), none⟩, ⟨.bin 0 .eql (.l 0) (.c (.int .i64 (0))), none⟩] [(55, 1)])
 (.cond (.t 55) (.region [⟨.mv (.t 31), none⟩, ⟨.bin 0 .add (.l 0) (.c (.int .i64 (1))), none⟩, ⟨.mv (.l 1), none⟩] [(31, 2)]) .skip)))))))
 (.region [⟨.mv (.t 32), none⟩, ⟨.bin 0 .add (.l 0) (.c (.int .i64 (1))), none⟩, ⟨.mv (.l 1), none⟩] [(32, 2)])))
def w_l_FnRafts_3 : ACode :=
 (.seq (.seq (.region [⟨.mv (.t 40), none⟩, ⟨.mv (.t 20), none⟩, ⟨.len (.l 1), none⟩, ⟨.bin 0 .lss (.l 0) (.l 2), none⟩] [(59, 3)])
 (.cond (.t 59) .skip (.exit 6)))
 (.seq (.block 7 (.seq (.region [⟨.mv (.t 21), none⟩, ⟨.mv (.t 38), none⟩, ⟨.sliceSl 1 (.l 0) none (some (.l 1)) none, none⟩, ⟨.mv (.t 40), none⟩, ⟨.call (.c (.fn f_l_rHas [] [])) [(.l 2), (.l 3)], none⟩] [(60, 4)])
 (.cond (.t 60) (.region [⟨.mv (.t 39), none⟩, ⟨.mv (.t 40), none⟩, ⟨.buildSlice 1 1 [.int .i64 (0)] [(0, 1, (.l 1))], none⟩, ⟨.append false 1 8 (.l 0) (.l 2), none⟩, ⟨.mv (.l 3), none⟩] [(39, 4)]) .skip)))
 (.region [⟨.mv (.t 40), none⟩, ⟨.bin 0 .add (.l 0) (.c (.int .i64 (1))), none⟩, ⟨.mv (.l 1), none⟩] [(40, 2)])))
def w_l_FnRafts_4 : ACode :=
 (.seq (.seq (.region [⟨.mv (.t 38), none⟩, ⟨.mv (.t 21), none⟩, ⟨.len (.l 1), none⟩, ⟨.bin 0 .leq (.l 0) (.l 2), none⟩] [(58, 3)])
 (.cond (.t 58) .skip (.exit 4)))
 (.seq (.block 5 (.seq (.region [⟨.buildSlice 1 0 [] [], none⟩, ⟨.mv (.l 0), none⟩] [(39, 1)])
 (.seq (.seq (.region [⟨.mv (.c (.int .i64 (0))), none⟩] [(40, 0)])
 (.block 6 (.loop w_l_FnRafts_3)))
 (.seq (.region [⟨.load true 3 (.t 19), none⟩, ⟨.mv (.t 20), none⟩, ⟨.mv (.t 39), none⟩, ⟨.call (.c (.fn f_i_RaftSide [] [])) [(.l 0), (.l 1), (.l 2)], none⟩, ⟨.mv (.l 3), none⟩, ⟨.extract 0 (.l 4), none⟩, ⟨.extract 1 (.l 4), none⟩, ⟨.mv (.l 5), none⟩, ⟨.mv (.l 6), none⟩] [(41, 7), (42, 8)])
 (.seq (.seq (.region [⟨.mv (.t 42), none⟩, ⟨.un .not (.l 0), none⟩] [(61, 1)])
 (.cond (.t 61) (.seq (.region [⟨.mv (.c (.bool false)), none⟩] [(1, 0)])
 .ret) .skip))
 (.seq (.region [⟨.mv (.t 41), none⟩, ⟨.bin 0 .neq (.l 0) (.c (.int .i64 (0))), none⟩, ⟨.mv (.l 1), none⟩, ⟨.mv (.t 37), some ((.l 2), true)⟩, ⟨.bin 0 .lss (.l 3) (.c (.int .i64 (0))), some ((.l 2), true)⟩, ⟨.pick (.l 2) (.l 4) (.c (.bool false)), none⟩] [(62, 5)])
 (.cond (.t 62) (.region [⟨.mv (.t 38), none⟩, ⟨.mv (.l 0), none⟩] [(37, 1)]) .skip)))))))
 (.region [⟨.mv (.t 38), none⟩, ⟨.bin 0 .add (.l 0) (.c (.int .i64 (1))), none⟩, ⟨.mv (.l 1), none⟩] [(38, 2)])))
def c_l_FnRafts : ACode :=
 (.seq (.region [⟨.mv (.c (.bool false)), none⟩] [(1, 0)])
 (.seq (.seq (.region [⟨.mv (.t 0), none⟩, ⟨.call (.c (.fn f_l_rBig [] [])) [(.l 0)], none⟩] [(43, 1)])
 (.cond (.t 43) (.seq (.region [⟨.mv (.c (.bool true)), none⟩] [(1, 0)])
 .ret) .skip))
 (.seq (.region [⟨.mv (.t 0), none⟩, ⟨.call (.c (.fn f_s_DrawRaftSide [] [])) [(.l 0)], none⟩, ⟨.mv (.l 1), none⟩, ⟨.extract 0 (.l 2), none⟩, ⟨.extract 1 (.l 2), none⟩, ⟨.extract 2 (.l 2), none⟩, ⟨.alloc [.int .i64 (0), .int .i64 (0), .int .i64 (0)], none⟩, ⟨.store 3 (.l 6) (.l 3), none⟩, ⟨.mv (.l 4), none⟩, ⟨.mv (.l 5), none⟩] [(2, 6), (3, 8), (4, 9)])
 (.seq (.region [⟨.load true 3 (.t 2), none⟩, ⟨.mv (.t 3), none⟩, ⟨.mv (.t 4), none⟩, ⟨.call (.c (.fn f_i_RaftSide [] [])) [(.l 0), (.l 1), (.l 2)], none⟩, ⟨.mv (.l 3), none⟩, ⟨.extract 0 (.l 4), none⟩, ⟨.extract 1 (.l 4), none⟩, ⟨.mv (.l 5), none⟩, ⟨.mv (.l 6), none⟩] [(5, 7), (6, 8)])
 (.seq (.seq (.region [⟨.load true 3 (.t 2), none⟩, ⟨.mv (.t 3), none⟩, ⟨.mv (.t 4), none⟩, ⟨.call (.c (.fn f_s_RaftSide [] [])) [(.l 0), (.l 1), (.l 2)], none⟩, ⟨.mv (.l 3), none⟩, ⟨.extract 0 (.l 4), none⟩, ⟨.extract 1 (.l 4), none⟩, ⟨.mv (.l 5), none⟩, ⟨.mv (.l 6), none⟩] [(7, 7), (8, 8)])
 (.seq (.region [⟨.mv (.t 5), none⟩, ⟨.mv (.t 7), none⟩, ⟨.bin 0 .neq (.l 0) (.l 1), none⟩, ⟨.mv (.l 2), none⟩, ⟨.mv (.t 6), some ((.l 3), false)⟩, ⟨.mv (.t 8), some ((.l 3), false)⟩, ⟨.bin 2 .neq (.l 4) (.l 5), some ((.l 3), false)⟩, ⟨.pick (.l 3) (.c (.bool true)) (.l 6), none⟩] [(44, 7)])
 (.cond (.t 44) (.seq (.region [⟨.mv (.c (.bool false)), none⟩] [(1, 0)])
 .ret) .skip)))
 (.seq (.region [⟨.load true 3 (.t 2), none⟩, ⟨.mv (.t 3), none⟩, ⟨.mv (.t 4), none⟩, ⟨.call (.c (.fn f_i_RaftReserve [] [])) [(.l 0), (.l 1), (.l 2)], none⟩, ⟨.mv (.l 3), none⟩, ⟨.extract 0 (.l 4), none⟩, ⟨.extract 1 (.l 4), none⟩, ⟨.extract 2 (.l 4), none⟩, ⟨.mv (.l 5), none⟩, ⟨.mv (.l 6), none⟩, ⟨.mv (.l 7), none⟩] [(9, 8), (10, 9), (11, 10)])
 (.seq (.seq (.region [⟨.load true 3 (.t 2), none⟩, ⟨.mv (.t 3), none⟩, ⟨.mv (.t 4), none⟩, ⟨.call (.c (.fn f_s_RaftReserve [] [])) [(.l 0), (.l 1), (.l 2)], none⟩, ⟨.mv (.l 3), none⟩, ⟨.extract 0 (.l 4), none⟩, ⟨.extract 1 (.l 4), none⟩, ⟨.extract 2 (.l 4), none⟩, ⟨.mv (.l 5), none⟩, ⟨.mv (.l 6), none⟩, ⟨.mv (.l 7), none⟩] [(12, 8), (13, 9), (14, 10)])
 (.seq (.region [⟨.mv (.t 9), none⟩, ⟨.mv (.t 12), none⟩, ⟨.bin 0 .neq (.l 0) (.l 1), none⟩, ⟨.mv (.l 2), none⟩, ⟨.mv (.t 10), some ((.l 3), false)⟩, ⟨.mv (.t 13), some ((.l 3), false)⟩, ⟨.bin 0 .neq (.l 4) (.l 5), some ((.l 3), false)⟩, ⟨.pick (.l 3) (.c (.bool true)) (.l 6), none⟩, ⟨.mv (.l 7), none⟩, ⟨.mv (.t 11), some ((.l 8), false)⟩, ⟨.mv (.t 14), some ((.l 8), false)⟩, ⟨.bin 2 .neq (.l 9) (.l 10), some ((.l 8), false)⟩, ⟨.pick (.l 8) (.c (.bool true)) (.l 11), none⟩, ⟨.mv (.l 12), none⟩, ⟨.mv (.t 11), some ((.l 13), false)⟩, ⟨.mv (.t 6), some ((.l 13), false)⟩, ⟨.bin 2 .neq (.l 14) (.l 15), some ((.l 13), false)⟩, ⟨.pick (.l 13) (.c (.bool true)) (.l 16), none⟩] [(45, 17)])
 (.cond (.t 45) (.seq (.region [⟨.mv (.c (.bool false)), none⟩] [(1, 0)])
 .ret) .skip)))
 (.seq (.region [⟨.load true 3 (.t 2), none⟩, ⟨.mv (.t 3), none⟩, ⟨.call (.c (.fn f_i_SafeSets [] [])) [(.l 0), (.l 1)], none⟩, ⟨.mv (.l 2), none⟩, ⟨.extract 0 (.l 3), none⟩, ⟨.extract 1 (.l 3), none⟩, ⟨.mv (.l 4), none⟩, ⟨.mv (.l 5), none⟩] [(15, 6), (16, 7)])
 (.seq (.seq (.region [⟨.load true 3 (.t 2), none⟩, ⟨.mv (.t 3), none⟩, ⟨.call (.c (.fn f_s_SafeSets [] [])) [(.l 0), (.l 1)], none⟩, ⟨.mv (.l 2), none⟩, ⟨.extract 0 (.l 3), none⟩, ⟨.extract 1 (.l 3), none⟩, ⟨.mv (.l 4), none⟩, ⟨.mv (.l 5), none⟩] [(17, 6), (18, 7)])
 (.seq (.region [⟨.mv (.t 15), none⟩, ⟨.mv (.t 17), none⟩, ⟨.bin 0 .neq (.l 0) (.l 1), none⟩, ⟨.mv (.l 2), none⟩, ⟨.mv (.t 16), some ((.l 3), false)⟩, ⟨.mv (.t 18), some ((.l 3), false)⟩, ⟨.bin 2 .neq (.l 4) (.l 5), some ((.l 3), false)⟩, ⟨.pick (.l 3) (.c (.bool true)) (.l 6), none⟩, ⟨.mv (.l 7), none⟩, ⟨.mv (.t 6), some ((.l 8), false)⟩, ⟨.mv (.l 9), some ((.l 8), false)⟩, ⟨.mv (.t 16), some ((.l 10), true)⟩, ⟨.un .not (.l 11), some ((.l 10), true)⟩, ⟨.pick (.l 10) (.l 12) (.c (.bool false)), some ((.l 8), false)⟩, ⟨.pick (.l 8) (.c (.bool true)) (.l 13), none⟩] [(46, 14)])
 (.cond (.t 46) (.seq (.region [⟨.mv (.c (.bool false)), none⟩] [(1, 0)])
 .ret) .skip)))
 (.seq (.region [⟨.mv (.t 0), none⟩, ⟨.call (.c (.fn f_s_DrawIsSafeOrder [] [])) [(.l 0)], none⟩, ⟨.mv (.l 1), none⟩, ⟨.extract 0 (.l 2), none⟩, ⟨.extract 1 (.l 2), none⟩, ⟨.extract 2 (.l 2), none⟩, ⟨.alloc [.int .i64 (0), .int .i64 (0), .int .i64 (0)], none⟩, ⟨.store 3 (.l 6) (.l 3), none⟩, ⟨.mv (.l 4), none⟩, ⟨.mv (.l 5), none⟩] [(19, 6), (20, 8), (21, 9)])
 (.seq (.region [⟨.load true 3 (.t 19), none⟩, ⟨.mv (.t 20), none⟩, ⟨.mv (.t 21), none⟩, ⟨.call (.c (.fn f_i_IsSafeOrder [] [])) [(.l 0), (.l 1), (.l 2)], none⟩, ⟨.mv (.l 3), none⟩, ⟨.extract 0 (.l 4), none⟩, ⟨.extract 1 (.l 4), none⟩, ⟨.mv (.l 5), none⟩, ⟨.mv (.l 6), none⟩] [(22, 7), (23, 8)])
 (.seq (.seq (.region [⟨.load true 3 (.t 19), none⟩, ⟨.mv (.t 20), none⟩, ⟨.mv (.t 21), none⟩, ⟨.call (.c (.fn f_s_IsSafeOrder [] [])) [(.l 0), (.l 1), (.l 2)], none⟩, ⟨.mv (.l 3), none⟩, ⟨.extract 0 (.l 4), none⟩, ⟨.extract 1 (.l 4), none⟩, ⟨.mv (.l 5), none⟩, ⟨.mv (.l 6), none⟩] [(24, 7), (25, 8)])
 (.seq (.region [⟨.mv (.t 22), none⟩, ⟨.mv (.t 24), none⟩, ⟨.bin 2 .neq (.l 0) (.l 1), none⟩, ⟨.mv (.l 2), none⟩, ⟨.mv (.t 23), some ((.l 3), false)⟩, ⟨.mv (.t 25), some ((.l 3), false)⟩, ⟨.bin 2 .neq (.l 4) (.l 5), some ((.l 3), false)⟩, ⟨.pick (.l 3) (.c (.bool true)) (.l 6), none⟩] [(47, 7)])
 (.cond (.t 47) (.seq (.region [⟨.mv (.c (.bool false)), none⟩] [(1, 0)])
 .ret) .skip)))
 (.seq (.region [⟨.load true 3 (.t 19), none⟩, ⟨.mv (.t 20), none⟩, ⟨.mv (.t 21), none⟩, ⟨.call (.c (.fn f_i_FirstTip [] [])) [(.l 0), (.l 1), (.l 2)], none⟩, ⟨.mv (.l 3), none⟩, ⟨.extract 0 (.l 4), none⟩, ⟨.extract 1 (.l 4), none⟩, ⟨.mv (.l 5), none⟩, ⟨.mv (.l 6), none⟩] [(26, 7), (27, 8)])
 (.seq (.seq (.region [⟨.load true 3 (.t 19), none⟩, ⟨.mv (.t 20), none⟩, ⟨.mv (.t 21), none⟩, ⟨.call (.c (.fn f_s_FirstTip [] [])) [(.l 0), (.l 1), (.l 2)], none⟩, ⟨.mv (.l 3), none⟩, ⟨.extract 0 (.l 4), none⟩, ⟨.extract 1 (.l 4), none⟩, ⟨.mv (.l 5), none⟩, ⟨.mv (.l 6), none⟩] [(28, 7), (29, 8)])
 (.seq (.region [⟨.mv (.t 26), none⟩, ⟨.mv (.t 28), none⟩, ⟨.bin 0 .neq (.l 0) (.l 1), none⟩, ⟨.mv (.l 2), none⟩, ⟨.mv (.t 27), some ((.l 3), false)⟩, ⟨.mv (.t 29), some ((.l 3), false)⟩, ⟨.bin 2 .neq (.l 4) (.l 5), some ((.l 3), false)⟩, ⟨.pick (.l 3) (.c (.bool true)) (.l 6), none⟩, ⟨.mv (.l 7), none⟩, ⟨.mv (.t 27), some ((.l 8), false)⟩, ⟨.mv (.t 23), some ((.l 8), false)⟩, ⟨.mv (.l 10), some ((.l 8), false)⟩, ⟨.mv (.t 22), some ((.l 11), true)⟩, ⟨.un .not (.l 12), some ((.l 11), true)⟩, ⟨.pick (.l 11) (.l 13) (.c (.bool false)), some ((.l 8), false)⟩, ⟨.bin 2 .neq (.l 9) (.l 14), some ((.l 8), false)⟩, ⟨.pick (.l 8) (.c (.bool true)) (.l 15), none⟩] [(48, 16)])
 (.cond (.t 48) (.seq (.region [⟨.mv (.c (.bool false)), none⟩] [(1, 0)])
 .ret) .skip)))
 (.seq (.region [⟨.mv (.t 0), none⟩, ⟨.call (.c (.fn f_s_DrawIsRaft [] [])) [(.l 0)], none⟩, ⟨.alloc [.int .i64 (0), .int .i64 (0), .int .i64 (0)], none⟩, ⟨.store 3 (.l 2) (.l 1), none⟩] [(30, 2)])
 (.seq (.seq (.draw [⟨.load true 3 (.t 30), none, []⟩, ⟨.load true 3 (.t 30), none, []⟩, ⟨.call (.c (.fn f_i_IsRaft [] [])) [(.l 0)], none, [(1, ⟨.load true 3 (.t 30), none⟩)]⟩, ⟨.call (.c (.fn f_s_IsRaft [] [])) [(.l 1)], none, []⟩, ⟨.bin 2 .neq (.l 2) (.l 3), none, []⟩, ⟨.mv (.l 4), none, []⟩, ⟨.mv (.t 6), some ((.l 5), false), []⟩, ⟨.mv (.l 6), some ((.l 5), false), []⟩, ⟨.mv (.t 5), some ((.l 7), true), []⟩, ⟨.bin 0 .eql (.l 8) (.c (.int .i64 (0))), some ((.l 7), true), []⟩, ⟨.mv (.t 9), some ((.l 7), true), []⟩, ⟨.bin 0 .geq (.l 10) (.c (.int .i64 (0))), some ((.l 7), true), []⟩, ⟨.mv (.l 11), some ((.l 7), true), []⟩, ⟨.mv (.t 10), some ((.l 12), true), []⟩, ⟨.bin 0 .geq (.l 13) (.c (.int .i64 (0))), some ((.l 12), true), []⟩, ⟨.pick (.l 12) (.l 14) (.c (.bool false)), some ((.l 7), true), []⟩, ⟨.bin 2 .neq (.l 9) (.l 15), some ((.l 7), true), []⟩, ⟨.pick (.l 7) (.l 16) (.c (.bool false)), some ((.l 5), false), []⟩, ⟨.pick (.l 5) (.c (.bool true)) (.l 17), none, []⟩] [(49, 18)])
 (.cond (.t 49) (.seq (.region [⟨.mv (.c (.bool false)), none⟩] [(1, 0)])
 .ret) .skip))
 (.seq (.seq (.region [⟨.mv (.t 16), none⟩] [(50, 0)])
 (.cond (.t 50) (.seq (.region [⟨.mv (.c (.int .i64 (0))), none⟩] [(31, 0)])
 (.seq (.seq (.region [⟨.mv (.c (.int .i64 (0))), none⟩] [(32, 0)])
 (.block 0 (.loop w_l_FnRafts_2)))
 (.seq (.region [⟨.mv (.t 31), none⟩, ⟨.mv (.t 15), none⟩, ⟨.bin 0 .neq (.l 0) (.l 1), none⟩] [(56, 2)])
 (.cond (.t 56) (.seq (.region [⟨.mv (.c (.bool false)), none⟩] [(1, 0)])
 .ret) .skip)))) .skip))
 (.seq (.seq (.region [⟨.mv (.t 23), none⟩, ⟨.un .not (.l 0), none⟩] [(57, 1)])
 (.cond (.t 57) (.seq (.region [⟨.mv (.c (.bool true)), none⟩] [(1, 0)])
 .ret) .skip))
 (.seq (.region [⟨.mv (.c (.int .i64 (-1))), none⟩] [(37, 0)])
 (.seq (.seq (.region [⟨.mv (.c (.int .i64 (1))), none⟩] [(38, 0)])
 (.block 4 (.loop w_l_FnRafts_4)))
 (.seq (.region [⟨.mv (.t 22), none⟩, ⟨.mv (.t 37), none⟩, ⟨.bin 0 .lss (.l 1) (.c (.int .i64 (0))), none⟩, ⟨.bin 2 .eql (.l 0) (.l 2), none⟩, ⟨.mv (.l 3), none⟩, ⟨.mv (.t 22), some ((.l 4), true)⟩, ⟨.mv (.l 5), some ((.l 4), true)⟩, ⟨.mv (.t 26), some ((.l 6), false)⟩, ⟨.mv (.t 37), some ((.l 6), false)⟩, ⟨.bin 0 .eql (.l 7) (.l 8), some ((.l 6), false)⟩, ⟨.pick (.l 6) (.c (.bool true)) (.l 9), some ((.l 4), true)⟩, ⟨.pick (.l 4) (.l 10) (.c (.bool false)), none⟩, ⟨.mv (.l 11), none⟩] [(1, 12)])
 .ret)))))))))))))))))))))
def a_l_FnRafts : AFun := ⟨[0, 2, 3, 4, 5, 6, 7, 8, 9, 10, 11, 12, 13, 14, 15, 16, 17, 18, 19, 20, 21, 22, 23, 24, 25, 26, 27, 28, 29, 30, 31, 32, 33, 34, 35, 36, 37, 38, 39, 40, 41, 42, 43, 45, 73, 107, 134, 162, 193, 214, 215, 220, 227, 234, 247, 249, 254, 256, 260, 267, 274, 287, 293], 307, c_l_FnRafts, [.tmp 1], 1⟩
def w_l_FnSafeOrders_1 : ACode :=
 (.seq (.seq (.region [⟨.mv (.t 41), none⟩, ⟨.bin 0 .geq (.l 0) (.c (.int .i64 (0))), none⟩] [(60, 1)])
 (.cond (.t 60) .skip (.exit 0)))
 (.seq (.block 1 (.region [⟨.mv (.t 40), none⟩, ⟨.mv (.t 12), none⟩, ⟨.mv (.t 41), none⟩, ⟨.indexAddrS 1 (.l 1) (.l 2), none⟩, ⟨.load false 1 (.l 3), none⟩, ⟨.buildSlice 1 1 [.int .i64 (0)] [(0, 1, (.l 4))], none⟩, ⟨.append false 1 8 (.l 0) (.l 5), none⟩, ⟨.mv (.l 6), none⟩] [(40, 7)]))
 (.region [⟨.mv (.t 41), none⟩, ⟨.bin 0 .sub (.l 0) (.c (.int .i64 (1))), none⟩, ⟨.mv (.l 1), none⟩] [(41, 2)])))
def c_l_FnSafeOrders : ACode :=
 (.seq (.region [⟨.mv (.c (.bool false)), none⟩] [(1, 0)])
 (.seq (.seq (.region [⟨.mv (.t 0), none⟩, ⟨.call (.c (.fn f_l_rBig [] [])) [(.l 0)], none⟩] [(48, 1)])
 (.cond (.t 48) (.seq (.region [⟨.mv (.c (.bool true)), none⟩] [(1, 0)])
 .ret) .skip))
 (.seq (.region [⟨.mv (.t 0), none⟩, ⟨.call (.c (.fn f_s_DrawSafeOrder [] [])) [(.l 0)], none⟩, ⟨.mv (.l 1), none⟩, ⟨.extract 0 (.l 2), none⟩, ⟨.extract 1 (.l 2), none⟩, ⟨.alloc [.int .i64 (0), .int .i64 (0), .int .i64 (0)], none⟩, ⟨.store 3 (.l 5) (.l 3), none⟩, ⟨.mv (.l 4), none⟩] [(2, 5), (3, 7)])
 (.seq (.region [⟨.load true 3 (.t 2), none⟩, ⟨.mv (.t 3), none⟩, ⟨.call (.c (.fn f_i_SafeOrder [] [])) [(.l 0), (.l 1)], none⟩, ⟨.mv (.l 2), none⟩, ⟨.extract 0 (.l 3), none⟩, ⟨.extract 1 (.l 3), none⟩, ⟨.mv (.l 4), none⟩, ⟨.mv (.l 5), none⟩] [(4, 6), (5, 7)])
 (.seq (.seq (.region [⟨.load true 3 (.t 2), none⟩, ⟨.mv (.t 3), none⟩, ⟨.call (.c (.fn f_s_SafeOrder [] [])) [(.l 0), (.l 1)], none⟩, ⟨.mv (.l 2), none⟩, ⟨.extract 0 (.l 3), none⟩, ⟨.extract 1 (.l 3), none⟩, ⟨.mv (.l 4), none⟩, ⟨.mv (.l 5), none⟩] [(6, 6), (7, 7)])
 (.seq (.region [⟨.mv (.t 5), none⟩, ⟨.mv (.t 7), none⟩, ⟨.bin 2 .neq (.l 0) (.l 1), none⟩, ⟨.mv (.l 2), none⟩, ⟨.mv (.t 4), some ((.l 3), false)⟩, ⟨.mv (.t 6), some ((.l 3), false)⟩, ⟨.call (.c (.fn f_l_rInts [] [])) [(.l 4), (.l 5)], some ((.l 3), false)⟩, ⟨.un .not (.l 6), some ((.l 3), false)⟩, ⟨.pick (.l 3) (.c (.bool true)) (.l 7), none⟩] [(49, 8)])
 (.cond (.t 49) (.seq (.region [⟨.mv (.c (.bool false)), none⟩] [(1, 0)])
 .ret) .skip)))
 (.seq (.region [⟨.load true 3 (.t 2), none⟩, ⟨.mv (.t 3), none⟩, ⟨.call (.c (.fn f_i_CountSafe [] [])) [(.l 0), (.l 1)], none⟩, ⟨.mv (.l 2), none⟩, ⟨.extract 0 (.l 3), none⟩, ⟨.extract 1 (.l 3), none⟩, ⟨.mv (.l 4), none⟩, ⟨.mv (.l 5), none⟩] [(8, 6), (9, 7)])
 (.seq (.seq (.region [⟨.load true 3 (.t 2), none⟩, ⟨.mv (.t 3), none⟩, ⟨.call (.c (.fn f_s_CountSafe [] [])) [(.l 0), (.l 1)], none⟩, ⟨.mv (.l 2), none⟩, ⟨.extract 0 (.l 3), none⟩, ⟨.extract 1 (.l 3), none⟩, ⟨.mv (.l 4), none⟩, ⟨.mv (.l 5), none⟩] [(10, 6), (11, 7)])
 (.seq (.region [⟨.mv (.t 8), none⟩, ⟨.mv (.t 10), none⟩, ⟨.bin 0 .neq (.l 0) (.l 1), none⟩, ⟨.mv (.l 2), none⟩, ⟨.mv (.t 9), some ((.l 3), false)⟩, ⟨.mv (.t 11), some ((.l 3), false)⟩, ⟨.bin 2 .neq (.l 4) (.l 5), some ((.l 3), false)⟩, ⟨.pick (.l 3) (.c (.bool true)) (.l 6), none⟩, ⟨.mv (.l 7), none⟩, ⟨.mv (.t 5), some ((.l 8), false)⟩, ⟨.mv (.t 9), some ((.l 8), false)⟩, ⟨.mv (.l 10), some ((.l 8), false)⟩, ⟨.mv (.t 8), some ((.l 11), true)⟩, ⟨.bin 0 .gtr (.l 12) (.c (.int .i64 (0))), some ((.l 11), true)⟩, ⟨.pick (.l 11) (.l 13) (.c (.bool false)), some ((.l 8), false)⟩, ⟨.bin 2 .neq (.l 9) (.l 14), some ((.l 8), false)⟩, ⟨.pick (.l 8) (.c (.bool true)) (.l 15), none⟩] [(50, 16)])
 (.cond (.t 50) (.seq (.region [⟨.mv (.c (.bool false)), none⟩] [(1, 0)])
 .ret) .skip)))
 (.seq (.region [⟨.load true 3 (.t 2), none⟩, ⟨.mv (.t 3), none⟩, ⟨.call (.c (.fn f_i_UnloadOrder [] [])) [(.l 0), (.l 1)], none⟩, ⟨.mv (.l 2), none⟩, ⟨.extract 0 (.l 3), none⟩, ⟨.extract 1 (.l 3), none⟩, ⟨.mv (.l 4), none⟩, ⟨.mv (.l 5), none⟩] [(12, 6), (13, 7)])
 (.seq (.seq (.region [⟨.load true 3 (.t 2), none⟩, ⟨.mv (.t 3), none⟩, ⟨.call (.c (.fn f_s_UnloadOrder [] [])) [(.l 0), (.l 1)], none⟩, ⟨.mv (.l 2), none⟩, ⟨.extract 0 (.l 3), none⟩, ⟨.extract 1 (.l 3), none⟩, ⟨.mv (.l 4), none⟩, ⟨.mv (.l 5), none⟩] [(14, 6), (15, 7)])
 (.seq (.region [⟨.mv (.t 13), none⟩, ⟨.mv (.t 15), none⟩, ⟨.bin 2 .neq (.l 0) (.l 1), none⟩, ⟨.mv (.l 2), none⟩, ⟨.mv (.t 13), some ((.l 3), false)⟩, ⟨.mv (.t 5), some ((.l 3), false)⟩, ⟨.bin 2 .neq (.l 4) (.l 5), some ((.l 3), false)⟩, ⟨.pick (.l 3) (.c (.bool true)) (.l 6), none⟩, ⟨.mv (.l 7), none⟩, ⟨.mv (.t 12), some ((.l 8), false)⟩, ⟨.mv (.t 14), some ((.l 8), false)⟩, ⟨.call (.c (.fn f_l_rInts [] [])) [(.l 9), (.l 10)], some ((.l 8), false)⟩, ⟨.un .not (.l 11), some ((.l 8), false)⟩, ⟨.pick (.l 8) (.c (.bool true)) (.l 12), none⟩] [(51, 13)])
 (.cond (.t 51) (.seq (.region [⟨.mv (.c (.bool false)), none⟩] [(1, 0)])
 .ret) .skip)))
 (.seq (.region [⟨.load true 3 (.t 2), none⟩, ⟨.mv (.t 3), none⟩, ⟨.call (.c (.fn f_i_LeastOwn [] [])) [(.l 0), (.l 1)], none⟩, ⟨.mv (.l 2), none⟩, ⟨.extract 0 (.l 3), none⟩, ⟨.extract 1 (.l 3), none⟩, ⟨.mv (.l 4), none⟩, ⟨.mv (.l 5), none⟩] [(16, 6), (17, 7)])
 (.seq (.seq (.region [⟨.load true 3 (.t 2), none⟩, ⟨.mv (.t 3), none⟩, ⟨.call (.c (.fn f_s_LeastOwn [] [])) [(.l 0), (.l 1)], none⟩, ⟨.mv (.l 2), none⟩, ⟨.extract 0 (.l 3), none⟩, ⟨.extract 1 (.l 3), none⟩, ⟨.mv (.l 4), none⟩, ⟨.mv (.l 5), none⟩] [(18, 6), (19, 7)])
 (.seq (.region [⟨.mv (.t 16), none⟩, ⟨.mv (.t 18), none⟩, ⟨.bin 0 .neq (.l 0) (.l 1), none⟩, ⟨.mv (.l 2), none⟩, ⟨.mv (.t 17), some ((.l 3), false)⟩, ⟨.mv (.t 19), some ((.l 3), false)⟩, ⟨.bin 2 .neq (.l 4) (.l 5), some ((.l 3), false)⟩, ⟨.pick (.l 3) (.c (.bool true)) (.l 6), none⟩] [(52, 7)])
 (.cond (.t 52) (.seq (.region [⟨.mv (.c (.bool false)), none⟩] [(1, 0)])
 .ret) .skip)))
 (.seq (.region [⟨.load true 3 (.t 2), none⟩, ⟨.mv (.t 3), none⟩, ⟨.call (.c (.fn f_i_PairSteps [] [])) [(.l 0), (.l 1)], none⟩, ⟨.mv (.l 2), none⟩, ⟨.extract 0 (.l 3), none⟩, ⟨.extract 1 (.l 3), none⟩, ⟨.mv (.l 4), none⟩, ⟨.mv (.l 5), none⟩] [(20, 6), (21, 7)])
 (.seq (.seq (.region [⟨.load true 3 (.t 2), none⟩, ⟨.mv (.t 3), none⟩, ⟨.call (.c (.fn f_s_PairSteps [] [])) [(.l 0), (.l 1)], none⟩, ⟨.mv (.l 2), none⟩, ⟨.extract 0 (.l 3), none⟩, ⟨.extract 1 (.l 3), none⟩, ⟨.mv (.l 4), none⟩, ⟨.mv (.l 5), none⟩] [(22, 6), (23, 7)])
 (.seq (.region [⟨.mv (.t 20), none⟩, ⟨.mv (.t 22), none⟩, ⟨.bin 0 .neq (.l 0) (.l 1), none⟩, ⟨.mv (.l 2), none⟩, ⟨.mv (.t 21), some ((.l 3), false)⟩, ⟨.mv (.t 23), some ((.l 3), false)⟩, ⟨.bin 2 .neq (.l 4) (.l 5), some ((.l 3), false)⟩, ⟨.pick (.l 3) (.c (.bool true)) (.l 6), none⟩, ⟨.mv (.l 7), none⟩, ⟨.mv (.t 5), some ((.l 8), false)⟩, ⟨.mv (.l 9), some ((.l 8), false)⟩, ⟨.mv (.t 21), some ((.l 10), true)⟩, ⟨.un .not (.l 11), some ((.l 10), true)⟩, ⟨.pick (.l 10) (.l 12) (.c (.bool false)), some ((.l 8), false)⟩, ⟨.pick (.l 8) (.c (.bool true)) (.l 13), none⟩] [(53, 14)])
 (.cond (.t 53) (.seq (.region [⟨.mv (.c (.bool false)), none⟩] [(1, 0)])
 .ret) .skip)))
 (.seq (.region [⟨.load true 3 (.t 2), none⟩, ⟨.mv (.t 3), none⟩, ⟨.call (.c (.fn f_i_HardestItem [] [])) [(.l 0), (.l 1)], none⟩, ⟨.mv (.l 2), none⟩, ⟨.extract 0 (.l 3), none⟩, ⟨.extract 1 (.l 3), none⟩, ⟨.mv (.l 4), none⟩, ⟨.mv (.l 5), none⟩] [(24, 6), (25, 7)])
 (.seq (.seq (.region [⟨.load true 3 (.t 2), none⟩, ⟨.mv (.t 3), none⟩, ⟨.call (.c (.fn f_s_HardestItem [] [])) [(.l 0), (.l 1)], none⟩, ⟨.mv (.l 2), none⟩, ⟨.extract 0 (.l 3), none⟩, ⟨.extract 1 (.l 3), none⟩, ⟨.mv (.l 4), none⟩, ⟨.mv (.l 5), none⟩] [(26, 6), (27, 7)])
 (.seq (.region [⟨.mv (.t 24), none⟩, ⟨.mv (.t 26), none⟩, ⟨.bin 0 .neq (.l 0) (.l 1), none⟩, ⟨.mv (.l 2), none⟩, ⟨.mv (.t 25), some ((.l 3), false)⟩, ⟨.mv (.t 27), some ((.l 3), false)⟩, ⟨.bin 2 .neq (.l 4) (.l 5), some ((.l 3), false)⟩, ⟨.pick (.l 3) (.c (.bool true)) (.l 6), none⟩] [(54, 7)])
 (.cond (.t 54) (.seq (.region [⟨.mv (.c (.bool false)), none⟩] [(1, 0)])
 .ret) .skip)))
 (.seq (.region [⟨.mv (.t 0), none⟩, ⟨.call (.c (.fn f_s_DrawSafeStep [] [])) [(.l 0)], none⟩, ⟨.mv (.l 1), none⟩, ⟨.extract 0 (.l 2), none⟩, ⟨.extract 1 (.l 2), none⟩, ⟨.extract 2 (.l 2), none⟩, ⟨.alloc [.int .i64 (0), .int .i64 (0), .int .i64 (0)], none⟩, ⟨.store 3 (.l 6) (.l 3), none⟩, ⟨.mv (.l 4), none⟩, ⟨.mv (.l 5), none⟩] [(28, 6), (29, 8), (30, 9)])
 (.seq (.region [⟨.load true 3 (.t 28), none⟩, ⟨.mv (.t 29), none⟩, ⟨.mv (.t 30), none⟩, ⟨.call (.c (.fn f_i_SafeStep [] [])) [(.l 0), (.l 1), (.l 2)], none⟩, ⟨.mv (.l 3), none⟩, ⟨.extract 0 (.l 4), none⟩, ⟨.extract 1 (.l 4), none⟩, ⟨.mv (.l 5), none⟩, ⟨.mv (.l 6), none⟩] [(31, 7), (32, 8)])
 (.seq (.seq (.region [⟨.load true 3 (.t 28), none⟩, ⟨.mv (.t 29), none⟩, ⟨.mv (.t 30), none⟩, ⟨.call (.c (.fn f_s_SafeStep [] [])) [(.l 0), (.l 1), (.l 2)], none⟩, ⟨.mv (.l 3), none⟩, ⟨.extract 0 (.l 4), none⟩, ⟨.extract 1 (.l 4), none⟩, ⟨.mv (.l 5), none⟩, ⟨.mv (.l 6), none⟩] [(33, 7), (34, 8)])
 (.seq (.region [⟨.mv (.t 32), none⟩, ⟨.mv (.t 34), none⟩, ⟨.bin 2 .neq (.l 0) (.l 1), none⟩, ⟨.mv (.l 2), none⟩, ⟨.mv (.t 31), some ((.l 3), false)⟩, ⟨.mv (.t 33), some ((.l 3), false)⟩, ⟨.call (.c (.fn f_l_rInts [] [])) [(.l 4), (.l 5)], some ((.l 3), false)⟩, ⟨.un .not (.l 6), some ((.l 3), false)⟩, ⟨.pick (.l 3) (.c (.bool true)) (.l 7), none⟩] [(55, 8)])
 (.cond (.t 55) (.seq (.region [⟨.mv (.c (.bool false)), none⟩] [(1, 0)])
 .ret) .skip)))
 (.seq (.seq (.region [⟨.mv (.t 9), none⟩, ⟨.mv (.l 0), none⟩, ⟨.mv (.t 17), some ((.l 1), true)⟩, ⟨.pick (.l 1) (.l 2) (.c (.bool false)), none⟩] [(56, 3)])
 (.cond (.t 56) (.seq (.seq (.region [⟨.mv (.t 5), none⟩, ⟨.mv (.t 16), none⟩, ⟨.fieldAddr 2 (.t 2), none⟩, ⟨.load false 1 (.l 2), none⟩, ⟨.bin 0 .leq (.l 1) (.l 3), none⟩, ⟨.bin 2 .neq (.l 0) (.l 4), none⟩] [(57, 5)])
 (.cond (.t 57) (.seq (.region [⟨.mv (.c (.bool false)), none⟩] [(1, 0)])
 .ret) .skip))
 (.seq (.region [⟨.fieldAddr 0 (.t 2), none⟩, ⟨.load false 1 (.l 0), none⟩, ⟨.fieldAddr 1 (.t 2), none⟩, ⟨.load false 1 (.l 2), none⟩, ⟨.build [.int .i64 (0), .int .i64 (0), .int .i64 (0)] [(0, 1, (.l 1)), (1, 1, (.l 3)), (2, 1, (.c (.int .i64 (99))))], none⟩, ⟨.alloc [.int .i64 (0), .int .i64 (0), .int .i64 (0)], none⟩, ⟨.store 3 (.l 5) (.l 4), none⟩] [(35, 5)])
 (.seq (.region [⟨.load true 3 (.t 35), none⟩, ⟨.mv (.t 3), none⟩, ⟨.call (.c (.fn f_i_CountSafe [] [])) [(.l 0), (.l 1)], none⟩, ⟨.mv (.l 2), none⟩, ⟨.extract 0 (.l 3), none⟩, ⟨.extract 1 (.l 3), none⟩, ⟨.mv (.l 4), none⟩, ⟨.mv (.l 5), none⟩] [(36, 6), (37, 7)])
 (.seq (.region [⟨.mv (.t 37), none⟩, ⟨.un .not (.l 0), none⟩, ⟨.mv (.l 1), none⟩, ⟨.mv (.t 36), some ((.l 2), false)⟩, ⟨.mv (.t 8), some ((.l 2), false)⟩, ⟨.bin 0 .lss (.l 3) (.l 4), some ((.l 2), false)⟩, ⟨.pick (.l 2) (.c (.bool true)) (.l 5), none⟩] [(58, 6)])
 (.cond (.t 58) (.seq (.region [⟨.mv (.c (.bool false)), none⟩] [(1, 0)])
 .ret) .skip))))) .skip))
 (.seq (.seq (.region [⟨.mv (.t 5), none⟩, ⟨.un .not (.l 0), none⟩] [(59, 1)])
 (.cond (.t 59) (.seq (.region [⟨.mv (.c (.bool true)), none⟩] [(1, 0)])
 .ret) .skip))
 (.seq (.region [⟨.load true 3 (.t 2), none⟩, ⟨.mv (.t 3), none⟩, ⟨.mv (.t 4), none⟩, ⟨.call (.c (.fn f_i_IsSafeOrder [] [])) [(.l 0), (.l 1), (.l 2)], none⟩, ⟨.mv (.l 3), none⟩, ⟨.extract 0 (.l 4), none⟩, ⟨.extract 1 (.l 4), none⟩, ⟨.mv (.l 5), none⟩, ⟨.mv (.l 6), none⟩] [(38, 7), (39, 8)])
 (.seq (.region [⟨.buildSlice 1 0 [] [], none⟩, ⟨.mv (.l 0), none⟩] [(40, 1)])
 (.seq (.seq (.region [⟨.mv (.t 12), none⟩, ⟨.len (.l 0), none⟩, ⟨.bin 0 .sub (.l 1) (.c (.int .i64 (1))), none⟩, ⟨.mv (.l 2), none⟩] [(41, 3)])
 (.block 0 (.loop w_l_FnSafeOrders_1)))
 (.seq (.region [⟨.load true 3 (.t 2), none⟩, ⟨.mv (.t 3), none⟩, ⟨.mv (.t 40), none⟩, ⟨.call (.c (.fn f_i_IsSafeOrder [] [])) [(.l 0), (.l 1), (.l 2)], none⟩, ⟨.mv (.l 3), none⟩, ⟨.extract 0 (.l 4), none⟩, ⟨.extract 1 (.l 4), none⟩, ⟨.mv (.l 5), none⟩, ⟨.mv (.l 6), none⟩] [(42, 7), (43, 8)])
 (.seq (.region [⟨.load true 3 (.t 2), none⟩, ⟨.mv (.t 3), none⟩, ⟨.buildSlice 1 0 [] [], none⟩, ⟨.call (.c (.fn f_i_SafeStep [] [])) [(.l 0), (.l 1), (.l 2)], none⟩, ⟨.mv (.l 3), none⟩, ⟨.extract 0 (.l 4), none⟩, ⟨.extract 1 (.l 4), none⟩, ⟨.mv (.l 5), none⟩, ⟨.mv (.l 6), none⟩] [(44, 7), (45, 8)])
 (.seq (.seq (.region [⟨.load true 3 (.t 2), none⟩, ⟨.mv (.t 3), none⟩, ⟨.buildSlice 1 0 [] [], none⟩, ⟨.call (.c (.fn f_s_SafeStep [] [])) [(.l 0), (.l 1), (.l 2)], none⟩, ⟨.mv (.l 3), none⟩, ⟨.extract 0 (.l 4), none⟩, ⟨.extract 1 (.l 4), none⟩, ⟨.mv (.l 5), none⟩, ⟨.mv (.l 6), none⟩] [(46, 7), (47, 8)])
 (.seq (.region [⟨.mv (.t 45), none⟩, ⟨.un .not (.l 0), none⟩, ⟨.mv (.l 1), none⟩, ⟨.mv (.t 47), some ((.l 2), false)⟩, ⟨.un .not (.l 3), some ((.l 2), false)⟩, ⟨.pick (.l 2) (.c (.bool true)) (.l 4), none⟩, ⟨.mv (.l 5), none⟩, ⟨.mv (.t 44), some ((.l 6), false)⟩, ⟨.mv (.t 46), some ((.l 6), false)⟩, ⟨.call (.c (.fn f_l_rInts [] [])) [(.l 7), (.l 8)], some ((.l 6), false)⟩, ⟨.un .not (.l 9), some ((.l 6), false)⟩, ⟨.pick (.l 6) (.c (.bool true)) (.l 10), none⟩] [(61, 11)])
 (.cond (.t 61) (.seq (.region [⟨.mv (.c (.bool false)), none⟩] [(1, 0)])
 .ret) .skip)))
 (.seq (.seq (.region [⟨.mv (.t 39), none⟩, ⟨.un .not (.l 0), none⟩, ⟨.mv (.l 1), none⟩, ⟨.mv (.t 43), some ((.l 2), false)⟩, ⟨.un .not (.l 3), some ((.l 2), false)⟩, ⟨.pick (.l 2) (.c (.bool true)) (.l 4), none⟩, ⟨.mv (.l 5), none⟩, ⟨.mv (.t 38), some ((.l 6), false)⟩, ⟨.un .not (.l 7), some ((.l 6), false)⟩, ⟨.pick (.l 6) (.c (.bool true)) (.l 8), none⟩, ⟨.mv (.l 9), none⟩, ⟨.mv (.t 42), some ((.l 10), false)⟩, ⟨.un .not (.l 11), some ((.l 10), false)⟩, ⟨.pick (.l 10) (.c (.bool true)) (.l 12), none⟩, ⟨.mv (.l 13), none⟩, ⟨.mv (.t 20), some ((.l 14), false)⟩, ⟨.mv (.t 3), some ((.l 14), false)⟩, ⟨.len (.l 16), some ((.l 14), false)⟩, ⟨.bin 0 .gtr (.l 15) (.l 17), some ((.l 14), false)⟩, ⟨.pick (.l 14) (.c (.bool true)) (.l 18), none⟩, ⟨.mv (.l 19), none⟩, ⟨.mv (.t 20), some ((.l 20), false)⟩, ⟨.bin 0 .mul (.c (.int .i64 (2))) (.l 21), some ((.l 20), false)⟩, ⟨.mv (.t 3), some ((.l 20), false)⟩, ⟨.len (.l 23), some ((.l 20), false)⟩, ⟨.bin 0 .lss (.l 22) (.l 24), some ((.l 20), false)⟩, ⟨.pick (.l 20) (.c (.bool true)) (.l 25), none⟩] [(62, 26)])
 (.cond (.t 62) (.seq (.region [⟨.mv (.c (.bool false)), none⟩] [(1, 0)])
 .ret) .skip))
 (.seq (.draw [⟨.mv (.t 4), none, []⟩, ⟨.len (.l 0), none, []⟩, ⟨.bin 0 .eql (.l 1) (.c (.int .i64 (0))), none, []⟩, ⟨.mv (.l 2), none, []⟩, ⟨.mv (.t 44), some ((.l 3), false), []⟩, ⟨.len (.l 4), some ((.l 3), false), []⟩, ⟨.bin 0 .gtr (.l 5) (.c (.int .i64 (0))), some ((.l 3), false), []⟩, ⟨.mv (.l 6), some ((.l 3), false), []⟩, ⟨.mv (.t 44), some ((.l 7), true), []⟩, ⟨.indexAddrS 1 (.l 8) (.c (.int .i64 (0))), some ((.l 7), true), []⟩, ⟨.load false 1 (.l 9), some ((.l 7), true), []⟩, ⟨.mv (.t 4), some ((.l 7), true), []⟩, ⟨.indexAddrS 1 (.l 11) (.c (.int .i64 (0))), some ((.l 7), true), []⟩, ⟨.load false 1 (.l 12), some ((.l 7), true), []⟩, ⟨.bin 0 .eql (.l 10) (.l 13), some ((.l 7), true), []⟩, ⟨.pick (.l 7) (.l 14) (.c (.bool false)), some ((.l 3), false), []⟩, ⟨.pick (.l 3) (.c (.bool true)) (.l 15), none, []⟩, ⟨.mv (.l 16), none, []⟩] [(1, 17)])
 .ret))))))))))))))))))))))))))))
def a_l_FnSafeOrders : AFun := ⟨[0, 2, 3, 4, 5, 6, 7, 8, 9, 10, 11, 12, 13, 14, 15, 16, 17, 18, 19, 20, 21, 22, 23, 24, 25, 26, 27, 28, 29, 30, 31, 32, 33, 34, 35, 36, 37, 38, 39, 40, 41, 42, 43, 44, 45, 46, 47, 48, 50, 76, 105, 131, 151, 178, 198, 227, 231, 237, 255, 257, 270, 312, 339], 357, c_l_FnSafeOrders, [.tmp 1], 1⟩
def c_l_szLoadS : ACode :=
 (.seq (.region [⟨.mv (.c (.int .i64 (0))), none⟩] [(2, 0)])
 (.seq (.region [⟨.mv (.t 1), none⟩, ⟨.mv (.t 0), none⟩, ⟨.len (.l 1), none⟩, ⟨.bin 0 .sub (.l 0) (.l 2), none⟩, ⟨.mv (.l 3), none⟩] [(1, 4)])
 (.seq (.seq (.region [⟨.mv (.t 1), none⟩, ⟨.bin 0 .lss (.l 0) (.c (.int .i64 (0))), none⟩] [(3, 1)])
 (.cond (.t 3) (.seq (.region [⟨.mv (.c (.int .i64 (-1))), none⟩] [(2, 0)])
 .ret) .skip))
 (.seq (.region [⟨.mv (.t 1), none⟩, ⟨.mv (.l 0), none⟩] [(2, 1)])
 .ret))))
def a_l_szLoadS : AFun := ⟨[0, 1, 4, 10], 12, c_l_szLoadS, [.tmp 2], 1⟩
def c_s_FirstTip : ACode :=
 (.seq (.region [⟨.box (.t 0), none⟩, ⟨.mv (.c (.int .i64 (0))), none⟩, ⟨.mv (.c (.bool false)), none⟩] [(3, 0), (4, 1), (5, 2)])
 (.seq (.seq (.region [⟨.load true 3 (.t 3), none⟩, ⟨.mv (.t 1), none⟩, ⟨.mv (.t 2), none⟩, ⟨.call (.c (.fn f_s_l10Order [] [])) [(.l 0), (.l 1), (.l 2)], none⟩, ⟨.un .not (.l 3), none⟩, ⟨.mv (.l 4), none⟩, ⟨.load true 3 (.t 3), some ((.l 5), false)⟩, ⟨.mv (.t 1), some ((.l 5), false)⟩, ⟨.mv (.t 2), some ((.l 5), false)⟩, ⟨.call (.c (.fn f_s_l10Tip [] [])) [(.l 6), (.l 7), (.l 8)], some ((.l 5), false)⟩, ⟨.bin 0 .lss (.l 9) (.c (.int .i64 (0))), some ((.l 5), false)⟩, ⟨.pick (.l 5) (.c (.bool true)) (.l 10), none⟩] [(6, 11)])
 (.cond (.t 6) (.seq (.region [⟨.mv (.c (.int .i64 (0))), none⟩, ⟨.mv (.c (.bool false)), none⟩] [(4, 0), (5, 1)])
 .ret) .skip))
 (.seq (.region [⟨.load true 3 (.t 3), none⟩, ⟨.mv (.t 1), none⟩, ⟨.mv (.t 2), none⟩, ⟨.call (.c (.fn f_s_l10Tip [] [])) [(.l 0), (.l 1), (.l 2)], none⟩, ⟨.mv (.l 3), none⟩, ⟨.mv (.c (.bool true)), none⟩] [(4, 4), (5, 5)])
 .ret)))
def a_s_FirstTip : AFun := ⟨[0, 1, 2, 3, 6, 7, 19], 24, c_s_FirstTip, [.tmp 4, .tmp 5], 1⟩
def c_l_toRaft : ACode :=
 (.seq (.region [⟨.box (.t 0), none⟩, ⟨.alloc [.int .i64 (0), .int .i64 (0), .int .i64 (0)], none⟩] [(1, 0), (2, 1)])
 (.seq (.region [⟨.alloc [.int .i64 (0), .int .i64 (0), .int .i64 (0)], none⟩] [(3, 0)])
 (.seq (.region [⟨.fieldAddr 0 (.t 1), none⟩, ⟨.load false 1 (.l 0), none⟩, ⟨.fieldAddr 0 (.t 3), none⟩, ⟨.store 1 (.l 2) (.l 1), none⟩] [])
 (.seq (.region [⟨.fieldAddr 1 (.t 1), none⟩, ⟨.load false 1 (.l 0), none⟩, ⟨.fieldAddr 1 (.t 3), none⟩, ⟨.store 1 (.l 2) (.l 1), none⟩] [])
 (.seq (.region [⟨.fieldAddr 2 (.t 1), none⟩, ⟨.load false 1 (.l 0), none⟩, ⟨.fieldAddr 2 (.t 3), none⟩, ⟨.store 1 (.l 2) (.l 1), none⟩] [])
 (.seq (.region [⟨.load true 3 (.t 3), none⟩, ⟨.store 3 (.t 2) (.l 0), none⟩] [])
 .ret))))))
def a_l_toRaft : AFun := ⟨[0, 1, 2, 3], 14, c_l_toRaft, [.cell 2 true 3], 1⟩
def w_l_toLoadS_1 : ACode :=
 (.seq (.seq (.region [⟨.mv (.t 3), none⟩, ⟨.mv (.t 0), none⟩, ⟨.len (.l 1), none⟩, ⟨.bin 0 .lss (.l 0) (.l 2), none⟩] [(4, 3)])
 (.cond (.t 4) .skip (.exit 0)))
 (.seq (.block 1 (.region [⟨.mv (.t 2), none⟩, ⟨.mv (.t 3), none⟩, ⟨.mv (.t 0), none⟩, ⟨.mv (.t 3), none⟩, ⟨.indexAddrS 2 (.l 2) (.l 3), none⟩, ⟨.load true 2 (.l 4), none⟩, ⟨.call (.c (.fn f_l_toLoad [] [])) [(.l 5)], none⟩, ⟨.indexAddrS 2 (.l 0) (.l 1), none⟩, ⟨.store 2 (.l 7) (.l 6), none⟩] []))
 (.region [⟨.mv (.t 3), none⟩, ⟨.bin 0 .add (.l 0) (.c (.int .i64 (1))), none⟩, ⟨.mv (.l 1), none⟩] [(3, 2)])))
def c_l_toLoadS : ACode :=
 (.seq (.region [⟨.mv (.c (.slice none 0 0 none)), none⟩] [(1, 0)])
 (.seq (.region [⟨.mv (.t 0), none⟩, ⟨.len (.l 0), none⟩, ⟨.makeSlice 2 16 [.int .i64 (0), .int .i64 (0)] (.l 1) (.l 1), none⟩, ⟨.mv (.l 2), none⟩] [(2, 3)])
 (.seq (.seq (.region [⟨.mv (.c (.int .i64 (0))), none⟩] [(3, 0)])
 (.block 0 (.loop w_l_toLoadS_1)))
 (.seq (.region [⟨.mv (.t 2), none⟩, ⟨.mv (.l 0), none⟩] [(1, 1)])
 .ret))))
def a_l_toLoadS : AFun := ⟨[0, 2, 3, 4, 11], 23, c_l_toLoadS, [.tmp 1], 2⟩
def w_l_toIntS_1 : ACode :=
 (.seq (.seq (.region [⟨.mv (.t 3), none⟩, ⟨.mv (.t 0), none⟩, ⟨.len (.l 1), none⟩, ⟨.bin 0 .lss (.l 0) (.l 2), none⟩] [(4, 3)])
 (.cond (.t 4) .skip (.exit 0)))
 (.seq (.block 1 (.region [⟨.mv (.t 2), none⟩, ⟨.mv (.t 3), none⟩, ⟨.mv (.t 0), none⟩, ⟨.mv (.t 3), none⟩, ⟨.indexAddrS 1 (.l 2) (.l 3), none⟩, ⟨.load false 1 (.l 4), none⟩, ⟨.indexAddrS 1 (.l 0) (.l 1), none⟩, ⟨.store 1 (.l 6) (.l 5), none⟩] []))
 (.region [⟨.mv (.t 3), none⟩, ⟨.bin 0 .add (.l 0) (.c (.int .i64 (1))), none⟩, ⟨.mv (.l 1), none⟩] [(3, 2)])))
def c_l_toIntS : ACode :=
 (.seq (.region [⟨.mv (.c (.slice none 0 0 none)), none⟩] [(1, 0)])
 (.seq (.region [⟨.mv (.t 0), none⟩, ⟨.len (.l 0), none⟩, ⟨.makeSlice 1 8 [.int .i64 (0)] (.l 1) (.l 1), none⟩, ⟨.mv (.l 2), none⟩] [(2, 3)])
 (.seq (.seq (.region [⟨.mv (.c (.int .i64 (0))), none⟩] [(3, 0)])
 (.block 0 (.loop w_l_toIntS_1)))
 (.seq (.region [⟨.mv (.t 2), none⟩, ⟨.mv (.l 0), none⟩] [(1, 1)])
 .ret))))
def a_l_toIntS : AFun := ⟨[0, 2, 3, 4, 11], 22, c_l_toIntS, [.tmp 1], 2⟩
def c_i_FirstTip : ACode :=
 (.seq (.region [⟨.box (.t 0), none⟩, ⟨.mv (.c (.int .i64 (0))), none⟩, ⟨.mv (.c (.bool false)), none⟩] [(3, 0), (4, 1), (5, 2)])
 (.seq (.seq (.region [⟨.load true 3 (.t 3), none⟩, ⟨.mv (.t 1), none⟩, ⟨.call (.c (.fn f_i_areCargo [] [])) [(.l 0), (.l 1)], none⟩, ⟨.un .not (.l 2), none⟩, ⟨.mv (.l 3), none⟩, ⟨.mv (.t 1), some ((.l 4), false)⟩, ⟨.mv (.t 2), some ((.l 4), false)⟩, ⟨.call (.c (.fn f_i_isOrder [] [])) [(.l 5), (.l 6)], some ((.l 4), false)⟩, ⟨.un .not (.l 7), some ((.l 4), false)⟩, ⟨.pick (.l 4) (.c (.bool true)) (.l 8), none⟩] [(7, 9)])
 (.cond (.t 7) (.seq (.region [⟨.mv (.c (.int .i64 (0))), none⟩, ⟨.mv (.c (.bool false)), none⟩] [(4, 0), (5, 1)])
 .ret) .skip))
 (.seq (.region [⟨.load true 3 (.t 3), none⟩, ⟨.mv (.t 1), none⟩, ⟨.mv (.t 2), none⟩, ⟨.call (.c (.fn f_i_Raft_firstTip [] [])) [(.l 0), (.l 1), (.l 2)], none⟩, ⟨.mv (.l 3), none⟩] [(6, 4)])
 (.seq (.region [⟨.mv (.t 6), none⟩, ⟨.mv (.t 6), none⟩, ⟨.bin 0 .gtr (.l 1) (.c (.int .i64 (0))), none⟩, ⟨.mv (.l 0), none⟩, ⟨.mv (.l 2), none⟩] [(4, 3), (5, 4)])
 .ret))))
def a_i_FirstTip : AFun := ⟨[0, 1, 2, 3, 6, 7, 8, 18], 26, c_i_FirstTip, [.tmp 4, .tmp 5], 1⟩
def w_l_eqLoadS_1 : ACode :=
 (.seq (.seq (.region [⟨.mv (.t 3), none⟩, ⟨.mv (.t 0), none⟩, ⟨.len (.l 1), none⟩, ⟨.bin 0 .lss (.l 0) (.l 2), none⟩] [(5, 3)])
 (.cond (.t 5) .skip (.exit 0)))
 (.seq (.block 1 (.seq (.draw [⟨.mv (.t 0), none, []⟩, ⟨.mv (.t 3), none, []⟩, ⟨.indexAddrS 2 (.l 0) (.l 1), none, []⟩, ⟨.load true 2 (.l 2), none, []⟩, ⟨.mv (.t 1), none, []⟩, ⟨.mv (.t 3), none, []⟩, ⟨.indexAddrS 2 (.l 4) (.l 5), none, []⟩, ⟨.load true 2 (.l 6), none, []⟩, ⟨.call (.c (.fn f_l_eqLoad [] [])) [(.l 3), (.l 7)], none, []⟩, ⟨.un .not (.l 8), none, []⟩] [(6, 9)])
 (.cond (.t 6) (.seq (.region [⟨.mv (.c (.bool false)), none⟩] [(2, 0)])
 .ret) .skip)))
 (.region [⟨.mv (.t 3), none⟩, ⟨.bin 0 .add (.l 0) (.c (.int .i64 (1))), none⟩, ⟨.mv (.l 1), none⟩] [(3, 2)])))
def c_l_eqLoadS : ACode :=
 (.seq (.region [⟨.mv (.c (.bool false)), none⟩] [(2, 0)])
 (.seq (.seq (.region [⟨.mv (.t 0), none⟩, ⟨.len (.l 0), none⟩, ⟨.mv (.t 1), none⟩, ⟨.len (.l 2), none⟩, ⟨.bin 0 .neq (.l 1) (.l 3), none⟩] [(4, 4)])
 (.cond (.t 4) (.seq (.region [⟨.mv (.c (.bool false)), none⟩] [(2, 0)])
 .ret) .skip))
 (.seq (.seq (.region [⟨.mv (.c (.int .i64 (0))), none⟩] [(3, 0)])
 (.block 0 (.loop w_l_eqLoadS_1)))
 (.seq (.region [⟨.mv (.c (.bool true)), none⟩] [(2, 0)])
 .ret))))
def a_l_eqLoadS : AFun := ⟨[0, 1, 4, 5, 10, 14, 26], 27, c_l_eqLoadS, [.tmp 2], 1⟩
def w_l_eqIntS_1 : ACode :=
 (.seq (.seq (.region [⟨.mv (.t 3), none⟩, ⟨.mv (.t 0), none⟩, ⟨.len (.l 1), none⟩, ⟨.bin 0 .lss (.l 0) (.l 2), none⟩] [(5, 3)])
 (.cond (.t 5) .skip (.exit 0)))
 (.seq (.block 1 (.seq (.draw [⟨.mv (.t 0), none, []⟩, ⟨.mv (.t 3), none, []⟩, ⟨.indexAddrS 1 (.l 0) (.l 1), none, []⟩, ⟨.load false 1 (.l 2), none, []⟩, ⟨.mv (.t 1), none, []⟩, ⟨.mv (.t 3), none, []⟩, ⟨.indexAddrS 1 (.l 4) (.l 5), none, []⟩, ⟨.load false 1 (.l 6), none, []⟩, ⟨.bin 0 .neq (.l 3) (.l 7), none, []⟩] [(6, 8)])
 (.cond (.t 6) (.seq (.region [⟨.mv (.c (.bool false)), none⟩] [(2, 0)])
 .ret) .skip)))
 (.region [⟨.mv (.t 3), none⟩, ⟨.bin 0 .add (.l 0) (.c (.int .i64 (1))), none⟩, ⟨.mv (.l 1), none⟩] [(3, 2)])))
def c_l_eqIntS : ACode :=
 (.seq (.region [⟨.mv (.c (.bool false)), none⟩] [(2, 0)])
 (.seq (.seq (.region [⟨.mv (.t 0), none⟩, ⟨.len (.l 0), none⟩, ⟨.mv (.t 1), none⟩, ⟨.len (.l 2), none⟩, ⟨.bin 0 .neq (.l 1) (.l 3), none⟩] [(4, 4)])
 (.cond (.t 4) (.seq (.region [⟨.mv (.c (.bool false)), none⟩] [(2, 0)])
 .ret) .skip))
 (.seq (.seq (.region [⟨.mv (.c (.int .i64 (0))), none⟩] [(3, 0)])
 (.block 0 (.loop w_l_eqIntS_1)))
 (.seq (.region [⟨.mv (.c (.bool true)), none⟩] [(2, 0)])
 .ret))))
def a_l_eqIntS : AFun := ⟨[0, 1, 4, 5, 10, 14, 25], 26, c_l_eqIntS, [.tmp 2], 1⟩
def w_s_HardestItem_1 : ACode :=
 (.seq (.seq (.region [⟨.mv (.t 7), none⟩, ⟨.mv (.t 1), none⟩, ⟨.len (.l 1), none⟩, ⟨.bin 0 .lss (.l 0) (.l 2), none⟩] [(11, 3)])
 (.cond (.t 11) .skip (.exit 0)))
 (.seq (.block 1 (.seq (.draw [⟨.mv (.t 1), none, []⟩, ⟨.mv (.t 7), none, []⟩, ⟨.sliceSl 2 (.l 0) none (some (.l 1)) none, none, []⟩, ⟨.mv (.t 1), none, []⟩, ⟨.mv (.t 7), none, []⟩, ⟨.bin 0 .add (.l 4) (.c (.int .i64 (1))), none, []⟩, ⟨.sliceSl 2 (.l 3) (some (.l 5)) none none, none, []⟩, ⟨.buildSlice 2 0 [] [], none, []⟩, ⟨.append false 2 16 (.l 7) (.l 2), none, []⟩, ⟨.append false 2 16 (.l 8) (.l 6), none, []⟩, ⟨.mv (.l 9), none, []⟩] [(8, 10)])
 (.seq (.region [⟨.load true 3 (.t 2), none⟩, ⟨.mv (.t 8), none⟩, ⟨.call (.c (.fn f_s_l10Ways [] [])) [(.l 0), (.l 1)], none⟩, ⟨.indexAddrS 1 (.l 2) (.c (.int .i64 (0))), none⟩, ⟨.load false 1 (.l 3), none⟩, ⟨.mv (.l 4), none⟩] [(9, 5)])
 (.seq (.region [⟨.mv (.t 9), none⟩, ⟨.mv (.t 6), none⟩, ⟨.bin 0 .gtr (.l 0) (.l 1), none⟩] [(12, 2)])
 (.cond (.t 12) (.seq (.region [⟨.mv (.t 7), none⟩, ⟨.mv (.l 0), none⟩] [(5, 1)])
 (.region [⟨.mv (.t 9), none⟩, ⟨.mv (.l 0), none⟩] [(6, 1)])) .skip)))))
 (.region [⟨.mv (.t 7), none⟩, ⟨.bin 0 .add (.l 0) (.c (.int .i64 (1))), none⟩, ⟨.mv (.l 1), none⟩] [(7, 2)])))
def c_s_HardestItem : ACode :=
 (.seq (.region [⟨.box (.t 0), none⟩, ⟨.mv (.c (.int .i64 (0))), none⟩, ⟨.mv (.c (.bool false)), none⟩] [(2, 0), (3, 1), (4, 2)])
 (.seq (.seq (.region [⟨.load true 3 (.t 2), none⟩, ⟨.mv (.t 1), none⟩, ⟨.call (.c (.fn f_s_l10Cargo [] [])) [(.l 0), (.l 1)], none⟩, ⟨.un .not (.l 2), none⟩, ⟨.mv (.l 3), none⟩, ⟨.mv (.t 1), some ((.l 4), false)⟩, ⟨.len (.l 5), some ((.l 4), false)⟩, ⟨.bin 0 .eql (.l 6) (.c (.int .i64 (0))), some ((.l 4), false)⟩, ⟨.pick (.l 4) (.c (.bool true)) (.l 7), none⟩] [(10, 8)])
 (.cond (.t 10) (.seq (.region [⟨.mv (.c (.int .i64 (0))), none⟩, ⟨.mv (.c (.bool false)), none⟩] [(3, 0), (4, 1)])
 .ret) .skip))
 (.seq (.region [⟨.mv (.c (.int .i64 (0))), none⟩, ⟨.mv (.c (.int .i64 (-1))), none⟩] [(5, 0), (6, 1)])
 (.seq (.seq (.region [⟨.mv (.c (.int .i64 (0))), none⟩] [(7, 0)])
 (.block 0 (.loop w_s_HardestItem_1)))
 (.seq (.region [⟨.mv (.t 5), none⟩, ⟨.mv (.l 0), none⟩, ⟨.mv (.c (.bool true)), none⟩] [(3, 1), (4, 2)])
 .ret)))))
def a_s_HardestItem : AFun := ⟨[0, 1, 2, 4, 5, 6, 7, 8, 9, 10, 19, 23, 43], 47, c_s_HardestItem, [.tmp 3, .tmp 4], 1⟩
def w_i_HardestItem_1 : ACode :=
 (.seq (.region [⟨.bin 0 .lss (.t 11) (.t 10), none⟩] [(12, 0)])
 (.seq (.cond (.t 12) .skip (.exit 0))
 (.seq (.block 1 (.seq (.region [⟨.mv (.t 11), none⟩, ⟨.mv (.l 0), none⟩] [(7, 1)])
 (.seq (.draw [⟨.load true 3 (.t 2), none, []⟩, ⟨.mv (.t 1), none, []⟩, ⟨.mv (.t 7), none, []⟩, ⟨.mv (.t 7), none, []⟩, ⟨.bin 0 .add (.l 3) (.c (.int .i64 (1))), none, []⟩, ⟨.call (.c (.fn f_slices_Clone_Si_Load_i_Load [] [])) [(.l 1)], none, [(0, ⟨.load true 3 (.t 2), none⟩)]⟩, ⟨.call (.c (.fn f_slices_Delete_Si_Load_i_Load [] [])) [(.l 5), (.l 2), (.l 4)], none, [(0, ⟨.load true 3 (.t 2), none⟩)]⟩, ⟨.call (.c (.fn f_i_Raft_waysOf [] [])) [(.l 0), (.l 6)], none, []⟩, ⟨.indexAddrS 1 (.l 7) (.c (.int .i64 (0))), none, []⟩, ⟨.load false 1 (.l 8), none, []⟩, ⟨.mv (.l 9), none, []⟩] [(8, 10)])
 (.seq (.region [⟨.mv (.t 8), none⟩, ⟨.mv (.t 6), none⟩, ⟨.bin 0 .gtr (.l 0) (.l 1), none⟩] [(13, 2)])
 (.cond (.t 13) (.region [⟨.mv (.t 7), none⟩, ⟨.mv (.t 8), none⟩, ⟨.mv (.l 0), none⟩, ⟨.mv (.l 1), none⟩] [(5, 2), (6, 3)]) .skip)))))
 (.region [⟨.bin 0 .add (.t 11) (.c (.int .i64 (1))), none⟩, ⟨.mv (.l 0), none⟩] [(11, 1)]))))
def c_i_HardestItem : ACode :=
 (.seq (.region [⟨.box (.t 0), none⟩, ⟨.mv (.c (.int .i64 (0))), none⟩, ⟨.mv (.c (.bool false)), none⟩] [(2, 0), (3, 1), (4, 2)])
 (.seq (.seq (.region [⟨.load true 3 (.t 2), none⟩, ⟨.mv (.t 1), none⟩, ⟨.call (.c (.fn f_i_areCargo [] [])) [(.l 0), (.l 1)], none⟩, ⟨.un .not (.l 2), none⟩, ⟨.mv (.l 3), none⟩, ⟨.mv (.t 1), some ((.l 4), false)⟩, ⟨.len (.l 5), some ((.l 4), false)⟩, ⟨.bin 0 .eql (.l 6) (.c (.int .i64 (0))), some ((.l 4), false)⟩, ⟨.pick (.l 4) (.c (.bool true)) (.l 7), none⟩] [(9, 8)])
 (.cond (.t 9) (.seq (.region [⟨.mv (.c (.int .i64 (0))), none⟩, ⟨.mv (.c (.bool false)), none⟩] [(3, 0), (4, 1)])
 .ret) .skip))
 (.seq (.region [⟨.mv (.c (.int .i64 (0))), none⟩, ⟨.mv (.c (.int .i64 (-1))), none⟩] [(5, 0), (6, 1)])
 (.seq (.seq (.region [⟨.mv (.t 1), none⟩, ⟨.len (.l 0), none⟩, ⟨.mv (.c (.int .i64 (0))), none⟩] [(10, 1), (11, 2)])
 (.block 0 (.loop w_i_HardestItem_1)))
 (.seq (.region [⟨.mv (.t 5), none⟩, ⟨.mv (.l 0), none⟩, ⟨.mv (.c (.bool true)), none⟩] [(3, 1), (4, 2)])
 .ret)))))
def a_i_HardestItem : AFun := ⟨[0, 1, 2, 4, 5, 6, 7, 8, 9, 18, 20, 21, 22, 36], 41, c_i_HardestItem, [.tmp 3, .tmp 4], 1⟩
def w_s_UnloadOrder_1 : ACode :=
 (.seq (.seq (.region [⟨.mv (.t 7), none⟩, ⟨.mv (.t 8), none⟩, ⟨.bin 0 .shr (.l 0) (.l 1), none⟩, ⟨.bin 0 .and (.l 2) (.c (.int .i64 (1))), none⟩, ⟨.bin 0 .eql (.l 3) (.c (.int .i64 (0))), none⟩, ⟨.mv (.l 4), none⟩, ⟨.mv (.t 6), some ((.l 5), false)⟩, ⟨.mv (.t 7), some ((.l 5), false)⟩, ⟨.mv (.t 8), some ((.l 5), false)⟩, ⟨.bin 0 .shl (.c (.int .i64 (1))) (.l 8), some ((.l 5), false)⟩, ⟨.bin 0 .sub (.l 7) (.l 9), some ((.l 5), false)⟩, ⟨.indexAddrS 1 (.l 6) (.l 10), some ((.l 5), false)⟩, ⟨.load false 1 (.l 11), some ((.l 5), false)⟩, ⟨.un .not (.l 12), some ((.l 5), false)⟩, ⟨.pick (.l 5) (.c (.bool true)) (.l 13), none⟩] [(12, 14)])
 (.cond (.t 12) .skip (.exit 2)))
 (.block 3 (.region [⟨.mv (.t 8), none⟩, ⟨.bin 0 .add (.l 0) (.c (.int .i64 (1))), none⟩, ⟨.mv (.l 1), none⟩] [(8, 2)])))
def w_s_UnloadOrder_2 : ACode :=
 (.seq (.seq (.region [⟨.mv (.t 7), none⟩, ⟨.bin 0 .gtr (.l 0) (.c (.int .i64 (0))), none⟩] [(11, 1)])
 (.cond (.t 11) .skip (.exit 0)))
 (.block 1 (.seq (.region [⟨.mv (.c (.int .i64 (0))), none⟩] [(8, 0)])
 (.seq (.block 2 (.loop w_s_UnloadOrder_1))
 (.seq (.region [⟨.mv (.t 5), none⟩, ⟨.mv (.t 8), none⟩, ⟨.buildSlice 1 1 [.int .i64 (0)] [(0, 1, (.l 1))], none⟩, ⟨.append false 1 8 (.l 0) (.l 2), none⟩, ⟨.mv (.l 3), none⟩] [(5, 4)])
 (.region [⟨.mv (.t 7), none⟩, ⟨.mv (.t 8), none⟩, ⟨.bin 0 .shl (.c (.int .i64 (1))) (.l 1), none⟩, ⟨.bin 0 .sub (.l 0) (.l 2), none⟩, ⟨.mv (.l 3), none⟩] [(7, 4)]))))))
def c_s_UnloadOrder : ACode :=
 (.seq (.region [⟨.box (.t 0), none⟩, ⟨.mv (.c (.slice none 0 0 none)), none⟩, ⟨.mv (.c (.bool false)), none⟩] [(2, 0), (3, 1), (4, 2)])
 (.seq (.region [⟨.buildSlice 1 0 [] [], none⟩, ⟨.mv (.l 0), none⟩] [(5, 1)])
 (.seq (.seq (.region [⟨.load true 3 (.t 2), none⟩, ⟨.mv (.t 1), none⟩, ⟨.call (.c (.fn f_s_l10Cargo [] [])) [(.l 0), (.l 1)], none⟩, ⟨.un .not (.l 2), none⟩] [(9, 3)])
 (.cond (.t 9) (.seq (.region [⟨.mv (.t 5), none⟩, ⟨.mv (.l 0), none⟩, ⟨.mv (.c (.bool false)), none⟩] [(3, 1), (4, 2)])
 .ret) .skip))
 (.seq (.draw [⟨.load true 3 (.t 2), none, []⟩, ⟨.mv (.t 1), none, []⟩, ⟨.mv (.t 1), none, []⟩, ⟨.len (.l 2), none, []⟩, ⟨.bin 0 .shl (.c (.int .i64 (1))) (.l 3), none, []⟩, ⟨.bin 0 .sub (.l 4) (.c (.int .i64 (1))), none, []⟩, ⟨.call (.c (.fn f_s_l10Back [] [])) [(.l 0), (.l 1)], none, []⟩, ⟨.mv (.l 6), none, []⟩, ⟨.mv (.l 5), none, []⟩] [(6, 7), (7, 8)])
 (.seq (.seq (.region [⟨.mv (.t 6), none⟩, ⟨.mv (.t 7), none⟩, ⟨.indexAddrS 1 (.l 0) (.l 1), none⟩, ⟨.load false 1 (.l 2), none⟩, ⟨.un .not (.l 3), none⟩] [(10, 4)])
 (.cond (.t 10) (.seq (.region [⟨.mv (.t 5), none⟩, ⟨.mv (.l 0), none⟩, ⟨.mv (.c (.bool false)), none⟩] [(3, 1), (4, 2)])
 .ret) .skip))
 (.seq (.block 0 (.loop w_s_UnloadOrder_2))
 (.seq (.region [⟨.mv (.t 5), none⟩, ⟨.mv (.l 0), none⟩, ⟨.mv (.c (.bool true)), none⟩] [(3, 1), (4, 2)])
 .ret)))))))
def a_s_UnloadOrder : AFun := ⟨[0, 1, 2, 4, 5, 6, 7, 8, 9, 14, 27, 30, 45], 57, c_s_UnloadOrder, [.tmp 3, .tmp 4], 2⟩
def w_i_UnloadOrder_1 : ACode :=
 (.seq (.region [⟨.bin 0 .lss (.t 18) (.t 17), none⟩] [(19, 0)])
 (.seq (.cond (.t 19) .skip (.exit 2))
 (.seq (.block 3 (.seq (.region [⟨.mv (.t 18), none⟩, ⟨.mv (.l 0), none⟩] [(8, 1)])
 (.seq (.region [⟨.mv (.t 7), none⟩, ⟨.mv (.t 8), none⟩, ⟨.bin 0 .shr (.l 0) (.l 1), none⟩, ⟨.bin 0 .and (.l 2) (.c (.int .i64 (1))), none⟩, ⟨.bin 0 .eql (.l 3) (.c (.int .i64 (1))), none⟩, ⟨.mv (.l 4), none⟩, ⟨.mv (.t 6), some ((.l 5), true)⟩, ⟨.mv (.t 7), some ((.l 5), true)⟩, ⟨.mv (.t 8), some ((.l 5), true)⟩, ⟨.bin 0 .shl (.c (.int .i64 (1))) (.l 8), some ((.l 5), true)⟩, ⟨.bin 0 .andNot (.l 7) (.l 9), some ((.l 5), true)⟩, ⟨.indexAddrS 1 (.l 6) (.l 10), some ((.l 5), true)⟩, ⟨.load false 1 (.l 11), some ((.l 5), true)⟩, ⟨.pick (.l 5) (.l 12) (.c (.bool false)), none⟩] [(20, 13)])
 (.cond (.t 20) (.region [⟨.mv (.t 6), none⟩, ⟨.mv (.t 7), none⟩, ⟨.indexAddrS 1 (.l 0) (.l 1), none⟩, ⟨.store 1 (.l 2) (.c (.bool true)), none⟩] []) .skip))))
 (.region [⟨.bin 0 .add (.t 18) (.c (.int .i64 (1))), none⟩, ⟨.mv (.l 0), none⟩] [(18, 1)]))))
def w_i_UnloadOrder_2 : ACode :=
 (.seq (.region [⟨.bin 0 .lss (.t 14) (.t 13), none⟩] [(15, 0)])
 (.seq (.cond (.t 15) .skip (.exit 0))
 (.seq (.block 1 (.seq (.region [⟨.mv (.t 14), none⟩, ⟨.mv (.l 0), none⟩] [(7, 1)])
 (.seq (.seq (.region [⟨.load true 3 (.t 2), none⟩, ⟨.mv (.t 1), none⟩, ⟨.mv (.t 7), none⟩, ⟨.call (.c (.fn f_i_Raft_isSafe [] [])) [(.l 0), (.l 1), (.l 2)], none⟩, ⟨.un .not (.l 3), none⟩] [(16, 4)])
 (.cond (.t 16) (.exit 1) .skip))
 (.seq (.region [⟨.mv (.t 6), none⟩, ⟨.mv (.t 7), none⟩, ⟨.mv (.t 7), none⟩, ⟨.bin 0 .eql (.l 2) (.c (.int .i64 (0))), none⟩, ⟨.indexAddrS 1 (.l 0) (.l 1), none⟩, ⟨.store 1 (.l 4) (.l 3), none⟩] [])
 (.seq (.region [⟨.mv (.t 1), none⟩, ⟨.len (.l 0), none⟩, ⟨.mv (.c (.int .i64 (0))), none⟩] [(17, 1), (18, 2)])
 (.block 2 (.loop w_i_UnloadOrder_1)))))))
 (.region [⟨.bin 0 .add (.t 14) (.c (.int .i64 (1))), none⟩, ⟨.mv (.l 0), none⟩] [(14, 1)]))))
def w_i_UnloadOrder_3 : ACode :=
 (.seq (.region [⟨.bin 0 .lss (.t 24) (.t 23), none⟩] [(25, 0)])
 (.seq (.cond (.t 25) .skip (.exit 6))
 (.seq (.block 7 (.seq (.region [⟨.mv (.t 24), none⟩, ⟨.mv (.l 0), none⟩] [(11, 1)])
 (.seq (.region [⟨.mv (.t 10), none⟩, ⟨.mv (.t 11), none⟩, ⟨.bin 0 .shr (.l 0) (.l 1), none⟩, ⟨.bin 0 .and (.l 2) (.c (.int .i64 (1))), none⟩, ⟨.bin 0 .eql (.l 3) (.c (.int .i64 (1))), none⟩, ⟨.mv (.l 4), none⟩, ⟨.mv (.t 6), some ((.l 5), true)⟩, ⟨.mv (.t 10), some ((.l 5), true)⟩, ⟨.mv (.t 11), some ((.l 5), true)⟩, ⟨.bin 0 .shl (.c (.int .i64 (1))) (.l 8), some ((.l 5), true)⟩, ⟨.bin 0 .andNot (.l 7) (.l 9), some ((.l 5), true)⟩, ⟨.indexAddrS 1 (.l 6) (.l 10), some ((.l 5), true)⟩, ⟨.load false 1 (.l 11), some ((.l 5), true)⟩, ⟨.pick (.l 5) (.l 12) (.c (.bool false)), none⟩] [(26, 13)])
 (.cond (.t 26) (.seq (.region [⟨.mv (.t 9), none⟩, ⟨.mv (.t 11), none⟩, ⟨.buildSlice 1 1 [.int .i64 (0)] [(0, 1, (.l 1))], none⟩, ⟨.append false 1 8 (.l 0) (.l 2), none⟩, ⟨.mv (.l 3), none⟩] [(9, 4)])
 (.seq (.region [⟨.mv (.t 10), none⟩, ⟨.mv (.t 11), none⟩, ⟨.bin 0 .shl (.c (.int .i64 (1))) (.l 1), none⟩, ⟨.bin 0 .andNot (.l 0) (.l 2), none⟩, ⟨.mv (.l 3), none⟩] [(10, 4)])
 (.exit 6))) .skip))))
 (.region [⟨.bin 0 .add (.t 24) (.c (.int .i64 (1))), none⟩, ⟨.mv (.l 0), none⟩] [(24, 1)]))))
def w_i_UnloadOrder_4 : ACode :=
 (.seq (.seq (.region [⟨.mv (.t 10), none⟩, ⟨.bin 0 .gtr (.l 0) (.c (.int .i64 (0))), none⟩] [(22, 1)])
 (.cond (.t 22) .skip (.exit 4)))
 (.block 5 (.seq (.region [⟨.mv (.t 1), none⟩, ⟨.len (.l 0), none⟩, ⟨.mv (.c (.int .i64 (0))), none⟩] [(23, 1), (24, 2)])
 (.block 6 (.loop w_i_UnloadOrder_3)))))
def c_i_UnloadOrder : ACode :=
 (.seq (.region [⟨.box (.t 0), none⟩, ⟨.mv (.c (.slice none 0 0 none)), none⟩, ⟨.mv (.c (.bool false)), none⟩] [(2, 0), (3, 1), (4, 2)])
 (.seq (.seq (.region [⟨.load true 3 (.t 2), none⟩, ⟨.mv (.t 1), none⟩, ⟨.call (.c (.fn f_i_areCargo [] [])) [(.l 0), (.l 1)], none⟩, ⟨.un .not (.l 2), none⟩] [(12, 3)])
 (.cond (.t 12) (.seq (.region [⟨.mv (.c (.slice none 0 0 none)), none⟩, ⟨.mv (.c (.bool false)), none⟩] [(3, 0), (4, 1)])
 .ret) .skip))
 (.seq (.region [⟨.mv (.t 1), none⟩, ⟨.len (.l 0), none⟩, ⟨.bin 0 .shl (.c (.int .i64 (1))) (.l 1), none⟩, ⟨.bin 0 .sub (.l 2) (.c (.int .i64 (1))), none⟩, ⟨.mv (.l 3), none⟩] [(5, 4)])
 (.seq (.region [⟨.mv (.t 5), none⟩, ⟨.bin 0 .add (.l 0) (.c (.int .i64 (1))), none⟩, ⟨.makeSlice 1 1 [.bool false] (.l 1) (.l 1), none⟩, ⟨.mv (.l 2), none⟩] [(6, 3)])
 (.seq (.seq (.region [⟨.mv (.t 5), none⟩, ⟨.bin 0 .add (.l 0) (.c (.int .i64 (1))), none⟩, ⟨.mv (.c (.int .i64 (0))), none⟩] [(13, 1), (14, 2)])
 (.block 0 (.loop w_i_UnloadOrder_2)))
 (.seq (.seq (.region [⟨.mv (.t 6), none⟩, ⟨.mv (.t 5), none⟩, ⟨.indexAddrS 1 (.l 0) (.l 1), none⟩, ⟨.load false 1 (.l 2), none⟩, ⟨.un .not (.l 3), none⟩] [(21, 4)])
 (.cond (.t 21) (.seq (.region [⟨.mv (.c (.slice none 0 0 none)), none⟩, ⟨.mv (.c (.bool false)), none⟩] [(3, 0), (4, 1)])
 .ret) .skip))
 (.seq (.region [⟨.buildSlice 1 0 [] [], none⟩, ⟨.mv (.l 0), none⟩] [(9, 1)])
 (.seq (.seq (.region [⟨.mv (.t 5), none⟩, ⟨.mv (.l 0), none⟩] [(10, 1)])
 (.block 4 (.loop w_i_UnloadOrder_4)))
 (.seq (.region [⟨.mv (.t 9), none⟩, ⟨.mv (.l 0), none⟩, ⟨.mv (.c (.bool true)), none⟩] [(3, 1), (4, 2)])
 .ret)))))))))
def a_i_UnloadOrder : AFun := ⟨[0, 1, 2, 4, 5, 6, 7, 8, 9, 10, 11, 12, 16, 25, 26, 27, 33, 40, 41, 42, 57, 67, 71, 73, 74, 75, 90], 101, c_i_UnloadOrder, [.tmp 3, .tmp 4], 2⟩
def w_l_markLoadS_1 : ACode :=
 (.seq (.seq (.region [⟨.mv (.t 3), none⟩, ⟨.mv (.t 0), none⟩, ⟨.len (.l 1), none⟩, ⟨.bin 0 .lss (.l 0) (.l 2), none⟩] [(4, 3)])
 (.cond (.t 4) .skip (.exit 0)))
 (.seq (.block 1 (.seq (.region [⟨.mv (.t 0), none⟩, ⟨.mv (.t 3), none⟩, ⟨.mv (.t 1), none⟩, ⟨.indexAddrS 2 (.l 0) (.l 1), none⟩, ⟨.fieldAddr 0 (.l 3), none⟩, ⟨.store 1 (.l 4) (.l 2), none⟩] [])
 (.seq (.region [⟨.mv (.t 1), none⟩, ⟨.bin 0 .add (.l 0) (.c (.int .i64 (1))), none⟩, ⟨.mv (.l 1), none⟩] [(1, 2)])
 (.seq (.region [⟨.mv (.t 0), none⟩, ⟨.mv (.t 3), none⟩, ⟨.mv (.t 1), none⟩, ⟨.indexAddrS 2 (.l 0) (.l 1), none⟩, ⟨.fieldAddr 1 (.l 3), none⟩, ⟨.store 1 (.l 4) (.l 2), none⟩] [])
 (.region [⟨.mv (.t 1), none⟩, ⟨.bin 0 .add (.l 0) (.c (.int .i64 (1))), none⟩, ⟨.mv (.l 1), none⟩] [(1, 2)])))))
 (.region [⟨.mv (.t 3), none⟩, ⟨.bin 0 .add (.l 0) (.c (.int .i64 (1))), none⟩, ⟨.mv (.l 1), none⟩] [(3, 2)])))
def c_l_markLoadS : ACode :=
 (.seq (.region [⟨.mv (.c (.int .i64 (0))), none⟩] [(2, 0)])
 (.seq (.seq (.region [⟨.mv (.c (.int .i64 (0))), none⟩] [(3, 0)])
 (.block 0 (.loop w_l_markLoadS_1)))
 (.seq (.region [⟨.mv (.t 1), none⟩, ⟨.mv (.l 0), none⟩] [(2, 1)])
 .ret)))
def a_l_markLoadS : AFun := ⟨[0, 1, 4, 5, 9], 27, c_l_markLoadS, [.tmp 2], 1⟩
def w_l_markIntS_1 : ACode :=
 (.seq (.seq (.region [⟨.mv (.t 3), none⟩, ⟨.mv (.t 0), none⟩, ⟨.len (.l 1), none⟩, ⟨.bin 0 .lss (.l 0) (.l 2), none⟩] [(4, 3)])
 (.cond (.t 4) .skip (.exit 0)))
 (.seq (.block 1 (.seq (.region [⟨.mv (.t 0), none⟩, ⟨.mv (.t 3), none⟩, ⟨.mv (.t 1), none⟩, ⟨.indexAddrS 1 (.l 0) (.l 1), none⟩, ⟨.store 1 (.l 3) (.l 2), none⟩] [])
 (.region [⟨.mv (.t 1), none⟩, ⟨.bin 0 .add (.l 0) (.c (.int .i64 (1))), none⟩, ⟨.mv (.l 1), none⟩] [(1, 2)])))
 (.region [⟨.mv (.t 3), none⟩, ⟨.bin 0 .add (.l 0) (.c (.int .i64 (1))), none⟩, ⟨.mv (.l 1), none⟩] [(3, 2)])))
def c_l_markIntS : ACode :=
 (.seq (.region [⟨.mv (.c (.int .i64 (0))), none⟩] [(2, 0)])
 (.seq (.seq (.region [⟨.mv (.c (.int .i64 (0))), none⟩] [(3, 0)])
 (.block 0 (.loop w_l_markIntS_1)))
 (.seq (.region [⟨.mv (.t 1), none⟩, ⟨.mv (.l 0), none⟩] [(2, 1)])
 .ret)))
def a_l_markIntS : AFun := ⟨[0, 1, 4, 5, 9], 19, c_l_markIntS, [.tmp 2], 1⟩
def w_l_heldIntS_1 : ACode :=
 (.seq (.seq (.region [⟨.mv (.t 3), none⟩, ⟨.mv (.t 0), none⟩, ⟨.len (.l 1), none⟩, ⟨.bin 0 .lss (.l 0) (.l 2), none⟩] [(4, 3)])
 (.cond (.t 4) .skip (.exit 0)))
 (.seq (.block 1 (.seq (.seq (.region [⟨.mv (.t 0), none⟩, ⟨.mv (.t 3), none⟩, ⟨.indexAddrS 1 (.l 0) (.l 1), none⟩, ⟨.load false 1 (.l 2), none⟩, ⟨.mv (.t 1), none⟩, ⟨.bin 0 .neq (.l 3) (.l 4), none⟩] [(5, 5)])
 (.cond (.t 5) (.seq (.region [⟨.mv (.c (.int .i64 (-1))), none⟩] [(2, 0)])
 .ret) .skip))
 (.region [⟨.mv (.t 1), none⟩, ⟨.bin 0 .add (.l 0) (.c (.int .i64 (1))), none⟩, ⟨.mv (.l 1), none⟩] [(1, 2)])))
 (.region [⟨.mv (.t 3), none⟩, ⟨.bin 0 .add (.l 0) (.c (.int .i64 (1))), none⟩, ⟨.mv (.l 1), none⟩] [(3, 2)])))
def c_l_heldIntS : ACode :=
 (.seq (.region [⟨.mv (.c (.int .i64 (0))), none⟩] [(2, 0)])
 (.seq (.seq (.region [⟨.mv (.c (.int .i64 (0))), none⟩] [(3, 0)])
 (.block 0 (.loop w_l_heldIntS_1)))
 (.seq (.region [⟨.mv (.t 1), none⟩, ⟨.mv (.l 0), none⟩] [(2, 1)])
 .ret)))
def a_l_heldIntS : AFun := ⟨[0, 1, 4, 5, 9, 17], 21, c_l_heldIntS, [.tmp 2], 1⟩
def w_s_SafeOrder_1 : ACode :=
 (.seq (.seq (.region [⟨.mv (.t 7), none⟩, ⟨.mv (.t 8), none⟩, ⟨.bin 0 .shr (.l 0) (.l 1), none⟩, ⟨.bin 0 .and (.l 2) (.c (.int .i64 (1))), none⟩, ⟨.bin 0 .eql (.l 3) (.c (.int .i64 (1))), none⟩, ⟨.mv (.l 4), none⟩, ⟨.mv (.t 6), some ((.l 5), false)⟩, ⟨.mv (.t 7), some ((.l 5), false)⟩, ⟨.mv (.t 8), some ((.l 5), false)⟩, ⟨.bin 0 .shl (.c (.int .i64 (1))) (.l 8), some ((.l 5), false)⟩, ⟨.bin 0 .add (.l 7) (.l 9), some ((.l 5), false)⟩, ⟨.indexAddrS 1 (.l 6) (.l 10), some ((.l 5), false)⟩, ⟨.load false 1 (.l 11), some ((.l 5), false)⟩, ⟨.bin 0 .eql (.l 12) (.c (.int .i64 (0))), some ((.l 5), false)⟩, ⟨.pick (.l 5) (.c (.bool true)) (.l 13), none⟩] [(12, 14)])
 (.cond (.t 12) .skip (.exit 2)))
 (.block 3 (.region [⟨.mv (.t 8), none⟩, ⟨.bin 0 .add (.l 0) (.c (.int .i64 (1))), none⟩, ⟨.mv (.l 1), none⟩] [(8, 2)])))
def w_s_SafeOrder_2 : ACode :=
 (.seq (.seq (.region [⟨.mv (.t 5), none⟩, ⟨.len (.l 0), none⟩, ⟨.mv (.t 1), none⟩, ⟨.len (.l 2), none⟩, ⟨.bin 0 .lss (.l 1) (.l 3), none⟩] [(11, 4)])
 (.cond (.t 11) .skip (.exit 0)))
 (.block 1 (.seq (.region [⟨.mv (.c (.int .i64 (0))), none⟩] [(8, 0)])
 (.seq (.block 2 (.loop w_s_SafeOrder_1))
 (.seq (.region [⟨.mv (.t 5), none⟩, ⟨.mv (.t 8), none⟩, ⟨.buildSlice 1 1 [.int .i64 (0)] [(0, 1, (.l 1))], none⟩, ⟨.append false 1 8 (.l 0) (.l 2), none⟩, ⟨.mv (.l 3), none⟩] [(5, 4)])
 (.region [⟨.mv (.t 7), none⟩, ⟨.mv (.t 8), none⟩, ⟨.bin 0 .shl (.c (.int .i64 (1))) (.l 1), none⟩, ⟨.bin 0 .add (.l 0) (.l 2), none⟩, ⟨.mv (.l 3), none⟩] [(7, 4)]))))))
def c_s_SafeOrder : ACode :=
 (.seq (.region [⟨.box (.t 0), none⟩, ⟨.mv (.c (.slice none 0 0 none)), none⟩, ⟨.mv (.c (.bool false)), none⟩] [(2, 0), (3, 1), (4, 2)])
 (.seq (.region [⟨.buildSlice 1 0 [] [], none⟩, ⟨.mv (.l 0), none⟩] [(5, 1)])
 (.seq (.seq (.region [⟨.load true 3 (.t 2), none⟩, ⟨.mv (.t 1), none⟩, ⟨.call (.c (.fn f_s_l10Cargo [] [])) [(.l 0), (.l 1)], none⟩, ⟨.un .not (.l 2), none⟩] [(9, 3)])
 (.cond (.t 9) (.seq (.region [⟨.mv (.t 5), none⟩, ⟨.mv (.l 0), none⟩, ⟨.mv (.c (.bool false)), none⟩] [(3, 1), (4, 2)])
 .ret) .skip))
 (.seq (.region [⟨.load true 3 (.t 2), none⟩, ⟨.mv (.t 1), none⟩, ⟨.call (.c (.fn f_s_l10Ways [] [])) [(.l 0), (.l 1)], none⟩, ⟨.mv (.l 2), none⟩, ⟨.mv (.c (.int .i64 (0))), none⟩] [(6, 3), (7, 4)])
 (.seq (.seq (.region [⟨.mv (.t 6), none⟩, ⟨.indexAddrS 1 (.l 0) (.c (.int .i64 (0))), none⟩, ⟨.load false 1 (.l 1), none⟩, ⟨.bin 0 .eql (.l 2) (.c (.int .i64 (0))), none⟩] [(10, 3)])
 (.cond (.t 10) (.seq (.region [⟨.mv (.t 5), none⟩, ⟨.mv (.l 0), none⟩, ⟨.mv (.c (.bool false)), none⟩] [(3, 1), (4, 2)])
 .ret) .skip))
 (.seq (.block 0 (.loop w_s_SafeOrder_2))
 (.seq (.region [⟨.mv (.t 5), none⟩, ⟨.mv (.l 0), none⟩, ⟨.mv (.c (.bool true)), none⟩] [(3, 1), (4, 2)])
 .ret)))))))
def a_s_SafeOrder : AFun := ⟨[0, 1, 2, 4, 5, 6, 7, 8, 9, 14, 22, 28, 43], 55, c_s_SafeOrder, [.tmp 3, .tmp 4], 2⟩
def w_i_SafeOrder_1 : ACode :=
 (.seq (.seq (.region [⟨.mv (.t 6), none⟩, ⟨.len (.l 0), none⟩, ⟨.mv (.t 1), none⟩, ⟨.len (.l 2), none⟩, ⟨.bin 0 .lss (.l 1) (.l 3), none⟩] [(11, 4)])
 (.cond (.t 11) .skip (.exit 0)))
 (.block 1 (.seq (.region [⟨.mv (.t 1), none⟩, ⟨.mv (.t 5), none⟩, ⟨.mv (.t 7), none⟩, ⟨.call (.c (.fn f_i_stepsFrom [] [])) [(.l 0), (.l 1), (.l 2)], none⟩, ⟨.indexAddrS 1 (.l 3) (.c (.int .i64 (0))), none⟩, ⟨.load false 1 (.l 4), none⟩, ⟨.mv (.l 5), none⟩] [(8, 6)])
 (.seq (.region [⟨.mv (.t 6), none⟩, ⟨.mv (.t 8), none⟩, ⟨.buildSlice 1 1 [.int .i64 (0)] [(0, 1, (.l 1))], none⟩, ⟨.append false 1 8 (.l 0) (.l 2), none⟩, ⟨.mv (.l 3), none⟩] [(6, 4)])
 (.region [⟨.mv (.t 7), none⟩, ⟨.mv (.t 8), none⟩, ⟨.bin 0 .shl (.c (.int .i64 (1))) (.l 1), none⟩, ⟨.bin 0 .or (.l 0) (.l 2), none⟩, ⟨.mv (.l 3), none⟩] [(7, 4)])))))
def c_i_SafeOrder : ACode :=
 (.seq (.region [⟨.box (.t 0), none⟩, ⟨.mv (.c (.slice none 0 0 none)), none⟩, ⟨.mv (.c (.bool false)), none⟩] [(2, 0), (3, 1), (4, 2)])
 (.seq (.seq (.region [⟨.load true 3 (.t 2), none⟩, ⟨.mv (.t 1), none⟩, ⟨.call (.c (.fn f_i_areCargo [] [])) [(.l 0), (.l 1)], none⟩, ⟨.un .not (.l 2), none⟩] [(9, 3)])
 (.cond (.t 9) (.seq (.region [⟨.mv (.c (.slice none 0 0 none)), none⟩, ⟨.mv (.c (.bool false)), none⟩] [(3, 0), (4, 1)])
 .ret) .skip))
 (.seq (.region [⟨.load true 3 (.t 2), none⟩, ⟨.mv (.t 1), none⟩, ⟨.call (.c (.fn f_i_Raft_waysOf [] [])) [(.l 0), (.l 1)], none⟩, ⟨.buildSlice 1 0 [] [], none⟩, ⟨.mv (.l 2), none⟩, ⟨.mv (.l 3), none⟩, ⟨.mv (.c (.int .i64 (0))), none⟩] [(5, 4), (6, 5), (7, 6)])
 (.seq (.seq (.region [⟨.mv (.t 5), none⟩, ⟨.indexAddrS 1 (.l 0) (.c (.int .i64 (0))), none⟩, ⟨.load false 1 (.l 1), none⟩, ⟨.bin 0 .eql (.l 2) (.c (.int .i64 (0))), none⟩] [(10, 3)])
 (.cond (.t 10) (.seq (.region [⟨.mv (.c (.slice none 0 0 none)), none⟩, ⟨.mv (.c (.bool false)), none⟩] [(3, 0), (4, 1)])
 .ret) .skip))
 (.seq (.block 0 (.loop w_i_SafeOrder_1))
 (.seq (.region [⟨.mv (.t 6), none⟩, ⟨.mv (.l 0), none⟩, ⟨.mv (.c (.bool true)), none⟩] [(3, 1), (4, 2)])
 .ret))))))
def a_i_SafeOrder : AFun := ⟨[0, 1, 2, 4, 5, 6, 7, 8, 9, 13, 21, 26], 42, c_i_SafeOrder, [.tmp 3, .tmp 4], 2⟩
def w_s_SafeStep_1 : ACode :=
 (.seq (.seq (.region [⟨.mv (.t 10), none⟩, ⟨.mv (.t 1), none⟩, ⟨.len (.l 1), none⟩, ⟨.bin 0 .lss (.l 0) (.l 2), none⟩] [(12, 3)])
 (.cond (.t 12) .skip (.exit 0)))
 (.seq (.block 1 (.seq (.region [⟨.mv (.t 7), none⟩, ⟨.mv (.t 10), none⟩, ⟨.bin 0 .shr (.l 0) (.l 1), none⟩, ⟨.bin 0 .and (.l 2) (.c (.int .i64 (1))), none⟩, ⟨.bin 0 .eql (.l 3) (.c (.int .i64 (0))), none⟩, ⟨.mv (.l 4), none⟩, ⟨.mv (.t 9), some ((.l 5), true)⟩, ⟨.mv (.t 7), some ((.l 5), true)⟩, ⟨.mv (.t 10), some ((.l 5), true)⟩, ⟨.bin 0 .shl (.c (.int .i64 (1))) (.l 8), some ((.l 5), true)⟩, ⟨.bin 0 .add (.l 7) (.l 9), some ((.l 5), true)⟩, ⟨.indexAddrS 1 (.l 6) (.l 10), some ((.l 5), true)⟩, ⟨.load false 1 (.l 11), some ((.l 5), true)⟩, ⟨.bin 0 .gtr (.l 12) (.c (.int .i64 (0))), some ((.l 5), true)⟩, ⟨.pick (.l 5) (.l 13) (.c (.bool false)), none⟩] [(13, 14)])
 (.cond (.t 13) (.region [⟨.mv (.t 6), none⟩, ⟨.mv (.t 10), none⟩, ⟨.buildSlice 1 1 [.int .i64 (0)] [(0, 1, (.l 1))], none⟩, ⟨.append false 1 8 (.l 0) (.l 2), none⟩, ⟨.mv (.l 3), none⟩] [(6, 4)]) .skip)))
 (.region [⟨.mv (.t 10), none⟩, ⟨.bin 0 .add (.l 0) (.c (.int .i64 (1))), none⟩, ⟨.mv (.l 1), none⟩] [(10, 2)])))
def c_s_SafeStep : ACode :=
 (.seq (.region [⟨.box (.t 0), none⟩, ⟨.mv (.c (.slice none 0 0 none)), none⟩, ⟨.mv (.c (.bool false)), none⟩] [(3, 0), (4, 1), (5, 2)])
 (.seq (.region [⟨.buildSlice 1 0 [] [], none⟩, ⟨.mv (.l 0), none⟩] [(6, 1)])
 (.seq (.region [⟨.load true 3 (.t 3), none⟩, ⟨.mv (.t 1), none⟩, ⟨.mv (.t 2), none⟩, ⟨.call (.c (.fn f_s_l10Code [] [])) [(.l 0), (.l 1), (.l 2)], none⟩, ⟨.mv (.l 3), none⟩, ⟨.extract 0 (.l 4), none⟩, ⟨.extract 1 (.l 4), none⟩, ⟨.mv (.l 5), none⟩, ⟨.mv (.l 6), none⟩] [(7, 7), (8, 8)])
 (.seq (.seq (.region [⟨.mv (.t 8), none⟩, ⟨.un .not (.l 0), none⟩, ⟨.mv (.l 1), none⟩, ⟨.load true 3 (.t 3), some ((.l 2), false)⟩, ⟨.mv (.t 1), some ((.l 2), false)⟩, ⟨.mv (.t 7), some ((.l 2), false)⟩, ⟨.call (.c (.fn f_s_l10Safe [] [])) [(.l 3), (.l 4), (.l 5)], some ((.l 2), false)⟩, ⟨.un .not (.l 6), some ((.l 2), false)⟩, ⟨.pick (.l 2) (.c (.bool true)) (.l 7), none⟩] [(11, 8)])
 (.cond (.t 11) (.seq (.region [⟨.mv (.t 6), none⟩, ⟨.mv (.l 0), none⟩, ⟨.mv (.c (.bool false)), none⟩] [(4, 1), (5, 2)])
 .ret) .skip))
 (.seq (.region [⟨.load true 3 (.t 3), none⟩, ⟨.mv (.t 1), none⟩, ⟨.call (.c (.fn f_s_l10Ways [] [])) [(.l 0), (.l 1)], none⟩, ⟨.mv (.l 2), none⟩] [(9, 3)])
 (.seq (.seq (.region [⟨.mv (.c (.int .i64 (0))), none⟩] [(10, 0)])
 (.block 0 (.loop w_s_SafeStep_1)))
 (.seq (.region [⟨.mv (.t 6), none⟩, ⟨.mv (.l 0), none⟩, ⟨.mv (.c (.bool true)), none⟩] [(4, 1), (5, 2)])
 .ret)))))))
def a_s_SafeStep : AFun := ⟨[0, 1, 2, 3, 6, 7, 8, 9, 10, 11, 12, 29, 37, 54], 60, c_s_SafeStep, [.tmp 4, .tmp 5], 2⟩
def c_i_SafeStep : ACode :=
 (.seq (.region [⟨.box (.t 0), none⟩, ⟨.mv (.c (.slice none 0 0 none)), none⟩, ⟨.mv (.c (.bool false)), none⟩] [(3, 0), (4, 1), (5, 2)])
 (.seq (.region [⟨.mv (.t 1), none⟩, ⟨.mv (.t 2), none⟩, ⟨.call (.c (.fn f_i_bitsOf [] [])) [(.l 0), (.l 1)], none⟩, ⟨.mv (.l 2), none⟩, ⟨.extract 0 (.l 3), none⟩, ⟨.extract 1 (.l 3), none⟩, ⟨.mv (.l 4), none⟩, ⟨.mv (.l 5), none⟩] [(6, 6), (7, 7)])
 (.seq (.seq (.region [⟨.mv (.t 7), none⟩, ⟨.un .not (.l 0), none⟩, ⟨.mv (.l 1), none⟩, ⟨.load true 3 (.t 3), some ((.l 2), false)⟩, ⟨.mv (.t 1), some ((.l 2), false)⟩, ⟨.call (.c (.fn f_i_areCargo [] [])) [(.l 3), (.l 4)], some ((.l 2), false)⟩, ⟨.un .not (.l 5), some ((.l 2), false)⟩, ⟨.pick (.l 2) (.c (.bool true)) (.l 6), none⟩, ⟨.mv (.l 7), none⟩, ⟨.load true 3 (.t 3), some ((.l 8), false)⟩, ⟨.mv (.t 1), some ((.l 8), false)⟩, ⟨.mv (.t 6), some ((.l 8), false)⟩, ⟨.call (.c (.fn f_i_Raft_isSafe [] [])) [(.l 9), (.l 10), (.l 11)], some ((.l 8), false)⟩, ⟨.un .not (.l 12), some ((.l 8), false)⟩, ⟨.pick (.l 8) (.c (.bool true)) (.l 13), none⟩] [(8, 14)])
 (.cond (.t 8) (.seq (.region [⟨.mv (.c (.slice none 0 0 none)), none⟩, ⟨.mv (.c (.bool false)), none⟩] [(4, 0), (5, 1)])
 .ret) .skip))
 (.seq (.region [⟨.mv (.t 1), none⟩, ⟨.load true 3 (.t 3), none⟩, ⟨.mv (.t 1), none⟩, ⟨.call (.c (.fn f_i_Raft_waysOf [] [])) [(.l 1), (.l 2)], none⟩, ⟨.mv (.t 6), none⟩, ⟨.call (.c (.fn f_i_stepsFrom [] [])) [(.l 0), (.l 3), (.l 4)], none⟩, ⟨.mv (.l 5), none⟩, ⟨.mv (.c (.bool true)), none⟩] [(4, 6), (5, 7)])
 .ret))))
def a_i_SafeStep : AFun := ⟨[0, 1, 2, 3, 6, 7, 8, 9, 30], 37, c_i_SafeStep, [.tmp 4, .tmp 5], 2⟩
def c_l_rBig : ACode :=
 (.seq (.region [⟨.mv (.c (.bool false)), none⟩] [(1, 0)])
 (.seq (.region [⟨.mv (.t 0), none⟩, ⟨.len (.l 0), none⟩, ⟨.bin 0 .gtr (.l 1) (.c (.int .i64 (65536))), none⟩, ⟨.mv (.l 2), none⟩] [(1, 3)])
 .ret))
def a_l_rBig : AFun := ⟨[0, 2], 6, c_l_rBig, [.tmp 1], 1⟩
def c_s_DrawRaftSide : ACode :=
 (.seq (.region [⟨.alloc [.int .i64 (0), .int .i64 (0), .int .i64 (0)], none⟩, ⟨.mv (.c (.slice none 0 0 none)), none⟩, ⟨.mv (.c (.slice none 0 0 none)), none⟩] [(1, 0), (2, 1), (3, 2)])
 (.seq (.region [⟨.mv (.t 0), none⟩, ⟨.build [.slice none 0 0 none, .int .i64 (0), .int .u64 (0)] [(0, 1, (.l 0))], none⟩, ⟨.box (.l 1), none⟩, ⟨.mv (.l 2), none⟩] [(4, 3)])
 (.seq (.region [⟨.mv (.t 4), none⟩, ⟨.call (.c (.fn f_s_l1Cur_raft [] [])) [(.l 0)], none⟩, ⟨.mv (.t 4), none⟩, ⟨.call (.c (.fn f_s_l1Cur_cargo [] [])) [(.l 2)], none⟩, ⟨.alloc [.int .i64 (0), .int .i64 (0), .int .i64 (0)], none⟩, ⟨.store 3 (.l 4) (.l 1), none⟩, ⟨.mv (.l 3), none⟩] [(5, 4), (6, 6)])
 (.seq (.draw [⟨.load true 3 (.t 5), none, []⟩, ⟨.mv (.t 6), none, []⟩, ⟨.mv (.t 4), none, []⟩, ⟨.mv (.t 6), none, []⟩, ⟨.call (.c (.fn f_s_l1Cur_setOf [] [])) [(.l 2), (.l 3)], none, [(0, ⟨.load true 3 (.t 5), none⟩)]⟩, ⟨.store 3 (.t 1) (.l 0), none, []⟩, ⟨.mv (.l 1), none, []⟩, ⟨.mv (.l 4), none, []⟩] [(2, 6), (3, 7)])
 .ret))))
def a_s_DrawRaftSide : AFun := ⟨[0, 2, 3, 4, 5, 6, 7], 20, c_s_DrawRaftSide, [.cell 1 true 3, .tmp 2, .tmp 3], 2⟩
def c_i_RaftSide : ACode :=
 (.seq (.region [⟨.box (.t 0), none⟩, ⟨.mv (.c (.int .i64 (0))), none⟩, ⟨.mv (.c (.bool false)), none⟩] [(3, 0), (4, 1), (5, 2)])
 (.seq (.region [⟨.load true 3 (.t 3), none⟩, ⟨.mv (.t 1), none⟩, ⟨.mv (.t 2), none⟩, ⟨.call (.c (.fn f_i_RaftReserve [] [])) [(.l 0), (.l 1), (.l 2)], none⟩, ⟨.mv (.l 3), none⟩, ⟨.extract 0 (.l 4), none⟩, ⟨.extract 1 (.l 4), none⟩, ⟨.extract 2 (.l 4), none⟩, ⟨.mv (.l 5), none⟩, ⟨.mv (.l 6), none⟩, ⟨.mv (.l 7), none⟩] [(6, 8), (7, 9), (8, 10)])
 (.seq (.block 0 (.seq (.region [⟨.mv (.t 6), none⟩, ⟨.bin 0 .lss (.l 0) (.c (.int .i64 (0))), none⟩, ⟨.mv (.l 1), none⟩] [(9, 2)])
 (.cond (.t 9) (.seq (.region [⟨.mv (.t 8), none⟩, ⟨.mv (.c (.int .i64 (-1))), none⟩, ⟨.mv (.l 0), none⟩] [(4, 1), (5, 2)])
 .ret) (.seq (.region [⟨.mv (.t 7), none⟩, ⟨.bin 0 .lss (.l 0) (.c (.int .i64 (0))), none⟩, ⟨.mv (.l 1), none⟩] [(10, 2)])
 (.cond (.t 10) (.seq (.region [⟨.mv (.t 8), none⟩, ⟨.mv (.c (.int .i64 (1))), none⟩, ⟨.mv (.l 0), none⟩] [(4, 1), (5, 2)])
 .ret) .skip)))))
 (.seq (.region [⟨.mv (.t 8), none⟩, ⟨.mv (.c (.int .i64 (0))), none⟩, ⟨.mv (.l 0), none⟩] [(4, 1), (5, 2)])
 .ret))))
def a_i_RaftSide : AFun := ⟨[0, 1, 2, 3, 6, 7, 8, 9, 10, 19, 23], 28, c_i_RaftSide, [.tmp 4, .tmp 5], 1⟩
def c_s_RaftSide : ACode :=
 (.seq (.region [⟨.box (.t 0), none⟩, ⟨.mv (.c (.int .i64 (0))), none⟩, ⟨.mv (.c (.bool false)), none⟩] [(3, 0), (4, 1), (5, 2)])
 (.seq (.region [⟨.load true 3 (.t 3), none⟩, ⟨.mv (.t 1), none⟩, ⟨.mv (.t 2), none⟩, ⟨.call (.c (.fn f_s_l10Code [] [])) [(.l 0), (.l 1), (.l 2)], none⟩, ⟨.mv (.l 3), none⟩, ⟨.extract 0 (.l 4), none⟩, ⟨.extract 1 (.l 4), none⟩, ⟨.mv (.l 5), none⟩, ⟨.mv (.l 6), none⟩] [(6, 7), (7, 8)])
 (.seq (.seq (.region [⟨.mv (.t 7), none⟩, ⟨.un .not (.l 0), none⟩] [(10, 1)])
 (.cond (.t 10) (.seq (.region [⟨.mv (.c (.int .i64 (0))), none⟩, ⟨.mv (.c (.bool false)), none⟩] [(4, 0), (5, 1)])
 .ret) .skip))
 (.seq (.region [⟨.load true 3 (.t 3), none⟩, ⟨.mv (.t 1), none⟩, ⟨.mv (.t 6), none⟩, ⟨.call (.c (.fn f_s_l10Reserve [] [])) [(.l 0), (.l 1), (.l 2)], none⟩, ⟨.mv (.l 3), none⟩, ⟨.extract 0 (.l 4), none⟩, ⟨.extract 1 (.l 4), none⟩, ⟨.mv (.l 5), none⟩, ⟨.mv (.l 6), none⟩] [(8, 7), (9, 8)])
 (.seq (.seq (.region [⟨.mv (.t 8), none⟩, ⟨.bin 0 .lss (.l 0) (.c (.int .i64 (0))), none⟩] [(11, 1)])
 (.cond (.t 11) (.seq (.region [⟨.mv (.c (.int .i64 (-1))), none⟩, ⟨.mv (.c (.bool true)), none⟩] [(4, 0), (5, 1)])
 .ret) .skip))
 (.seq (.seq (.region [⟨.mv (.t 9), none⟩, ⟨.bin 0 .lss (.l 0) (.c (.int .i64 (0))), none⟩] [(12, 1)])
 (.cond (.t 12) (.seq (.region [⟨.mv (.c (.int .i64 (1))), none⟩, ⟨.mv (.c (.bool true)), none⟩] [(4, 0), (5, 1)])
 .ret) .skip))
 (.seq (.region [⟨.mv (.c (.int .i64 (0))), none⟩, ⟨.mv (.c (.bool true)), none⟩] [(4, 0), (5, 1)])
 .ret)))))))
def a_s_RaftSide : AFun := ⟨[0, 1, 2, 3, 6, 7, 8, 9, 10, 11, 20, 29, 31], 32, c_s_RaftSide, [.tmp 4, .tmp 5], 1⟩
def c_i_RaftReserve : ACode :=
 (.seq (.region [⟨.box (.t 0), none⟩, ⟨.mv (.c (.int .i64 (0))), none⟩, ⟨.mv (.c (.int .i64 (0))), none⟩, ⟨.mv (.c (.bool false)), none⟩] [(3, 0), (4, 1), (5, 2), (6, 3)])
 (.seq (.region [⟨.mv (.t 1), none⟩, ⟨.mv (.t 2), none⟩, ⟨.call (.c (.fn f_i_bitsOf [] [])) [(.l 0), (.l 1)], none⟩, ⟨.mv (.l 2), none⟩, ⟨.extract 0 (.l 3), none⟩, ⟨.extract 1 (.l 3), none⟩, ⟨.mv (.l 4), none⟩, ⟨.mv (.l 5), none⟩] [(7, 6), (8, 7)])
 (.seq (.seq (.region [⟨.mv (.t 8), none⟩, ⟨.un .not (.l 0), none⟩, ⟨.mv (.l 1), none⟩, ⟨.load true 3 (.t 3), some ((.l 2), false)⟩, ⟨.mv (.t 1), some ((.l 2), false)⟩, ⟨.call (.c (.fn f_i_areCargo [] [])) [(.l 3), (.l 4)], some ((.l 2), false)⟩, ⟨.un .not (.l 5), some ((.l 2), false)⟩, ⟨.pick (.l 2) (.c (.bool true)) (.l 6), none⟩] [(11, 7)])
 (.cond (.t 11) (.seq (.region [⟨.mv (.c (.int .i64 (0))), none⟩, ⟨.mv (.c (.int .i64 (0))), none⟩, ⟨.mv (.c (.bool false)), none⟩] [(4, 0), (5, 1), (6, 2)])
 .ret) .skip))
 (.seq (.region [⟨.load true 3 (.t 3), none⟩, ⟨.mv (.t 1), none⟩, ⟨.mv (.t 7), none⟩, ⟨.call (.c (.fn f_i_Raft_reserve [] [])) [(.l 0), (.l 1), (.l 2)], none⟩, ⟨.mv (.l 3), none⟩, ⟨.extract 0 (.l 4), none⟩, ⟨.extract 1 (.l 4), none⟩, ⟨.mv (.l 5), none⟩, ⟨.mv (.l 6), none⟩] [(9, 7), (10, 8)])
 (.seq (.region [⟨.mv (.t 9), none⟩, ⟨.mv (.t 10), none⟩, ⟨.mv (.l 0), none⟩, ⟨.mv (.l 1), none⟩, ⟨.mv (.c (.bool true)), none⟩] [(4, 2), (5, 3), (6, 4)])
 .ret)))))
def a_i_RaftReserve : AFun := ⟨[0, 1, 2, 3, 6, 7, 8, 9, 10, 11, 12, 26], 36, c_i_RaftReserve, [.tmp 4, .tmp 5, .tmp 6], 1⟩
def c_s_RaftReserve : ACode :=
 (.seq (.region [⟨.box (.t 0), none⟩, ⟨.mv (.c (.int .i64 (0))), none⟩, ⟨.mv (.c (.int .i64 (0))), none⟩, ⟨.mv (.c (.bool false)), none⟩] [(3, 0), (4, 1), (5, 2), (6, 3)])
 (.seq (.region [⟨.load true 3 (.t 3), none⟩, ⟨.mv (.t 1), none⟩, ⟨.mv (.t 2), none⟩, ⟨.call (.c (.fn f_s_l10Code [] [])) [(.l 0), (.l 1), (.l 2)], none⟩, ⟨.mv (.l 3), none⟩, ⟨.extract 0 (.l 4), none⟩, ⟨.extract 1 (.l 4), none⟩, ⟨.mv (.l 5), none⟩, ⟨.mv (.l 6), none⟩] [(7, 7), (8, 8)])
 (.seq (.seq (.region [⟨.mv (.t 8), none⟩, ⟨.un .not (.l 0), none⟩] [(11, 1)])
 (.cond (.t 11) (.seq (.region [⟨.mv (.c (.int .i64 (0))), none⟩, ⟨.mv (.c (.int .i64 (0))), none⟩, ⟨.mv (.c (.bool false)), none⟩] [(4, 0), (5, 1), (6, 2)])
 .ret) .skip))
 (.seq (.region [⟨.load true 3 (.t 3), none⟩, ⟨.mv (.t 1), none⟩, ⟨.mv (.t 7), none⟩, ⟨.call (.c (.fn f_s_l10Reserve [] [])) [(.l 0), (.l 1), (.l 2)], none⟩, ⟨.mv (.l 3), none⟩, ⟨.extract 0 (.l 4), none⟩, ⟨.extract 1 (.l 4), none⟩, ⟨.mv (.l 5), none⟩, ⟨.mv (.l 6), none⟩] [(9, 7), (10, 8)])
 (.seq (.region [⟨.mv (.t 9), none⟩, ⟨.mv (.t 10), none⟩, ⟨.mv (.l 0), none⟩, ⟨.mv (.l 1), none⟩, ⟨.mv (.c (.bool true)), none⟩] [(4, 2), (5, 3), (6, 4)])
 .ret)))))
def a_s_RaftReserve : AFun := ⟨[0, 1, 2, 3, 6, 7, 8, 9, 10, 11, 12, 21], 31, c_s_RaftReserve, [.tmp 4, .tmp 5, .tmp 6], 1⟩
def w_i_SafeSets_1 : ACode :=
 (.seq (.region [⟨.bin 0 .lss (.t 9) (.t 8), none⟩] [(10, 0)])
 (.seq (.cond (.t 10) .skip (.exit 0))
 (.seq (.block 1 (.seq (.region [⟨.mv (.t 9), none⟩, ⟨.mv (.l 0), none⟩] [(6, 1)])
 (.seq (.region [⟨.load true 3 (.t 2), none⟩, ⟨.mv (.t 1), none⟩, ⟨.mv (.t 6), none⟩, ⟨.call (.c (.fn f_i_Raft_isSafe [] [])) [(.l 0), (.l 1), (.l 2)], none⟩] [(11, 3)])
 (.cond (.t 11) (.region [⟨.mv (.t 5), none⟩, ⟨.bin 0 .add (.l 0) (.c (.int .i64 (1))), none⟩, ⟨.mv (.l 1), none⟩] [(5, 2)]) .skip))))
 (.region [⟨.bin 0 .add (.t 9) (.c (.int .i64 (1))), none⟩, ⟨.mv (.l 0), none⟩] [(9, 1)]))))
def c_i_SafeSets : ACode :=
 (.seq (.region [⟨.box (.t 0), none⟩, ⟨.mv (.c (.int .i64 (0))), none⟩, ⟨.mv (.c (.bool false)), none⟩] [(2, 0), (3, 1), (4, 2)])
 (.seq (.seq (.region [⟨.load true 3 (.t 2), none⟩, ⟨.mv (.t 1), none⟩, ⟨.call (.c (.fn f_i_areCargo [] [])) [(.l 0), (.l 1)], none⟩, ⟨.un .not (.l 2), none⟩] [(7, 3)])
 (.cond (.t 7) (.seq (.region [⟨.mv (.c (.int .i64 (0))), none⟩, ⟨.mv (.c (.bool false)), none⟩] [(3, 0), (4, 1)])
 .ret) .skip))
 (.seq (.region [⟨.mv (.c (.int .i64 (0))), none⟩] [(5, 0)])
 (.seq (.seq (.region [⟨.mv (.t 1), none⟩, ⟨.len (.l 0), none⟩, ⟨.bin 0 .shl (.c (.int .i64 (1))) (.l 1), none⟩, ⟨.mv (.c (.int .i64 (0))), none⟩] [(8, 2), (9, 3)])
 (.block 0 (.loop w_i_SafeSets_1)))
 (.seq (.region [⟨.mv (.t 5), none⟩, ⟨.mv (.l 0), none⟩, ⟨.mv (.c (.bool true)), none⟩] [(3, 1), (4, 2)])
 .ret)))))
def a_i_SafeSets : AFun := ⟨[0, 1, 2, 4, 5, 6, 7, 11, 14, 15, 16, 21], 26, c_i_SafeSets, [.tmp 3, .tmp 4], 1⟩
def w_s_SafeSets_1 : ACode :=
 (.seq (.seq (.region [⟨.mv (.t 6), none⟩, ⟨.mv (.t 1), none⟩, ⟨.len (.l 1), none⟩, ⟨.bin 0 .shl (.c (.int .i64 (1))) (.l 2), none⟩, ⟨.bin 0 .lss (.l 0) (.l 3), none⟩] [(8, 4)])
 (.cond (.t 8) .skip (.exit 0)))
 (.seq (.block 1 (.seq (.region [⟨.load true 3 (.t 2), none⟩, ⟨.mv (.t 1), none⟩, ⟨.mv (.t 6), none⟩, ⟨.call (.c (.fn f_s_l10Safe [] [])) [(.l 0), (.l 1), (.l 2)], none⟩] [(9, 3)])
 (.cond (.t 9) (.region [⟨.mv (.t 5), none⟩, ⟨.bin 0 .add (.l 0) (.c (.int .i64 (1))), none⟩, ⟨.mv (.l 1), none⟩] [(5, 2)]) .skip)))
 (.region [⟨.mv (.t 6), none⟩, ⟨.bin 0 .add (.l 0) (.c (.int .i64 (1))), none⟩, ⟨.mv (.l 1), none⟩] [(6, 2)])))
def c_s_SafeSets : ACode :=
 (.seq (.region [⟨.box (.t 0), none⟩, ⟨.mv (.c (.int .i64 (0))), none⟩, ⟨.mv (.c (.bool false)), none⟩] [(2, 0), (3, 1), (4, 2)])
 (.seq (.seq (.region [⟨.load true 3 (.t 2), none⟩, ⟨.mv (.t 1), none⟩, ⟨.call (.c (.fn f_s_l10Cargo [] [])) [(.l 0), (.l 1)], none⟩, ⟨.un .not (.l 2), none⟩] [(7, 3)])
 (.cond (.t 7) (.seq (.region [⟨.mv (.c (.int .i64 (0))), none⟩, ⟨.mv (.c (.bool false)), none⟩] [(3, 0), (4, 1)])
 .ret) .skip))
 (.seq (.region [⟨.mv (.c (.int .i64 (0))), none⟩] [(5, 0)])
 (.seq (.seq (.region [⟨.mv (.c (.int .i64 (0))), none⟩] [(6, 0)])
 (.block 0 (.loop w_s_SafeSets_1)))
 (.seq (.region [⟨.mv (.t 5), none⟩, ⟨.mv (.l 0), none⟩, ⟨.mv (.c (.bool true)), none⟩] [(3, 1), (4, 2)])
 .ret)))))
def a_s_SafeSets : AFun := ⟨[0, 1, 2, 4, 5, 6, 7, 11, 16, 22], 26, c_s_SafeSets, [.tmp 3, .tmp 4], 1⟩
def c_s_DrawIsSafeOrder : ACode :=
 (.seq (.region [⟨.alloc [.int .i64 (0), .int .i64 (0), .int .i64 (0)], none⟩, ⟨.mv (.c (.slice none 0 0 none)), none⟩, ⟨.mv (.c (.slice none 0 0 none)), none⟩] [(1, 0), (2, 1), (3, 2)])
 (.seq (.region [⟨.mv (.t 0), none⟩, ⟨.build [.slice none 0 0 none, .int .i64 (0), .int .u64 (0)] [(0, 1, (.l 0))], none⟩, ⟨.box (.l 1), none⟩, ⟨.mv (.l 2), none⟩] [(4, 3)])
 (.seq (.region [⟨.mv (.t 4), none⟩, ⟨.call (.c (.fn f_s_l1Cur_raft [] [])) [(.l 0)], none⟩, ⟨.mv (.t 4), none⟩, ⟨.call (.c (.fn f_s_l1Cur_cargo [] [])) [(.l 2)], none⟩, ⟨.alloc [.int .i64 (0), .int .i64 (0), .int .i64 (0)], none⟩, ⟨.store 3 (.l 4) (.l 1), none⟩, ⟨.mv (.l 3), none⟩] [(5, 4), (6, 6)])
 (.seq (.seq (.region [⟨.load true 3 (.t 5), none⟩, ⟨.mv (.t 6), none⟩, ⟨.call (.c (.fn f_s_SafeOrder [] [])) [(.l 0), (.l 1)], none⟩, ⟨.mv (.l 2), none⟩, ⟨.extract 0 (.l 3), none⟩, ⟨.extract 1 (.l 3), none⟩, ⟨.mv (.l 4), none⟩, ⟨.mv (.l 5), none⟩] [(7, 6), (8, 7)])
 (.seq (.region [⟨.mv (.t 8), none⟩, ⟨.mv (.l 0), none⟩, ⟨.mv (.t 4), some ((.l 1), true)⟩, ⟨.call (.c (.fn f_s_l1Cur_one [] [])) [(.l 2), (.c (.int .i64 (2)))], some ((.l 1), true)⟩, ⟨.pick (.l 1) (.l 3) (.c (.bool false)), none⟩] [(9, 4)])
 (.cond (.t 9) (.seq (.region [⟨.load true 3 (.t 5), none⟩, ⟨.mv (.t 6), none⟩, ⟨.mv (.t 7), none⟩, ⟨.store 3 (.t 1) (.l 0), none⟩, ⟨.mv (.l 1), none⟩, ⟨.mv (.l 2), none⟩] [(2, 4), (3, 5)])
 .ret) .skip)))
 (.seq (.draw [⟨.load true 3 (.t 5), none, []⟩, ⟨.mv (.t 6), none, []⟩, ⟨.mv (.t 4), none, []⟩, ⟨.mv (.t 6), none, []⟩, ⟨.call (.c (.fn f_s_l1Cur_orderFor [] [])) [(.l 2), (.l 3)], none, [(0, ⟨.load true 3 (.t 5), none⟩)]⟩, ⟨.store 3 (.t 1) (.l 0), none, []⟩, ⟨.mv (.l 1), none, []⟩, ⟨.mv (.l 4), none, []⟩] [(2, 6), (3, 7)])
 .ret)))))
def a_s_DrawIsSafeOrder : AFun := ⟨[0, 2, 3, 4, 5, 6, 7, 8, 9, 27], 36, c_s_DrawIsSafeOrder, [.cell 1 true 3, .tmp 2, .tmp 3], 2⟩
def c_i_IsSafeOrder : ACode :=
 (.seq (.region [⟨.box (.t 0), none⟩, ⟨.mv (.c (.bool false)), none⟩, ⟨.mv (.c (.bool false)), none⟩] [(3, 0), (4, 1), (5, 2)])
 (.seq (.seq (.region [⟨.load true 3 (.t 3), none⟩, ⟨.mv (.t 1), none⟩, ⟨.call (.c (.fn f_i_areCargo [] [])) [(.l 0), (.l 1)], none⟩, ⟨.un .not (.l 2), none⟩, ⟨.mv (.l 3), none⟩, ⟨.mv (.t 1), some ((.l 4), false)⟩, ⟨.mv (.t 2), some ((.l 4), false)⟩, ⟨.call (.c (.fn f_i_isOrder [] [])) [(.l 5), (.l 6)], some ((.l 4), false)⟩, ⟨.un .not (.l 7), some ((.l 4), false)⟩, ⟨.pick (.l 4) (.c (.bool true)) (.l 8), none⟩] [(6, 9)])
 (.cond (.t 6) (.seq (.region [⟨.mv (.c (.bool false)), none⟩, ⟨.mv (.c (.bool false)), none⟩] [(4, 0), (5, 1)])
 .ret) .skip))
 (.seq (.region [⟨.load true 3 (.t 3), none⟩, ⟨.mv (.t 1), none⟩, ⟨.mv (.t 2), none⟩, ⟨.call (.c (.fn f_i_Raft_firstTip [] [])) [(.l 0), (.l 1), (.l 2)], none⟩, ⟨.bin 0 .eql (.l 3) (.c (.int .i64 (0))), none⟩, ⟨.mv (.l 4), none⟩, ⟨.mv (.c (.bool true)), none⟩] [(4, 5), (5, 6)])
 .ret)))
def a_i_IsSafeOrder : AFun := ⟨[0, 1, 2, 3, 6, 7, 17], 23, c_i_IsSafeOrder, [.tmp 4, .tmp 5], 1⟩
def c_s_IsSafeOrder : ACode :=
 (.seq (.region [⟨.box (.t 0), none⟩, ⟨.mv (.c (.bool false)), none⟩, ⟨.mv (.c (.bool false)), none⟩] [(3, 0), (4, 1), (5, 2)])
 (.seq (.seq (.region [⟨.load true 3 (.t 3), none⟩, ⟨.mv (.t 1), none⟩, ⟨.mv (.t 2), none⟩, ⟨.call (.c (.fn f_s_l10Order [] [])) [(.l 0), (.l 1), (.l 2)], none⟩, ⟨.un .not (.l 3), none⟩] [(6, 4)])
 (.cond (.t 6) (.seq (.region [⟨.mv (.c (.bool false)), none⟩, ⟨.mv (.c (.bool false)), none⟩] [(4, 0), (5, 1)])
 .ret) .skip))
 (.seq (.region [⟨.load true 3 (.t 3), none⟩, ⟨.mv (.t 1), none⟩, ⟨.mv (.t 2), none⟩, ⟨.call (.c (.fn f_s_l10Tip [] [])) [(.l 0), (.l 1), (.l 2)], none⟩, ⟨.bin 0 .lss (.l 3) (.c (.int .i64 (0))), none⟩, ⟨.mv (.l 4), none⟩, ⟨.mv (.c (.bool true)), none⟩] [(4, 5), (5, 6)])
 .ret)))
def a_s_IsSafeOrder : AFun := ⟨[0, 1, 2, 3, 6, 7, 12], 18, c_s_IsSafeOrder, [.tmp 4, .tmp 5], 1⟩
def c_s_DrawIsRaft : ACode :=
 (.seq (.region [⟨.alloc [.int .i64 (0), .int .i64 (0), .int .i64 (0)], none⟩] [(1, 0)])
 (.seq (.region [⟨.mv (.t 0), none⟩, ⟨.build [.slice none 0 0 none, .int .i64 (0), .int .u64 (0)] [(0, 1, (.l 0))], none⟩, ⟨.box (.l 1), none⟩, ⟨.mv (.l 2), none⟩] [(2, 3)])
 (.seq (.region [⟨.mv (.t 2), none⟩, ⟨.call (.c (.fn f_s_l1Cur_raft [] [])) [(.l 0)], none⟩, ⟨.store 3 (.t 1) (.l 1), none⟩] [])
 .ret)))
def a_s_DrawIsRaft : AFun := ⟨[0, 2, 3], 9, c_s_DrawIsRaft, [.cell 1 true 3], 1⟩
def c_i_IsRaft : ACode :=
 (.seq (.region [⟨.box (.t 0), none⟩, ⟨.mv (.c (.bool false)), none⟩] [(1, 0), (2, 1)])
 (.seq (.region [⟨.fieldAddr 0 (.t 1), none⟩, ⟨.load false 1 (.l 0), none⟩, ⟨.fieldAddr 1 (.t 1), none⟩, ⟨.load false 1 (.l 2), none⟩, ⟨.call (.c (.fn f_i_isBase [] [])) [(.l 1), (.l 3)], none⟩, ⟨.mv (.l 4), none⟩, ⟨.fieldAddr 2 (.t 1), some ((.l 5), true)⟩, ⟨.load false 1 (.l 6), some ((.l 5), true)⟩, ⟨.call (.c (.fn f_i_within [] [])) [(.l 7), (.c (.int .i64 (1))), (.c (.int .i64 (99)))], some ((.l 5), true)⟩, ⟨.pick (.l 5) (.l 8) (.c (.bool false)), none⟩, ⟨.mv (.l 9), none⟩] [(2, 10)])
 .ret))
def a_i_IsRaft : AFun := ⟨[0, 1, 2], 13, c_i_IsRaft, [.tmp 2], 1⟩
def c_s_IsRaft : ACode :=
 (.seq (.region [⟨.box (.t 0), none⟩, ⟨.mv (.c (.bool false)), none⟩] [(1, 0), (2, 1)])
 (.seq (.region [⟨.load true 3 (.t 1), none⟩, ⟨.call (.c (.fn f_s_l10Raft [] [])) [(.l 0)], none⟩, ⟨.mv (.l 1), none⟩] [(2, 2)])
 .ret))
def a_s_IsRaft : AFun := ⟨[0, 1, 2], 5, c_s_IsRaft, [.tmp 2], 1⟩
def w_l_rHas_1 : ACode :=
 (.seq (.seq (.region [⟨.mv (.t 3), none⟩, ⟨.mv (.t 0), none⟩, ⟨.len (.l 1), none⟩, ⟨.bin 0 .lss (.l 0) (.l 2), none⟩] [(4, 3)])
 (.cond (.t 4) .skip (.exit 0)))
 (.seq (.block 1 (.seq (.region [⟨.mv (.t 0), none⟩, ⟨.mv (.t 3), none⟩, ⟨.indexAddrS 1 (.l 0) (.l 1), none⟩, ⟨.load false 1 (.l 2), none⟩, ⟨.mv (.t 1), none⟩, ⟨.bin 0 .eql (.l 3) (.l 4), none⟩] [(5, 5)])
 (.cond (.t 5) (.seq (.region [⟨.mv (.c (.bool true)), none⟩] [(2, 0)])
 .ret) .skip)))
 (.region [⟨.mv (.t 3), none⟩, ⟨.bin 0 .add (.l 0) (.c (.int .i64 (1))), none⟩, ⟨.mv (.l 1), none⟩] [(3, 2)])))
def c_l_rHas : ACode :=
 (.seq (.region [⟨.mv (.c (.bool false)), none⟩] [(2, 0)])
 (.seq (.seq (.region [⟨.mv (.c (.int .i64 (0))), none⟩] [(3, 0)])
 (.block 0 (.loop w_l_rHas_1)))
 (.seq (.region [⟨.mv (.c (.bool false)), none⟩] [(2, 0)])
 .ret)))
def a_l_rHas : AFun := ⟨[0, 1, 4, 5, 9, 17], 18, c_l_rHas, [.tmp 2], 1⟩
def c_s_DrawSafeOrder : ACode :=
 (.seq (.region [⟨.alloc [.int .i64 (0), .int .i64 (0), .int .i64 (0)], none⟩, ⟨.mv (.c (.slice none 0 0 none)), none⟩] [(1, 0), (2, 1)])
 (.seq (.region [⟨.mv (.t 0), none⟩, ⟨.call (.c (.fn f_s_DrawSafeSets [] [])) [(.l 0)], none⟩, ⟨.extract 0 (.l 1), none⟩, ⟨.extract 1 (.l 1), none⟩, ⟨.store 3 (.t 1) (.l 2), none⟩, ⟨.mv (.l 3), none⟩] [(2, 5)])
 .ret))
def a_s_DrawSafeOrder : AFun := ⟨[0, 2, 3], 8, c_s_DrawSafeOrder, [.cell 1 true 3, .tmp 2], 2⟩
def w_l_rInts_1 : ACode :=
 (.seq (.seq (.region [⟨.mv (.t 3), none⟩, ⟨.mv (.t 0), none⟩, ⟨.len (.l 1), none⟩, ⟨.bin 0 .lss (.l 0) (.l 2), none⟩] [(5, 3)])
 (.cond (.t 5) .skip (.exit 0)))
 (.seq (.block 1 (.seq (.draw [⟨.mv (.t 0), none, []⟩, ⟨.mv (.t 3), none, []⟩, ⟨.indexAddrS 1 (.l 0) (.l 1), none, []⟩, ⟨.load false 1 (.l 2), none, []⟩, ⟨.mv (.t 1), none, []⟩, ⟨.mv (.t 3), none, []⟩, ⟨.indexAddrS 1 (.l 4) (.l 5), none, []⟩, ⟨.load false 1 (.l 6), none, []⟩, ⟨.bin 0 .neq (.l 3) (.l 7), none, []⟩] [(6, 8)])
 (.cond (.t 6) (.seq (.region [⟨.mv (.c (.bool false)), none⟩] [(2, 0)])
 .ret) .skip)))
 (.region [⟨.mv (.t 3), none⟩, ⟨.bin 0 .add (.l 0) (.c (.int .i64 (1))), none⟩, ⟨.mv (.l 1), none⟩] [(3, 2)])))
def c_l_rInts : ACode :=
 (.seq (.region [⟨.mv (.c (.bool false)), none⟩] [(2, 0)])
 (.seq (.seq (.region [⟨.mv (.t 0), none⟩, ⟨.len (.l 0), none⟩, ⟨.mv (.t 1), none⟩, ⟨.len (.l 2), none⟩, ⟨.bin 0 .neq (.l 1) (.l 3), none⟩] [(4, 4)])
 (.cond (.t 4) (.seq (.region [⟨.mv (.c (.bool false)), none⟩] [(2, 0)])
 .ret) .skip))
 (.seq (.seq (.region [⟨.mv (.c (.int .i64 (0))), none⟩] [(3, 0)])
 (.block 0 (.loop w_l_rInts_1)))
 (.seq (.region [⟨.mv (.c (.bool true)), none⟩] [(2, 0)])
 .ret))))
def a_l_rInts : AFun := ⟨[0, 1, 4, 5, 10, 14, 25], 26, c_l_rInts, [.tmp 2], 1⟩
def c_i_CountSafe : ACode :=
 (.seq (.region [⟨.box (.t 0), none⟩, ⟨.mv (.c (.int .i64 (0))), none⟩, ⟨.mv (.c (.bool false)), none⟩] [(2, 0), (3, 1), (4, 2)])
 (.seq (.seq (.region [⟨.load true 3 (.t 2), none⟩, ⟨.mv (.t 1), none⟩, ⟨.call (.c (.fn f_i_areCargo [] [])) [(.l 0), (.l 1)], none⟩, ⟨.un .not (.l 2), none⟩] [(5, 3)])
 (.cond (.t 5) (.seq (.region [⟨.mv (.c (.int .i64 (0))), none⟩, ⟨.mv (.c (.bool false)), none⟩] [(3, 0), (4, 1)])
 .ret) .skip))
 (.seq (.region [⟨.load true 3 (.t 2), none⟩, ⟨.mv (.t 1), none⟩, ⟨.call (.c (.fn f_i_Raft_waysOf [] [])) [(.l 0), (.l 1)], none⟩, ⟨.indexAddrS 1 (.l 2) (.c (.int .i64 (0))), none⟩, ⟨.load false 1 (.l 3), none⟩, ⟨.mv (.l 4), none⟩, ⟨.mv (.c (.bool true)), none⟩] [(3, 5), (4, 6)])
 .ret)))
def a_i_CountSafe : AFun := ⟨[0, 1, 2, 4, 5, 9], 15, c_i_CountSafe, [.tmp 3, .tmp 4], 1⟩
def c_s_CountSafe : ACode :=
 (.seq (.region [⟨.box (.t 0), none⟩, ⟨.mv (.c (.int .i64 (0))), none⟩, ⟨.mv (.c (.bool false)), none⟩] [(2, 0), (3, 1), (4, 2)])
 (.seq (.seq (.region [⟨.load true 3 (.t 2), none⟩, ⟨.mv (.t 1), none⟩, ⟨.call (.c (.fn f_s_l10Cargo [] [])) [(.l 0), (.l 1)], none⟩, ⟨.un .not (.l 2), none⟩] [(5, 3)])
 (.cond (.t 5) (.seq (.region [⟨.mv (.c (.int .i64 (0))), none⟩, ⟨.mv (.c (.bool false)), none⟩] [(3, 0), (4, 1)])
 .ret) .skip))
 (.seq (.region [⟨.load true 3 (.t 2), none⟩, ⟨.mv (.t 1), none⟩, ⟨.call (.c (.fn f_s_l10Ways [] [])) [(.l 0), (.l 1)], none⟩, ⟨.indexAddrS 1 (.l 2) (.c (.int .i64 (0))), none⟩, ⟨.load false 1 (.l 3), none⟩, ⟨.mv (.l 4), none⟩, ⟨.mv (.c (.bool true)), none⟩] [(3, 5), (4, 6)])
 .ret)))
def a_s_CountSafe : AFun := ⟨[0, 1, 2, 4, 5, 9], 15, c_s_CountSafe, [.tmp 3, .tmp 4], 1⟩
def w_i_LeastOwn_1 : ACode :=
 (.seq (.seq (.region [⟨.mv (.t 5), none⟩, ⟨.bin 0 .leq (.l 0) (.c (.int .i64 (99))), none⟩] [(7, 1)])
 (.cond (.t 7) .skip (.exit 0)))
 (.seq (.block 1 (.seq (.region [⟨.fieldAddr 0 (.t 2), none⟩, ⟨.load false 1 (.l 0), none⟩, ⟨.fieldAddr 1 (.t 2), none⟩, ⟨.load false 1 (.l 2), none⟩, ⟨.mv (.t 5), none⟩, ⟨.build [.int .i64 (0), .int .i64 (0), .int .i64 (0)] [(0, 1, (.l 1)), (1, 1, (.l 3)), (2, 1, (.l 4))], none⟩, ⟨.mv (.t 1), none⟩, ⟨.call (.c (.fn f_i_Raft_waysOf [] [])) [(.l 5), (.l 6)], none⟩, ⟨.indexAddrS 1 (.l 7) (.c (.int .i64 (0))), none⟩, ⟨.load false 1 (.l 8), none⟩, ⟨.bin 0 .gtr (.l 9) (.c (.int .i64 (0))), none⟩] [(8, 10)])
 (.cond (.t 8) (.seq (.region [⟨.mv (.t 5), none⟩, ⟨.mv (.l 0), none⟩, ⟨.mv (.c (.bool true)), none⟩] [(3, 1), (4, 2)])
 .ret) .skip)))
 (.region [⟨.mv (.t 5), none⟩, ⟨.bin 0 .add (.l 0) (.c (.int .i64 (1))), none⟩, ⟨.mv (.l 1), none⟩] [(5, 2)])))
def c_i_LeastOwn : ACode :=
 (.seq (.region [⟨.box (.t 0), none⟩, ⟨.mv (.c (.int .i64 (0))), none⟩, ⟨.mv (.c (.bool false)), none⟩] [(2, 0), (3, 1), (4, 2)])
 (.seq (.seq (.region [⟨.load true 3 (.t 2), none⟩, ⟨.mv (.t 1), none⟩, ⟨.call (.c (.fn f_i_areCargo [] [])) [(.l 0), (.l 1)], none⟩, ⟨.un .not (.l 2), none⟩] [(6, 3)])
 (.cond (.t 6) (.seq (.region [⟨.mv (.c (.int .i64 (0))), none⟩, ⟨.mv (.c (.bool false)), none⟩] [(3, 0), (4, 1)])
 .ret) .skip))
 (.seq (.seq (.region [⟨.mv (.c (.int .i64 (1))), none⟩] [(5, 0)])
 (.block 0 (.loop w_i_LeastOwn_1)))
 (.seq (.region [⟨.mv (.c (.int .i64 (0))), none⟩, ⟨.mv (.c (.bool false)), none⟩] [(3, 0), (4, 1)])
 .ret))))
def a_i_LeastOwn : AFun := ⟨[0, 1, 2, 4, 5, 6, 10, 12, 25], 27, c_i_LeastOwn, [.tmp 3, .tmp 4], 1⟩
def w_s_LeastOwn_1 : ACode :=
 (.seq (.seq (.region [⟨.mv (.t 5), none⟩, ⟨.bin 0 .leq (.l 0) (.c (.int .i64 (99))), none⟩] [(7, 1)])
 (.cond (.t 7) .skip (.exit 0)))
 (.seq (.block 1 (.seq (.region [⟨.fieldAddr 0 (.t 2), none⟩, ⟨.load false 1 (.l 0), none⟩, ⟨.fieldAddr 1 (.t 2), none⟩, ⟨.load false 1 (.l 2), none⟩, ⟨.mv (.t 5), none⟩, ⟨.build [.int .i64 (0), .int .i64 (0), .int .i64 (0)] [(0, 1, (.l 1)), (1, 1, (.l 3)), (2, 1, (.l 4))], none⟩, ⟨.mv (.t 1), none⟩, ⟨.call (.c (.fn f_s_l10Ways [] [])) [(.l 5), (.l 6)], none⟩, ⟨.indexAddrS 1 (.l 7) (.c (.int .i64 (0))), none⟩, ⟨.load false 1 (.l 8), none⟩, ⟨.bin 0 .gtr (.l 9) (.c (.int .i64 (0))), none⟩] [(8, 10)])
 (.cond (.t 8) (.seq (.region [⟨.mv (.t 5), none⟩, ⟨.mv (.l 0), none⟩, ⟨.mv (.c (.bool true)), none⟩] [(3, 1), (4, 2)])
 .ret) .skip)))
 (.region [⟨.mv (.t 5), none⟩, ⟨.bin 0 .add (.l 0) (.c (.int .i64 (1))), none⟩, ⟨.mv (.l 1), none⟩] [(5, 2)])))
def c_s_LeastOwn : ACode :=
 (.seq (.region [⟨.box (.t 0), none⟩, ⟨.mv (.c (.int .i64 (0))), none⟩, ⟨.mv (.c (.bool false)), none⟩] [(2, 0), (3, 1), (4, 2)])
 (.seq (.seq (.region [⟨.load true 3 (.t 2), none⟩, ⟨.mv (.t 1), none⟩, ⟨.call (.c (.fn f_s_l10Cargo [] [])) [(.l 0), (.l 1)], none⟩, ⟨.un .not (.l 2), none⟩] [(6, 3)])
 (.cond (.t 6) (.seq (.region [⟨.mv (.c (.int .i64 (0))), none⟩, ⟨.mv (.c (.bool false)), none⟩] [(3, 0), (4, 1)])
 .ret) .skip))
 (.seq (.seq (.region [⟨.mv (.c (.int .i64 (1))), none⟩] [(5, 0)])
 (.block 0 (.loop w_s_LeastOwn_1)))
 (.seq (.region [⟨.mv (.c (.int .i64 (0))), none⟩, ⟨.mv (.c (.bool false)), none⟩] [(3, 0), (4, 1)])
 .ret))))
def a_s_LeastOwn : AFun := ⟨[0, 1, 2, 4, 5, 6, 10, 12, 25], 27, c_s_LeastOwn, [.tmp 3, .tmp 4], 1⟩
def w_i_PairSteps_1 : ACode :=
 (.seq (.region [⟨.bin 0 .lss (.t 18) (.t 17), none⟩] [(19, 0)])
 (.seq (.cond (.t 19) .skip (.exit 4))
 (.seq (.block 5 (.seq (.region [⟨.mv (.t 18), none⟩, ⟨.mv (.l 0), none⟩] [(9, 1)])
 (.seq (.seq (.region [⟨.mv (.t 7), none⟩, ⟨.mv (.t 8), none⟩, ⟨.bin 0 .shr (.l 0) (.l 1), none⟩, ⟨.bin 0 .and (.l 2) (.c (.int .i64 (1))), none⟩, ⟨.bin 0 .eql (.l 3) (.c (.int .i64 (0))), none⟩, ⟨.mv (.l 4), none⟩, ⟨.mv (.t 7), some ((.l 5), false)⟩, ⟨.mv (.t 9), some ((.l 5), false)⟩, ⟨.bin 0 .shr (.l 6) (.l 7), some ((.l 5), false)⟩, ⟨.bin 0 .and (.l 8) (.c (.int .i64 (1))), some ((.l 5), false)⟩, ⟨.bin 0 .eql (.l 9) (.c (.int .i64 (0))), some ((.l 5), false)⟩, ⟨.pick (.l 5) (.c (.bool true)) (.l 10), none⟩] [(20, 11)])
 (.cond (.t 20) (.exit 5) .skip))
 (.seq (.draw [⟨.mv (.t 6), none, []⟩, ⟨.mv (.t 7), none, []⟩, ⟨.mv (.t 8), none, []⟩, ⟨.bin 0 .shl (.c (.int .i64 (1))) (.l 2), none, []⟩, ⟨.mv (.t 9), none, []⟩, ⟨.bin 0 .shl (.c (.int .i64 (1))) (.l 4), none, []⟩, ⟨.bin 0 .or (.l 3) (.l 5), none, []⟩, ⟨.bin 0 .andNot (.l 1) (.l 6), none, []⟩, ⟨.indexAddrS 1 (.l 0) (.l 7), none, []⟩, ⟨.load false 1 (.l 8), none, []⟩, ⟨.mv (.l 9), none, []⟩] [(10, 10)])
 (.seq (.region [⟨.mv (.t 10), none⟩, ⟨.bin 0 .geq (.l 0) (.c (.int .i64 (0))), none⟩, ⟨.mv (.l 1), none⟩, ⟨.mv (.t 6), some ((.l 2), true)⟩, ⟨.mv (.t 7), some ((.l 2), true)⟩, ⟨.indexAddrS 1 (.l 3) (.l 4), some ((.l 2), true)⟩, ⟨.load false 1 (.l 5), some ((.l 2), true)⟩, ⟨.bin 0 .lss (.l 6) (.c (.int .i64 (0))), some ((.l 2), true)⟩, ⟨.mv (.l 7), some ((.l 2), true)⟩, ⟨.mv (.t 10), some ((.l 8), false)⟩, ⟨.bin 0 .add (.l 9) (.c (.int .i64 (1))), some ((.l 8), false)⟩, ⟨.mv (.t 6), some ((.l 8), false)⟩, ⟨.mv (.t 7), some ((.l 8), false)⟩, ⟨.indexAddrS 1 (.l 11) (.l 12), some ((.l 8), false)⟩, ⟨.load false 1 (.l 13), some ((.l 8), false)⟩, ⟨.bin 0 .lss (.l 10) (.l 14), some ((.l 8), false)⟩, ⟨.pick (.l 8) (.c (.bool true)) (.l 15), some ((.l 2), true)⟩, ⟨.pick (.l 2) (.l 16) (.c (.bool false)), none⟩] [(21, 17)])
 (.cond (.t 21) (.region [⟨.mv (.t 6), none⟩, ⟨.mv (.t 7), none⟩, ⟨.mv (.t 10), none⟩, ⟨.bin 0 .add (.l 2) (.c (.int .i64 (1))), none⟩, ⟨.indexAddrS 1 (.l 0) (.l 1), none⟩, ⟨.store 1 (.l 4) (.l 3), none⟩] []) .skip))))))
 (.region [⟨.bin 0 .add (.t 18) (.c (.int .i64 (1))), none⟩, ⟨.mv (.l 0), none⟩] [(18, 1)]))))
def w_i_PairSteps_2 : ACode :=
 (.seq (.region [⟨.bin 0 .lss (.t 15) (.t 14), none⟩] [(16, 0)])
 (.seq (.cond (.t 16) .skip (.exit 2))
 (.seq (.block 3 (.seq (.region [⟨.mv (.t 15), none⟩, ⟨.mv (.l 0), none⟩] [(8, 1)])
 (.seq (.region [⟨.mv (.t 8), none⟩, ⟨.bin 0 .add (.l 0) (.c (.int .i64 (1))), none⟩, ⟨.mv (.c (.int .i64 (0))), none⟩] [(17, 1), (18, 2)])
 (.block 4 (.loop w_i_PairSteps_1)))))
 (.region [⟨.bin 0 .add (.t 15) (.c (.int .i64 (1))), none⟩, ⟨.mv (.l 0), none⟩] [(15, 1)]))))
def w_i_PairSteps_3 : ACode :=
 (.seq (.seq (.region [⟨.mv (.t 7), none⟩, ⟨.mv (.t 5), none⟩, ⟨.bin 0 .leq (.l 0) (.l 1), none⟩] [(12, 2)])
 (.cond (.t 12) .skip (.exit 0)))
 (.seq (.block 1 (.seq (.region [⟨.mv (.t 6), none⟩, ⟨.mv (.t 7), none⟩, ⟨.indexAddrS 1 (.l 0) (.l 1), none⟩, ⟨.store 1 (.l 2) (.c (.int .i64 (-1))), none⟩] [])
 (.seq (.seq (.region [⟨.load true 3 (.t 2), none⟩, ⟨.mv (.t 1), none⟩, ⟨.mv (.t 7), none⟩, ⟨.call (.c (.fn f_i_Raft_isSafe [] [])) [(.l 0), (.l 1), (.l 2)], none⟩, ⟨.un .not (.l 3), none⟩] [(13, 4)])
 (.cond (.t 13) (.exit 1) .skip))
 (.seq (.region [⟨.mv (.t 1), none⟩, ⟨.len (.l 0), none⟩, ⟨.mv (.c (.int .i64 (0))), none⟩] [(14, 1), (15, 2)])
 (.block 2 (.loop w_i_PairSteps_2))))))
 (.region [⟨.mv (.t 7), none⟩, ⟨.bin 0 .add (.l 0) (.c (.int .i64 (1))), none⟩, ⟨.mv (.l 1), none⟩] [(7, 2)])))
def c_i_PairSteps : ACode :=
 (.seq (.region [⟨.box (.t 0), none⟩, ⟨.mv (.c (.int .i64 (0))), none⟩, ⟨.mv (.c (.bool false)), none⟩] [(2, 0), (3, 1), (4, 2)])
 (.seq (.seq (.region [⟨.load true 3 (.t 2), none⟩, ⟨.mv (.t 1), none⟩, ⟨.call (.c (.fn f_i_areCargo [] [])) [(.l 0), (.l 1)], none⟩, ⟨.un .not (.l 2), none⟩] [(11, 3)])
 (.cond (.t 11) (.seq (.region [⟨.mv (.c (.int .i64 (0))), none⟩, ⟨.mv (.c (.bool false)), none⟩] [(3, 0), (4, 1)])
 .ret) .skip))
 (.seq (.region [⟨.mv (.t 1), none⟩, ⟨.len (.l 0), none⟩, ⟨.bin 0 .shl (.c (.int .i64 (1))) (.l 1), none⟩, ⟨.bin 0 .sub (.l 2) (.c (.int .i64 (1))), none⟩, ⟨.mv (.l 3), none⟩] [(5, 4)])
 (.seq (.region [⟨.mv (.t 5), none⟩, ⟨.bin 0 .add (.l 0) (.c (.int .i64 (1))), none⟩, ⟨.makeSlice 1 8 [.int .i64 (0)] (.l 1) (.l 1), none⟩, ⟨.mv (.l 2), none⟩] [(6, 3)])
 (.seq (.seq (.region [⟨.mv (.c (.int .i64 (1))), none⟩] [(7, 0)])
 (.block 0 (.loop w_i_PairSteps_3)))
 (.seq (.seq (.region [⟨.mv (.t 6), none⟩, ⟨.mv (.t 5), none⟩, ⟨.indexAddrS 1 (.l 0) (.l 1), none⟩, ⟨.load false 1 (.l 2), none⟩, ⟨.bin 0 .lss (.l 3) (.c (.int .i64 (0))), none⟩] [(22, 4)])
 (.cond (.t 22) (.seq (.region [⟨.mv (.c (.int .i64 (0))), none⟩, ⟨.mv (.c (.bool false)), none⟩] [(3, 0), (4, 1)])
 .ret) .skip))
 (.seq (.region [⟨.mv (.t 6), none⟩, ⟨.mv (.t 5), none⟩, ⟨.indexAddrS 1 (.l 0) (.l 1), none⟩, ⟨.load false 1 (.l 2), none⟩, ⟨.mv (.l 3), none⟩, ⟨.mv (.c (.bool true)), none⟩] [(3, 4), (4, 5)])
 .ret)))))))
def a_i_PairSteps : AFun := ⟨[0, 1, 2, 4, 5, 6, 7, 8, 9, 10, 11, 15, 25, 35, 37, 38, 39, 42, 43, 44, 57, 85, 97], 102, c_i_PairSteps, [.tmp 3, .tmp 4], 1⟩
def w_s_PairSteps_1 : ACode :=
 (.seq (.seq (.region [⟨.mv (.t 9), none⟩, ⟨.mv (.t 8), none⟩, ⟨.bin 0 .leq (.l 0) (.l 1), none⟩] [(15, 2)])
 (.cond (.t 15) .skip (.exit 4)))
 (.seq (.block 5 (.seq (.draw [⟨.mv (.t 8), none, []⟩, ⟨.bin 0 .shl (.c (.int .i64 (1))) (.l 0), none, []⟩, ⟨.mv (.t 9), none, []⟩, ⟨.bin 0 .shl (.c (.int .i64 (1))) (.l 2), none, []⟩, ⟨.bin 0 .or (.l 1) (.l 3), none, []⟩, ⟨.mv (.l 4), none, []⟩] [(10, 5)])
 (.seq (.seq (.region [⟨.mv (.t 7), none⟩, ⟨.mv (.t 10), none⟩, ⟨.bin 0 .and (.l 0) (.l 1), none⟩, ⟨.mv (.t 10), none⟩, ⟨.bin 0 .neq (.l 2) (.l 3), none⟩, ⟨.mv (.l 4), none⟩, ⟨.mv (.t 6), some ((.l 5), false)⟩, ⟨.mv (.t 7), some ((.l 5), false)⟩, ⟨.mv (.t 10), some ((.l 5), false)⟩, ⟨.bin 0 .sub (.l 7) (.l 8), some ((.l 5), false)⟩, ⟨.indexAddrS 1 (.l 6) (.l 9), some ((.l 5), false)⟩, ⟨.load false 1 (.l 10), some ((.l 5), false)⟩, ⟨.bin 0 .lss (.l 11) (.c (.int .i64 (0))), some ((.l 5), false)⟩, ⟨.pick (.l 5) (.c (.bool true)) (.l 12), none⟩] [(16, 13)])
 (.cond (.t 16) (.exit 5) .skip))
 (.seq (.draw [⟨.mv (.t 6), none, []⟩, ⟨.mv (.t 7), none, []⟩, ⟨.indexAddrS 1 (.l 0) (.l 1), none, []⟩, ⟨.load false 1 (.l 2), none, []⟩, ⟨.bin 0 .lss (.l 3) (.c (.int .i64 (0))), none, []⟩, ⟨.mv (.l 4), none, []⟩, ⟨.mv (.t 6), some ((.l 5), false), []⟩, ⟨.mv (.t 7), some ((.l 5), false), []⟩, ⟨.mv (.t 10), some ((.l 5), false), []⟩, ⟨.bin 0 .sub (.l 7) (.l 8), some ((.l 5), false), []⟩, ⟨.indexAddrS 1 (.l 6) (.l 9), some ((.l 5), false), []⟩, ⟨.load false 1 (.l 10), some ((.l 5), false), []⟩, ⟨.bin 0 .add (.l 11) (.c (.int .i64 (1))), some ((.l 5), false), []⟩, ⟨.mv (.t 6), some ((.l 5), false), []⟩, ⟨.mv (.t 7), some ((.l 5), false), []⟩, ⟨.indexAddrS 1 (.l 13) (.l 14), some ((.l 5), false), []⟩, ⟨.load false 1 (.l 15), some ((.l 5), false), []⟩, ⟨.bin 0 .lss (.l 12) (.l 16), some ((.l 5), false), []⟩, ⟨.pick (.l 5) (.c (.bool true)) (.l 17), none, []⟩] [(17, 18)])
 (.cond (.t 17) (.region [⟨.mv (.t 6), none⟩, ⟨.mv (.t 7), none⟩, ⟨.mv (.t 6), none⟩, ⟨.mv (.t 7), none⟩, ⟨.mv (.t 10), none⟩, ⟨.bin 0 .sub (.l 3) (.l 4), none⟩, ⟨.indexAddrS 1 (.l 2) (.l 5), none⟩, ⟨.load false 1 (.l 6), none⟩, ⟨.bin 0 .add (.l 7) (.c (.int .i64 (1))), none⟩, ⟨.indexAddrS 1 (.l 0) (.l 1), none⟩, ⟨.store 1 (.l 9) (.l 8), none⟩] []) .skip)))))
 (.region [⟨.mv (.t 9), none⟩, ⟨.bin 0 .add (.l 0) (.c (.int .i64 (1))), none⟩, ⟨.mv (.l 1), none⟩] [(9, 2)])))
def w_s_PairSteps_2 : ACode :=
 (.seq (.seq (.region [⟨.mv (.t 8), none⟩, ⟨.mv (.t 5), none⟩, ⟨.bin 0 .lss (.l 0) (.l 1), none⟩, ⟨.mv (.l 2), none⟩, ⟨.load true 3 (.t 2), some ((.l 3), true)⟩, ⟨.mv (.t 1), some ((.l 3), true)⟩, ⟨.mv (.t 7), some ((.l 3), true)⟩, ⟨.call (.c (.fn f_s_l10Safe [] [])) [(.l 4), (.l 5), (.l 6)], some ((.l 3), true)⟩, ⟨.pick (.l 3) (.l 7) (.c (.bool false)), none⟩] [(14, 8)])
 (.cond (.t 14) .skip (.exit 2)))
 (.seq (.block 3 (.seq (.region [⟨.mv (.c (.int .i64 (0))), none⟩] [(9, 0)])
 (.block 4 (.loop w_s_PairSteps_1))))
 (.region [⟨.mv (.t 8), none⟩, ⟨.bin 0 .add (.l 0) (.c (.int .i64 (1))), none⟩, ⟨.mv (.l 1), none⟩] [(8, 2)])))
def w_s_PairSteps_3 : ACode :=
 (.seq (.seq (.region [⟨.mv (.t 7), none⟩, ⟨.mv (.t 6), none⟩, ⟨.len (.l 1), none⟩, ⟨.bin 0 .lss (.l 0) (.l 2), none⟩] [(13, 3)])
 (.cond (.t 13) .skip (.exit 0)))
 (.seq (.block 1 (.seq (.region [⟨.mv (.t 6), none⟩, ⟨.mv (.t 7), none⟩, ⟨.indexAddrS 1 (.l 0) (.l 1), none⟩, ⟨.store 1 (.l 2) (.c (.int .i64 (-1))), none⟩] [])
 (.seq (.region [⟨.mv (.c (.int .i64 (0))), none⟩] [(8, 0)])
 (.block 2 (.loop w_s_PairSteps_2)))))
 (.region [⟨.mv (.t 7), none⟩, ⟨.bin 0 .add (.l 0) (.c (.int .i64 (1))), none⟩, ⟨.mv (.l 1), none⟩] [(7, 2)])))
def c_s_PairSteps : ACode :=
 (.seq (.region [⟨.box (.t 0), none⟩, ⟨.mv (.c (.int .i64 (0))), none⟩, ⟨.mv (.c (.bool false)), none⟩] [(2, 0), (3, 1), (4, 2)])
 (.seq (.seq (.region [⟨.load true 3 (.t 2), none⟩, ⟨.mv (.t 1), none⟩, ⟨.call (.c (.fn f_s_l10Cargo [] [])) [(.l 0), (.l 1)], none⟩, ⟨.un .not (.l 2), none⟩] [(12, 3)])
 (.cond (.t 12) (.seq (.region [⟨.mv (.c (.int .i64 (0))), none⟩, ⟨.mv (.c (.bool false)), none⟩] [(3, 0), (4, 1)])
 .ret) .skip))
 (.seq (.region [⟨.mv (.t 1), none⟩, ⟨.len (.l 0), none⟩, ⟨.mv (.l 1), none⟩] [(5, 2)])
 (.seq (.region [⟨.mv (.t 5), none⟩, ⟨.bin 0 .shl (.c (.int .i64 (1))) (.l 0), none⟩, ⟨.makeSlice 1 8 [.int .i64 (0)] (.l 1) (.l 1), none⟩, ⟨.mv (.l 2), none⟩] [(6, 3)])
 (.seq (.seq (.region [⟨.mv (.c (.int .i64 (1))), none⟩] [(7, 0)])
 (.block 0 (.loop w_s_PairSteps_3)))
 (.seq (.region [⟨.mv (.t 6), none⟩, ⟨.mv (.t 6), none⟩, ⟨.len (.l 1), none⟩, ⟨.bin 0 .sub (.l 2) (.c (.int .i64 (1))), none⟩, ⟨.indexAddrS 1 (.l 0) (.l 3), none⟩, ⟨.load false 1 (.l 4), none⟩, ⟨.mv (.l 5), none⟩] [(11, 6)])
 (.seq (.region [⟨.mv (.t 11), none⟩, ⟨.call (.c (.fn f_s_l1Most [] [])) [(.l 0), (.c (.int .i64 (0)))], none⟩, ⟨.mv (.t 11), none⟩, ⟨.bin 0 .geq (.l 2) (.c (.int .i64 (0))), none⟩, ⟨.mv (.l 1), none⟩, ⟨.mv (.l 3), none⟩] [(3, 4), (4, 5)])
 .ret)))))))
def a_s_PairSteps : AFun := ⟨[0, 1, 2, 4, 5, 6, 7, 8, 9, 10, 11, 12, 16, 25, 39, 44, 65, 84], 105, c_s_PairSteps, [.tmp 3, .tmp 4], 1⟩
def w_s_DrawSafeStep_1 : ACode :=
 (.seq (.seq (.region [⟨.mv (.t 10), none⟩, ⟨.bin 0 .geq (.l 0) (.c (.int .i64 (0))), none⟩] [(12, 1)])
 (.cond (.t 12) .skip (.exit 0)))
 (.seq (.block 1 (.region [⟨.mv (.t 9), none⟩, ⟨.mv (.t 7), none⟩, ⟨.mv (.t 10), none⟩, ⟨.indexAddrS 1 (.l 1) (.l 2), none⟩, ⟨.load false 1 (.l 3), none⟩, ⟨.call (.c (.fn f_s_l1Put [] [])) [(.l 0), (.l 4)], none⟩, ⟨.mv (.l 5), none⟩] [(9, 6)]))
 (.region [⟨.mv (.t 10), none⟩, ⟨.bin 0 .sub (.l 0) (.c (.int .i64 (1))), none⟩, ⟨.mv (.l 1), none⟩] [(10, 2)])))
def c_s_DrawSafeStep : ACode :=
 (.seq (.region [⟨.alloc [.int .i64 (0), .int .i64 (0), .int .i64 (0)], none⟩, ⟨.mv (.c (.slice none 0 0 none)), none⟩, ⟨.mv (.c (.slice none 0 0 none)), none⟩] [(1, 0), (2, 1), (3, 2)])
 (.seq (.region [⟨.mv (.t 0), none⟩, ⟨.build [.slice none 0 0 none, .int .i64 (0), .int .u64 (0)] [(0, 1, (.l 0))], none⟩, ⟨.box (.l 1), none⟩, ⟨.mv (.l 2), none⟩] [(4, 3)])
 (.seq (.region [⟨.mv (.t 4), none⟩, ⟨.call (.c (.fn f_s_l1Cur_raft [] [])) [(.l 0)], none⟩, ⟨.mv (.t 4), none⟩, ⟨.call (.c (.fn f_s_l1Cur_cargo [] [])) [(.l 2)], none⟩, ⟨.alloc [.int .i64 (0), .int .i64 (0), .int .i64 (0)], none⟩, ⟨.store 3 (.l 4) (.l 1), none⟩, ⟨.mv (.l 3), none⟩] [(5, 4), (6, 6)])
 (.seq (.seq (.region [⟨.load true 3 (.t 5), none⟩, ⟨.mv (.t 6), none⟩, ⟨.call (.c (.fn f_s_SafeOrder [] [])) [(.l 0), (.l 1)], none⟩, ⟨.mv (.l 2), none⟩, ⟨.extract 0 (.l 3), none⟩, ⟨.extract 1 (.l 3), none⟩, ⟨.mv (.l 4), none⟩, ⟨.mv (.l 5), none⟩] [(7, 6), (8, 7)])
 (.seq (.region [⟨.mv (.t 8), none⟩, ⟨.mv (.l 0), none⟩, ⟨.mv (.t 7), some ((.l 1), true)⟩, ⟨.len (.l 2), some ((.l 1), true)⟩, ⟨.bin 0 .gtr (.l 3) (.c (.int .i64 (0))), some ((.l 1), true)⟩, ⟨.pick (.l 1) (.l 4) (.c (.bool false)), none⟩, ⟨.mv (.l 5), none⟩, ⟨.mv (.t 4), some ((.l 6), true)⟩, ⟨.call (.c (.fn f_s_l1Cur_one [] [])) [(.l 7), (.c (.int .i64 (2)))], some ((.l 6), true)⟩, ⟨.pick (.l 6) (.l 8) (.c (.bool false)), none⟩] [(11, 9)])
 (.cond (.t 11) (.seq (.region [⟨.buildSlice 1 0 [] [], none⟩, ⟨.mv (.l 0), none⟩] [(9, 1)])
 (.seq (.seq (.region [⟨.mv (.t 4), none⟩, ⟨.mv (.t 7), none⟩, ⟨.len (.l 1), none⟩, ⟨.call (.c (.fn f_s_l1Cur_pick [] [])) [(.l 0), (.l 2)], none⟩, ⟨.mv (.l 3), none⟩] [(10, 4)])
 (.block 0 (.loop w_s_DrawSafeStep_1)))
 (.seq (.region [⟨.load true 3 (.t 5), none⟩, ⟨.mv (.t 6), none⟩, ⟨.mv (.t 9), none⟩, ⟨.store 3 (.t 1) (.l 0), none⟩, ⟨.mv (.l 1), none⟩, ⟨.mv (.l 2), none⟩] [(2, 4), (3, 5)])
 .ret))) .skip)))
 (.seq (.draw [⟨.load true 3 (.t 5), none, []⟩, ⟨.mv (.t 6), none, []⟩, ⟨.mv (.t 4), none, []⟩, ⟨.mv (.t 6), none, []⟩, ⟨.call (.c (.fn f_s_l1Cur_setOf [] [])) [(.l 2), (.l 3)], none, [(0, ⟨.load true 3 (.t 5), none⟩)]⟩, ⟨.store 3 (.t 1) (.l 0), none, []⟩, ⟨.mv (.l 1), none, []⟩, ⟨.mv (.l 4), none, []⟩] [(2, 6), (3, 7)])
 .ret)))))
def a_s_DrawSafeStep : AFun := ⟨[0, 2, 3, 4, 5, 6, 7, 8, 9, 10, 11, 34, 41], 58, c_s_DrawSafeStep, [.cell 1 true 3, .tmp 2, .tmp 3], 2⟩
def w_s_l10Order_1 : ACode :=
 (.seq (.seq (.region [⟨.mv (.t 5), none⟩, ⟨.mv (.t 1), none⟩, ⟨.len (.l 1), none⟩, ⟨.bin 0 .lss (.l 0) (.l 2), none⟩] [(7, 3)])
 (.cond (.t 7) .skip (.exit 0)))
 (.seq (.block 1 (.seq (.region [⟨.mv (.t 2), none⟩, ⟨.mv (.t 5), none⟩, ⟨.call (.c (.fn f_s_l1Has [] [])) [(.l 0), (.l 1)], none⟩, ⟨.un .not (.l 2), none⟩] [(8, 3)])
 (.cond (.t 8) (.seq (.region [⟨.mv (.c (.bool false)), none⟩] [(4, 0)])
 .ret) .skip)))
 (.region [⟨.mv (.t 5), none⟩, ⟨.bin 0 .add (.l 0) (.c (.int .i64 (1))), none⟩, ⟨.mv (.l 1), none⟩] [(5, 2)])))
def c_s_l10Order : ACode :=
 (.seq (.region [⟨.box (.t 0), none⟩, ⟨.mv (.c (.bool false)), none⟩] [(3, 0), (4, 1)])
 (.seq (.seq (.region [⟨.load true 3 (.t 3), none⟩, ⟨.mv (.t 1), none⟩, ⟨.call (.c (.fn f_s_l10Cargo [] [])) [(.l 0), (.l 1)], none⟩, ⟨.un .not (.l 2), none⟩, ⟨.mv (.l 3), none⟩, ⟨.mv (.t 2), some ((.l 4), false)⟩, ⟨.len (.l 5), some ((.l 4), false)⟩, ⟨.mv (.t 1), some ((.l 4), false)⟩, ⟨.len (.l 7), some ((.l 4), false)⟩, ⟨.bin 0 .neq (.l 6) (.l 8), some ((.l 4), false)⟩, ⟨.pick (.l 4) (.c (.bool true)) (.l 9), none⟩] [(6, 10)])
 (.cond (.t 6) (.seq (.region [⟨.mv (.c (.bool false)), none⟩] [(4, 0)])
 .ret) .skip))
 (.seq (.seq (.region [⟨.mv (.c (.int .i64 (0))), none⟩] [(5, 0)])
 (.block 0 (.loop w_s_l10Order_1)))
 (.seq (.region [⟨.mv (.c (.bool true)), none⟩] [(4, 0)])
 .ret))))
def a_s_l10Order : AFun := ⟨[0, 1, 2, 3, 6, 7, 18, 22, 28], 29, c_s_l10Order, [.tmp 4], 1⟩
def w_s_l10Tip_1 : ACode :=
 (.seq (.seq (.region [⟨.mv (.t 6), none⟩, ⟨.mv (.t 2), none⟩, ⟨.len (.l 1), none⟩, ⟨.bin 0 .lss (.l 0) (.l 2), none⟩] [(7, 3)])
 (.cond (.t 7) .skip (.exit 0)))
 (.seq (.block 1 (.seq (.region [⟨.mv (.t 5), none⟩, ⟨.mv (.t 2), none⟩, ⟨.mv (.t 6), none⟩, ⟨.indexAddrS 1 (.l 1) (.l 2), none⟩, ⟨.load false 1 (.l 3), none⟩, ⟨.bin 0 .shl (.c (.int .i64 (1))) (.l 4), none⟩, ⟨.bin 0 .add (.l 0) (.l 5), none⟩, ⟨.mv (.l 6), none⟩] [(5, 7)])
 (.seq (.region [⟨.load true 3 (.t 3), none⟩, ⟨.mv (.t 1), none⟩, ⟨.mv (.t 5), none⟩, ⟨.call (.c (.fn f_s_l10Safe [] [])) [(.l 0), (.l 1), (.l 2)], none⟩, ⟨.un .not (.l 3), none⟩] [(8, 4)])
 (.cond (.t 8) (.seq (.region [⟨.mv (.t 6), none⟩, ⟨.bin 0 .add (.l 0) (.c (.int .i64 (1))), none⟩, ⟨.mv (.l 1), none⟩] [(4, 2)])
 .ret) .skip))))
 (.region [⟨.mv (.t 6), none⟩, ⟨.bin 0 .add (.l 0) (.c (.int .i64 (1))), none⟩, ⟨.mv (.l 1), none⟩] [(6, 2)])))
def c_s_l10Tip : ACode :=
 (.seq (.region [⟨.box (.t 0), none⟩, ⟨.mv (.c (.int .i64 (0))), none⟩] [(3, 0), (4, 1)])
 (.seq (.region [⟨.mv (.c (.int .i64 (0))), none⟩] [(5, 0)])
 (.seq (.seq (.region [⟨.mv (.c (.int .i64 (0))), none⟩] [(6, 0)])
 (.block 0 (.loop w_s_l10Tip_1)))
 (.seq (.region [⟨.mv (.c (.int .i64 (-1))), none⟩] [(4, 0)])
 .ret))))
def a_s_l10Tip : AFun := ⟨[0, 1, 2, 3, 6, 7, 8, 12, 26], 29, c_s_l10Tip, [.tmp 4], 1⟩
def c_l_toLoad : ACode :=
 (.seq (.region [⟨.box (.t 0), none⟩, ⟨.alloc [.int .i64 (0), .int .i64 (0)], none⟩] [(1, 0), (2, 1)])
 (.seq (.region [⟨.alloc [.int .i64 (0), .int .i64 (0)], none⟩] [(3, 0)])
 (.seq (.region [⟨.fieldAddr 0 (.t 1), none⟩, ⟨.load false 1 (.l 0), none⟩, ⟨.fieldAddr 0 (.t 3), none⟩, ⟨.store 1 (.l 2) (.l 1), none⟩] [])
 (.seq (.region [⟨.fieldAddr 1 (.t 1), none⟩, ⟨.load false 1 (.l 0), none⟩, ⟨.fieldAddr 1 (.t 3), none⟩, ⟨.store 1 (.l 2) (.l 1), none⟩] [])
 (.seq (.region [⟨.load true 2 (.t 3), none⟩, ⟨.store 2 (.t 2) (.l 0), none⟩] [])
 .ret)))))
def a_l_toLoad : AFun := ⟨[0, 1, 2, 3], 11, c_l_toLoad, [.cell 2 true 2], 1⟩
def c_i_areCargo : ACode :=
 (.seq (.region [⟨.box (.t 0), none⟩, ⟨.mv (.c (.bool false)), none⟩] [(2, 0), (3, 1)])
 (.seq (.region [⟨.load true 3 (.t 2), none⟩, ⟨.call (.c (.fn f_i_IsRaft [] [])) [(.l 0)], none⟩, ⟨.mv (.l 1), none⟩, ⟨.mv (.t 1), some ((.l 2), true)⟩, ⟨.call (.c (.fn f_i_IsRow [] [])) [(.l 3)], some ((.l 2), true)⟩, ⟨.pick (.l 2) (.l 4) (.c (.bool false)), none⟩, ⟨.mv (.l 5), none⟩, ⟨.mv (.t 1), some ((.l 6), true)⟩, ⟨.len (.l 7), some ((.l 6), true)⟩, ⟨.bin 0 .leq (.l 8) (.c (.int .i64 (8))), some ((.l 6), true)⟩, ⟨.pick (.l 6) (.l 9) (.c (.bool false)), none⟩, ⟨.mv (.l 10), none⟩] [(3, 11)])
 .ret))
def a_i_areCargo : AFun := ⟨[0, 1, 2, 4], 16, c_i_areCargo, [.tmp 3], 1⟩
def w_i_isOrder_1 : ACode :=
 (.seq (.region [⟨.bin 0 .lss (.t 7) (.t 6), none⟩] [(8, 0)])
 (.seq (.cond (.t 8) .skip (.exit 0))
 (.seq (.block 1 (.seq (.region [⟨.indexAddrS 1 (.t 5) (.t 7), none⟩, ⟨.load false 1 (.l 0), none⟩, ⟨.mv (.l 1), none⟩] [(4, 2)])
 (.seq (.seq (.region [⟨.mv (.t 4), none⟩, ⟨.mv (.t 0), none⟩, ⟨.len (.l 1), none⟩, ⟨.bin 0 .sub (.l 2) (.c (.int .i64 (1))), none⟩, ⟨.call (.c (.fn f_i_within [] [])) [(.l 0), (.c (.int .i64 (0))), (.l 3)], none⟩, ⟨.un .not (.l 4), none⟩, ⟨.mv (.l 5), none⟩, ⟨.mv (.t 3), some ((.l 6), false)⟩, ⟨.mv (.t 4), some ((.l 6), false)⟩, ⟨.bin 0 .shr (.l 7) (.l 8), some ((.l 6), false)⟩, ⟨.bin 0 .and (.l 9) (.c (.int .i64 (1))), some ((.l 6), false)⟩, ⟨.bin 0 .eql (.l 10) (.c (.int .i64 (1))), some ((.l 6), false)⟩, ⟨.pick (.l 6) (.c (.bool true)) (.l 11), none⟩] [(9, 12)])
 (.cond (.t 9) (.seq (.region [⟨.mv (.c (.bool false)), none⟩] [(2, 0)])
 .ret) .skip))
 (.region [⟨.mv (.t 3), none⟩, ⟨.mv (.t 4), none⟩, ⟨.bin 0 .shl (.c (.int .i64 (1))) (.l 1), none⟩, ⟨.bin 0 .or (.l 0) (.l 2), none⟩, ⟨.mv (.l 3), none⟩] [(3, 4)]))))
 (.region [⟨.bin 0 .add (.t 7) (.c (.int .i64 (1))), none⟩, ⟨.mv (.l 0), none⟩] [(7, 1)]))))
def c_i_isOrder : ACode :=
 (.seq (.region [⟨.mv (.c (.bool false)), none⟩] [(2, 0)])
 (.seq (.region [⟨.mv (.c (.int .i64 (0))), none⟩] [(3, 0)])
 (.seq (.seq (.region [⟨.mv (.t 1), none⟩, ⟨.len (.l 0), none⟩, ⟨.mv (.c (.int .i64 (0))), none⟩] [(5, 0), (6, 1), (7, 2)])
 (.block 0 (.loop w_i_isOrder_1)))
 (.seq (.region [⟨.mv (.t 1), none⟩, ⟨.len (.l 0), none⟩, ⟨.mv (.t 0), none⟩, ⟨.len (.l 2), none⟩, ⟨.bin 0 .eql (.l 1) (.l 3), none⟩, ⟨.mv (.l 4), none⟩] [(2, 5)])
 .ret))))
def a_i_isOrder : AFun := ⟨[0, 1, 4, 5, 7, 8, 9, 10, 11, 26], 37, c_i_isOrder, [.tmp 2], 1⟩
def w_i_Raft_firstTip_1 : ACode :=
 (.seq (.region [⟨.bin 0 .lss (.t 10) (.t 9), none⟩] [(11, 0)])
 (.seq (.cond (.t 11) .skip (.exit 0))
 (.seq (.block 1 (.seq (.region [⟨.mv (.t 10), none⟩, ⟨.indexAddrS 1 (.t 8) (.t 10), none⟩, ⟨.load false 1 (.l 1), none⟩, ⟨.mv (.l 0), none⟩, ⟨.mv (.l 2), none⟩] [(6, 3), (7, 4)])
 (.seq (.region [⟨.mv (.t 5), none⟩, ⟨.mv (.t 7), none⟩, ⟨.bin 0 .shl (.c (.int .i64 (1))) (.l 1), none⟩, ⟨.bin 0 .or (.l 0) (.l 2), none⟩, ⟨.mv (.l 3), none⟩] [(5, 4)])
 (.seq (.region [⟨.load true 3 (.t 3), none⟩, ⟨.mv (.t 1), none⟩, ⟨.mv (.t 5), none⟩, ⟨.call (.c (.fn f_i_Raft_isSafe [] [])) [(.l 0), (.l 1), (.l 2)], none⟩, ⟨.un .not (.l 3), none⟩] [(12, 4)])
 (.cond (.t 12) (.seq (.region [⟨.mv (.t 6), none⟩, ⟨.bin 0 .add (.l 0) (.c (.int .i64 (1))), none⟩, ⟨.mv (.l 1), none⟩] [(4, 2)])
 .ret) .skip)))))
 (.region [⟨.bin 0 .add (.t 10) (.c (.int .i64 (1))), none⟩, ⟨.mv (.l 0), none⟩] [(10, 1)]))))
def c_i_Raft_firstTip : ACode :=
 (.seq (.region [⟨.box (.t 0), none⟩, ⟨.mv (.c (.int .i64 (0))), none⟩] [(3, 0), (4, 1)])
 (.seq (.region [⟨.mv (.c (.int .i64 (0))), none⟩] [(5, 0)])
 (.seq (.seq (.region [⟨.mv (.t 2), none⟩, ⟨.len (.l 0), none⟩, ⟨.mv (.c (.int .i64 (0))), none⟩] [(8, 0), (9, 1), (10, 2)])
 (.block 0 (.loop w_i_Raft_firstTip_1)))
 (.seq (.region [⟨.mv (.c (.int .i64 (0))), none⟩] [(4, 0)])
 .ret))))
def a_i_Raft_firstTip : AFun := ⟨[0, 1, 2, 3, 6, 7, 8, 9, 10, 11, 12, 13, 25], 29, c_i_Raft_firstTip, [.tmp 4], 1⟩
def c_l_eqLoad : ACode :=
 (.seq (.region [⟨.box (.t 0), none⟩, ⟨.box (.t 1), none⟩, ⟨.mv (.c (.bool false)), none⟩] [(2, 0), (3, 1), (4, 2)])
 (.seq (.seq (.region [⟨.fieldAddr 0 (.t 2), none⟩, ⟨.load false 1 (.l 0), none⟩, ⟨.fieldAddr 0 (.t 3), none⟩, ⟨.load false 1 (.l 2), none⟩, ⟨.bin 0 .neq (.l 1) (.l 3), none⟩] [(5, 4)])
 (.cond (.t 5) (.seq (.region [⟨.mv (.c (.bool false)), none⟩] [(4, 0)])
 .ret) .skip))
 (.seq (.seq (.region [⟨.fieldAddr 1 (.t 2), none⟩, ⟨.load false 1 (.l 0), none⟩, ⟨.fieldAddr 1 (.t 3), none⟩, ⟨.load false 1 (.l 2), none⟩, ⟨.bin 0 .neq (.l 1) (.l 3), none⟩] [(6, 4)])
 (.cond (.t 6) (.seq (.region [⟨.mv (.c (.bool false)), none⟩] [(4, 0)])
 .ret) .skip))
 (.seq (.region [⟨.mv (.c (.bool true)), none⟩] [(4, 0)])
 .ret))))
def a_l_eqLoad : AFun := ⟨[0, 1, 2, 3, 4, 9, 14], 15, c_l_eqLoad, [.tmp 4], 1⟩
def c_s_l10Cargo : ACode :=
 (.seq (.region [⟨.box (.t 0), none⟩, ⟨.mv (.c (.bool false)), none⟩] [(2, 0), (3, 1)])
 (.seq (.region [⟨.load true 3 (.t 2), none⟩, ⟨.call (.c (.fn f_s_l10Raft [] [])) [(.l 0)], none⟩, ⟨.mv (.l 1), none⟩, ⟨.mv (.t 1), some ((.l 2), true)⟩, ⟨.call (.c (.fn f_s_l2Row [] [])) [(.l 3)], some ((.l 2), true)⟩, ⟨.pick (.l 2) (.l 4) (.c (.bool false)), none⟩, ⟨.mv (.l 5), none⟩, ⟨.mv (.t 1), some ((.l 6), true)⟩, ⟨.len (.l 7), some ((.l 6), true)⟩, ⟨.bin 0 .leq (.l 8) (.c (.int .i64 (8))), some ((.l 6), true)⟩, ⟨.pick (.l 6) (.l 9) (.c (.bool false)), none⟩, ⟨.mv (.l 10), none⟩] [(3, 11)])
 .ret))
def a_s_l10Cargo : AFun := ⟨[0, 1, 2, 4], 16, c_s_l10Cargo, [.tmp 3], 1⟩
def w_s_l10Ways_1 : ACode :=
 (.seq (.seq (.region [⟨.mv (.t 7), none⟩, ⟨.mv (.t 1), none⟩, ⟨.len (.l 1), none⟩, ⟨.bin 0 .lss (.l 0) (.l 2), none⟩] [(11, 3)])
 (.cond (.t 11) .skip (.exit 2)))
 (.seq (.block 3 (.seq (.region [⟨.mv (.t 6), none⟩, ⟨.mv (.t 7), none⟩, ⟨.bin 0 .shr (.l 0) (.l 1), none⟩, ⟨.bin 0 .and (.l 2) (.c (.int .i64 (1))), none⟩, ⟨.bin 0 .eql (.l 3) (.c (.int .i64 (0))), none⟩] [(12, 4)])
 (.cond (.t 12) (.draw [⟨.mv (.t 5), none, []⟩, ⟨.mv (.t 6), none, []⟩, ⟨.mv (.t 5), none, []⟩, ⟨.mv (.t 6), none, []⟩, ⟨.indexAddrS 1 (.l 2) (.l 3), none, []⟩, ⟨.load false 1 (.l 4), none, []⟩, ⟨.mv (.t 5), none, []⟩, ⟨.mv (.t 6), none, []⟩, ⟨.mv (.t 7), none, []⟩, ⟨.bin 0 .shl (.c (.int .i64 (1))) (.l 8), none, []⟩, ⟨.bin 0 .add (.l 7) (.l 9), none, []⟩, ⟨.indexAddrS 1 (.l 6) (.l 10), none, []⟩, ⟨.load false 1 (.l 11), none, []⟩, ⟨.bin 0 .add (.l 5) (.l 12), none, []⟩, ⟨.indexAddrS 1 (.l 0) (.l 1), none, []⟩, ⟨.store 1 (.l 14) (.l 13), none, []⟩] []) .skip)))
 (.region [⟨.mv (.t 7), none⟩, ⟨.bin 0 .add (.l 0) (.c (.int .i64 (1))), none⟩, ⟨.mv (.l 1), none⟩] [(7, 2)])))
def w_s_l10Ways_2 : ACode :=
 (.seq (.seq (.region [⟨.mv (.t 6), none⟩, ⟨.bin 0 .geq (.l 0) (.c (.int .i64 (0))), none⟩] [(8, 1)])
 (.cond (.t 8) .skip (.exit 0)))
 (.seq (.block 1 (.seq (.seq (.region [⟨.load true 3 (.t 2), none⟩, ⟨.mv (.t 1), none⟩, ⟨.mv (.t 6), none⟩, ⟨.call (.c (.fn f_s_l10Safe [] [])) [(.l 0), (.l 1), (.l 2)], none⟩, ⟨.un .not (.l 3), none⟩] [(9, 4)])
 (.cond (.t 9) (.exit 1) .skip))
 (.seq (.seq (.region [⟨.mv (.t 6), none⟩, ⟨.mv (.t 4), none⟩, ⟨.bin 0 .eql (.l 0) (.l 1), none⟩] [(10, 2)])
 (.cond (.t 10) (.region [⟨.mv (.t 5), none⟩, ⟨.mv (.t 6), none⟩, ⟨.indexAddrS 1 (.l 0) (.l 1), none⟩, ⟨.store 1 (.l 2) (.c (.int .i64 (1))), none⟩] []) .skip))
 (.seq (.region [⟨.mv (.c (.int .i64 (0))), none⟩] [(7, 0)])
 (.block 2 (.loop w_s_l10Ways_1))))))
 (.region [⟨.mv (.t 6), none⟩, ⟨.bin 0 .sub (.l 0) (.c (.int .i64 (1))), none⟩, ⟨.mv (.l 1), none⟩] [(6, 2)])))
def c_s_l10Ways : ACode :=
 (.seq (.region [⟨.box (.t 0), none⟩, ⟨.mv (.c (.slice none 0 0 none)), none⟩] [(2, 0), (3, 1)])
 (.seq (.region [⟨.mv (.t 1), none⟩, ⟨.len (.l 0), none⟩, ⟨.bin 0 .shl (.c (.int .i64 (1))) (.l 1), none⟩, ⟨.bin 0 .sub (.l 2) (.c (.int .i64 (1))), none⟩, ⟨.mv (.l 3), none⟩] [(4, 4)])
 (.seq (.region [⟨.mv (.t 4), none⟩, ⟨.bin 0 .add (.l 0) (.c (.int .i64 (1))), none⟩, ⟨.makeSlice 1 8 [.int .i64 (0)] (.l 1) (.l 1), none⟩, ⟨.mv (.l 2), none⟩] [(5, 3)])
 (.seq (.seq (.region [⟨.mv (.t 4), none⟩, ⟨.mv (.l 0), none⟩] [(6, 1)])
 (.block 0 (.loop w_s_l10Ways_2)))
 (.seq (.region [⟨.mv (.t 5), none⟩, ⟨.mv (.l 0), none⟩] [(3, 1)])
 .ret)))))
def a_s_l10Ways : AFun := ⟨[0, 1, 2, 4, 5, 6, 7, 8, 18, 25, 28, 35, 42], 59, c_s_l10Ways, [.tmp 3], 2⟩
def w_i_Raft_waysOf_1 : ACode :=
 (.seq (.region [⟨.bin 0 .lss (.t 10) (.t 9), none⟩] [(11, 0)])
 (.seq (.cond (.t 11) .skip (.exit 3))
 (.seq (.block 4 (.seq (.region [⟨.mv (.t 10), none⟩, ⟨.mv (.l 0), none⟩] [(7, 1)])
 (.seq (.region [⟨.mv (.t 6), none⟩, ⟨.mv (.t 7), none⟩, ⟨.bin 0 .shr (.l 0) (.l 1), none⟩, ⟨.bin 0 .and (.l 2) (.c (.int .i64 (1))), none⟩, ⟨.bin 0 .eql (.l 3) (.c (.int .i64 (0))), none⟩] [(12, 4)])
 (.cond (.t 12) (.draw [⟨.mv (.t 5), none, []⟩, ⟨.mv (.t 6), none, []⟩, ⟨.indexAddrS 1 (.l 0) (.l 1), none, []⟩, ⟨.load false 1 (.l 2), none, []⟩, ⟨.mv (.t 5), none, []⟩, ⟨.mv (.t 6), none, []⟩, ⟨.mv (.t 7), none, []⟩, ⟨.bin 0 .shl (.c (.int .i64 (1))) (.l 6), none, []⟩, ⟨.bin 0 .or (.l 5) (.l 7), none, []⟩, ⟨.indexAddrS 1 (.l 4) (.l 8), none, []⟩, ⟨.load false 1 (.l 9), none, []⟩, ⟨.bin 0 .add (.l 3) (.l 10), none, []⟩, ⟨.indexAddrS 1 (.l 0) (.l 1), none, []⟩, ⟨.store 1 (.l 12) (.l 11), none, []⟩] []) .skip))))
 (.region [⟨.bin 0 .add (.t 10) (.c (.int .i64 (1))), none⟩, ⟨.mv (.l 0), none⟩] [(10, 1)]))))
def w_i_Raft_waysOf_2 : ACode :=
 (.seq (.seq (.region [⟨.mv (.t 6), none⟩, ⟨.bin 0 .geq (.l 0) (.c (.int .i64 (0))), none⟩] [(8, 1)])
 (.cond (.t 8) .skip (.exit 0)))
 (.seq (.block 1 (.block 2 (.seq (.region [⟨.load true 3 (.t 2), none⟩, ⟨.mv (.t 1), none⟩, ⟨.mv (.t 6), none⟩, ⟨.call (.c (.fn f_i_Raft_isSafe [] [])) [(.l 0), (.l 1), (.l 2)], none⟩, ⟨.un .not (.l 3), none⟩, ⟨.mv (.l 4), none⟩] [(13, 5)])
 (.cond (.t 13) .skip (.seq (.region [⟨.mv (.t 6), none⟩, ⟨.mv (.t 4), none⟩, ⟨.bin 0 .eql (.l 0) (.l 1), none⟩, ⟨.mv (.l 2), none⟩] [(14, 3)])
 (.cond (.t 14) (.region [⟨.mv (.t 5), none⟩, ⟨.mv (.t 6), none⟩, ⟨.indexAddrS 1 (.l 0) (.l 1), none⟩, ⟨.store 1 (.l 2) (.c (.int .i64 (1))), none⟩] []) (.seq (.region [⟨.mv (.t 1), none⟩, ⟨.len (.l 0), none⟩, ⟨.mv (.c (.int .i64 (0))), none⟩] [(9, 1), (10, 2)])
 (.block 3 (.loop w_i_Raft_waysOf_1)))))))))
 (.region [⟨.mv (.t 6), none⟩, ⟨.bin 0 .sub (.l 0) (.c (.int .i64 (1))), none⟩, ⟨.mv (.l 1), none⟩] [(6, 2)])))
def c_i_Raft_waysOf : ACode :=
 (.seq (.region [⟨.box (.t 0), none⟩, ⟨.mv (.c (.slice none 0 0 none)), none⟩] [(2, 0), (3, 1)])
 (.seq (.region [⟨.mv (.t 1), none⟩, ⟨.len (.l 0), none⟩, ⟨.bin 0 .shl (.c (.int .i64 (1))) (.l 1), none⟩, ⟨.bin 0 .sub (.l 2) (.c (.int .i64 (1))), none⟩, ⟨.mv (.l 3), none⟩] [(4, 4)])
 (.seq (.region [⟨.mv (.t 4), none⟩, ⟨.bin 0 .add (.l 0) (.c (.int .i64 (1))), none⟩, ⟨.makeSlice 1 8 [.int .i64 (0)] (.l 1) (.l 1), none⟩, ⟨.mv (.l 2), none⟩] [(5, 3)])
 (.seq (.seq (.region [⟨.mv (.t 4), none⟩, ⟨.mv (.l 0), none⟩] [(6, 1)])
 (.block 0 (.loop w_i_Raft_waysOf_2)))
 (.seq (.region [⟨.mv (.t 5), none⟩, ⟨.mv (.l 0), none⟩] [(3, 1)])
 .ret)))))
def a_i_Raft_waysOf : AFun := ⟨[0, 1, 2, 4, 5, 6, 7, 8, 18, 22, 23, 24, 30, 45, 51], 59, c_i_Raft_waysOf, [.tmp 3], 2⟩
-- slices_Delete_Si_Load_i_Load: by contract
def c_slices_Clone_Si_Load_i_Load : ACode :=
 (.seq (.region [⟨.mv (.c (.slice none 0 0 none)), none⟩] [(1, 0)])
 (.seq (.seq (.region [⟨.mv (.t 0), none⟩, ⟨.bin 3 .eql (.l 0) (.c (.slice none 0 0 none)), none⟩] [(2, 1)])
 (.cond (.t 2) (.seq (.region [⟨.mv (.c (.slice none 0 0 none)), none⟩] [(1, 0)])
 .ret) .skip))
 (.seq (.region [⟨.buildSlice 2 0 [] [], none⟩, ⟨.mv (.t 0), none⟩, ⟨.append false 2 16 (.l 0) (.l 1), none⟩, ⟨.mv (.l 2), none⟩] [(1, 3)])
 .ret)))
def a_slices_Clone_Si_Load_i_Load : AFun := ⟨[0, 2, 4], 8, c_slices_Clone_Si_Load_i_Load, [.tmp 1], 2⟩
def w_s_l10Back_1 : ACode :=
 (.seq (.seq (.region [⟨.mv (.t 7), none⟩, ⟨.mv (.t 1), none⟩, ⟨.len (.l 1), none⟩, ⟨.bin 0 .lss (.l 0) (.l 2), none⟩] [(9, 3)])
 (.cond (.t 9) .skip (.exit 2)))
 (.seq (.block 3 (.region [⟨.mv (.t 6), none⟩, ⟨.mv (.l 0), none⟩, ⟨.mv (.t 5), some ((.l 1), false)⟩, ⟨.mv (.t 7), some ((.l 1), false)⟩, ⟨.bin 0 .shr (.l 2) (.l 3), some ((.l 1), false)⟩, ⟨.bin 0 .and (.l 4) (.c (.int .i64 (1))), some ((.l 1), false)⟩, ⟨.bin 0 .eql (.l 5) (.c (.int .i64 (1))), some ((.l 1), false)⟩, ⟨.mv (.l 6), some ((.l 1), false)⟩, ⟨.mv (.t 4), some ((.l 7), true)⟩, ⟨.mv (.t 5), some ((.l 7), true)⟩, ⟨.mv (.t 7), some ((.l 7), true)⟩, ⟨.bin 0 .shl (.c (.int .i64 (1))) (.l 10), some ((.l 7), true)⟩, ⟨.bin 0 .sub (.l 9) (.l 11), some ((.l 7), true)⟩, ⟨.indexAddrS 1 (.l 8) (.l 12), some ((.l 7), true)⟩, ⟨.load false 1 (.l 13), some ((.l 7), true)⟩, ⟨.pick (.l 7) (.l 14) (.c (.bool false)), some ((.l 1), false)⟩, ⟨.pick (.l 1) (.c (.bool true)) (.l 15), none⟩, ⟨.mv (.l 16), none⟩] [(6, 17)]))
 (.region [⟨.mv (.t 7), none⟩, ⟨.bin 0 .add (.l 0) (.c (.int .i64 (1))), none⟩, ⟨.mv (.l 1), none⟩] [(7, 2)])))
def w_s_l10Back_2 : ACode :=
 (.seq (.seq (.region [⟨.mv (.t 5), none⟩, ⟨.mv (.t 4), none⟩, ⟨.len (.l 1), none⟩, ⟨.bin 0 .lss (.l 0) (.l 2), none⟩] [(8, 3)])
 (.cond (.t 8) .skip (.exit 0)))
 (.seq (.block 1 (.seq (.region [⟨.mv (.t 5), none⟩, ⟨.bin 0 .eql (.l 0) (.c (.int .i64 (0))), none⟩, ⟨.mv (.l 1), none⟩] [(6, 2)])
 (.seq (.seq (.region [⟨.mv (.c (.int .i64 (0))), none⟩] [(7, 0)])
 (.block 2 (.loop w_s_l10Back_1)))
 (.region [⟨.mv (.t 4), none⟩, ⟨.mv (.t 5), none⟩, ⟨.mv (.t 6), none⟩, ⟨.mv (.l 2), none⟩, ⟨.load true 3 (.t 2), some ((.l 3), true)⟩, ⟨.mv (.t 1), some ((.l 3), true)⟩, ⟨.mv (.t 5), some ((.l 3), true)⟩, ⟨.call (.c (.fn f_s_l10Safe [] [])) [(.l 4), (.l 5), (.l 6)], some ((.l 3), true)⟩, ⟨.pick (.l 3) (.l 7) (.c (.bool false)), none⟩, ⟨.indexAddrS 1 (.l 0) (.l 1), none⟩, ⟨.store 1 (.l 9) (.l 8), none⟩] []))))
 (.region [⟨.mv (.t 5), none⟩, ⟨.bin 0 .add (.l 0) (.c (.int .i64 (1))), none⟩, ⟨.mv (.l 1), none⟩] [(5, 2)])))
def c_s_l10Back : ACode :=
 (.seq (.region [⟨.box (.t 0), none⟩, ⟨.mv (.c (.slice none 0 0 none)), none⟩] [(2, 0), (3, 1)])
 (.seq (.region [⟨.mv (.t 1), none⟩, ⟨.len (.l 0), none⟩, ⟨.bin 0 .shl (.c (.int .i64 (1))) (.l 1), none⟩, ⟨.makeSlice 1 1 [.bool false] (.l 2) (.l 2), none⟩, ⟨.mv (.l 3), none⟩] [(4, 4)])
 (.seq (.seq (.region [⟨.mv (.c (.int .i64 (0))), none⟩] [(5, 0)])
 (.block 0 (.loop w_s_l10Back_2)))
 (.seq (.region [⟨.mv (.t 4), none⟩, ⟨.mv (.l 0), none⟩] [(3, 1)])
 .ret))))
def a_s_l10Back : AFun := ⟨[0, 1, 2, 4, 5, 6, 7, 8, 16, 24], 55, c_s_l10Back, [.tmp 3], 2⟩
def c_i_Raft_isSafe : ACode :=
 (.seq (.region [⟨.box (.t 0), none⟩, ⟨.mv (.c (.bool false)), none⟩] [(3, 0), (4, 1)])
 (.seq (.region [⟨.load true 3 (.t 3), none⟩, ⟨.mv (.t 1), none⟩, ⟨.mv (.t 2), none⟩, ⟨.call (.c (.fn f_i_Raft_reserve [] [])) [(.l 0), (.l 1), (.l 2)], none⟩, ⟨.mv (.l 3), none⟩, ⟨.extract 0 (.l 4), none⟩, ⟨.extract 1 (.l 4), none⟩, ⟨.mv (.l 5), none⟩, ⟨.mv (.l 6), none⟩] [(5, 7), (6, 8)])
 (.seq (.region [⟨.mv (.t 5), none⟩, ⟨.bin 0 .geq (.l 0) (.c (.int .i64 (0))), none⟩, ⟨.mv (.l 1), none⟩, ⟨.mv (.t 6), some ((.l 2), true)⟩, ⟨.bin 0 .geq (.l 3) (.c (.int .i64 (0))), some ((.l 2), true)⟩, ⟨.pick (.l 2) (.l 4) (.c (.bool false)), none⟩, ⟨.mv (.l 5), none⟩] [(4, 6)])
 .ret)))
def a_i_Raft_isSafe : AFun := ⟨[0, 1, 2, 3, 6, 7, 8], 22, c_i_Raft_isSafe, [.tmp 4], 1⟩
def w_i_stepsFrom_1 : ACode :=
 (.seq (.region [⟨.bin 0 .lss (.t 7) (.t 6), none⟩] [(8, 0)])
 (.seq (.cond (.t 8) .skip (.exit 0))
 (.seq (.block 1 (.seq (.region [⟨.mv (.t 7), none⟩, ⟨.mv (.l 0), none⟩] [(5, 1)])
 (.seq (.region [⟨.mv (.t 2), none⟩, ⟨.mv (.t 5), none⟩, ⟨.bin 0 .shr (.l 0) (.l 1), none⟩, ⟨.bin 0 .and (.l 2) (.c (.int .i64 (1))), none⟩, ⟨.bin 0 .eql (.l 3) (.c (.int .i64 (0))), none⟩, ⟨.mv (.l 4), none⟩, ⟨.mv (.t 1), some ((.l 5), true)⟩, ⟨.mv (.t 2), some ((.l 5), true)⟩, ⟨.mv (.t 5), some ((.l 5), true)⟩, ⟨.bin 0 .shl (.c (.int .i64 (1))) (.l 8), some ((.l 5), true)⟩, ⟨.bin 0 .or (.l 7) (.l 9), some ((.l 5), true)⟩, ⟨.indexAddrS 1 (.l 6) (.l 10), some ((.l 5), true)⟩, ⟨.load false 1 (.l 11), some ((.l 5), true)⟩, ⟨.bin 0 .gtr (.l 12) (.c (.int .i64 (0))), some ((.l 5), true)⟩, ⟨.pick (.l 5) (.l 13) (.c (.bool false)), none⟩] [(9, 14)])
 (.cond (.t 9) (.region [⟨.mv (.t 4), none⟩, ⟨.mv (.t 5), none⟩, ⟨.buildSlice 1 1 [.int .i64 (0)] [(0, 1, (.l 1))], none⟩, ⟨.append false 1 8 (.l 0) (.l 2), none⟩, ⟨.mv (.l 3), none⟩] [(4, 4)]) .skip))))
 (.region [⟨.bin 0 .add (.t 7) (.c (.int .i64 (1))), none⟩, ⟨.mv (.l 0), none⟩] [(7, 1)]))))
def c_i_stepsFrom : ACode :=
 (.seq (.region [⟨.mv (.c (.slice none 0 0 none)), none⟩] [(3, 0)])
 (.seq (.region [⟨.buildSlice 1 0 [] [], none⟩, ⟨.mv (.l 0), none⟩] [(4, 1)])
 (.seq (.seq (.region [⟨.mv (.t 0), none⟩, ⟨.len (.l 0), none⟩, ⟨.mv (.c (.int .i64 (0))), none⟩] [(6, 1), (7, 2)])
 (.block 0 (.loop w_i_stepsFrom_1)))
 (.seq (.region [⟨.mv (.t 4), none⟩, ⟨.mv (.l 0), none⟩] [(3, 1)])
 .ret))))
def a_i_stepsFrom : AFun := ⟨[0, 1, 2, 6, 7, 8, 11, 12, 13, 29], 36, c_i_stepsFrom, [.tmp 3], 2⟩
def w_s_l10Code_1 : ACode :=
 (.seq (.seq (.region [⟨.mv (.t 7), none⟩, ⟨.mv (.t 2), none⟩, ⟨.len (.l 1), none⟩, ⟨.bin 0 .lss (.l 0) (.l 2), none⟩] [(9, 3)])
 (.cond (.t 9) .skip (.exit 0)))
 (.seq (.block 1 (.region [⟨.mv (.t 6), none⟩, ⟨.mv (.t 2), none⟩, ⟨.mv (.t 7), none⟩, ⟨.indexAddrS 1 (.l 1) (.l 2), none⟩, ⟨.load false 1 (.l 3), none⟩, ⟨.bin 0 .shl (.c (.int .i64 (1))) (.l 4), none⟩, ⟨.bin 0 .add (.l 0) (.l 5), none⟩, ⟨.mv (.l 6), none⟩] [(6, 7)]))
 (.region [⟨.mv (.t 7), none⟩, ⟨.bin 0 .add (.l 0) (.c (.int .i64 (1))), none⟩, ⟨.mv (.l 1), none⟩] [(7, 2)])))
def c_s_l10Code : ACode :=
 (.seq (.region [⟨.box (.t 0), none⟩, ⟨.mv (.c (.int .i64 (0))), none⟩, ⟨.mv (.c (.bool false)), none⟩] [(3, 0), (4, 1), (5, 2)])
 (.seq (.seq (.region [⟨.load true 3 (.t 3), none⟩, ⟨.mv (.t 1), none⟩, ⟨.call (.c (.fn f_s_l10Cargo [] [])) [(.l 0), (.l 1)], none⟩, ⟨.un .not (.l 2), none⟩, ⟨.mv (.l 3), none⟩, ⟨.mv (.t 2), some ((.l 4), false)⟩, ⟨.mv (.t 1), some ((.l 4), false)⟩, ⟨.len (.l 6), some ((.l 4), false)⟩, ⟨.bin 0 .sub (.l 7) (.c (.int .i64 (1))), some ((.l 4), false)⟩, ⟨.call (.c (.fn f_s_l1Rising [] [])) [(.l 5), (.c (.int .i64 (0))), (.l 8)], some ((.l 4), false)⟩, ⟨.un .not (.l 9), some ((.l 4), false)⟩, ⟨.pick (.l 4) (.c (.bool true)) (.l 10), none⟩] [(8, 11)])
 (.cond (.t 8) (.seq (.region [⟨.mv (.c (.int .i64 (0))), none⟩, ⟨.mv (.c (.bool false)), none⟩] [(4, 0), (5, 1)])
 .ret) .skip))
 (.seq (.region [⟨.mv (.c (.int .i64 (0))), none⟩] [(6, 0)])
 (.seq (.seq (.region [⟨.mv (.c (.int .i64 (0))), none⟩] [(7, 0)])
 (.block 0 (.loop w_s_l10Code_1)))
 (.seq (.region [⟨.mv (.t 6), none⟩, ⟨.mv (.l 0), none⟩, ⟨.mv (.c (.bool true)), none⟩] [(4, 1), (5, 2)])
 .ret)))))
def a_s_l10Code : AFun := ⟨[0, 1, 2, 3, 6, 7, 8, 9, 21, 25], 36, c_s_l10Code, [.tmp 4, .tmp 5], 1⟩
def c_s_l10Safe : ACode :=
 (.seq (.region [⟨.box (.t 0), none⟩, ⟨.mv (.c (.bool false)), none⟩] [(3, 0), (4, 1)])
 (.seq (.region [⟨.load true 3 (.t 3), none⟩, ⟨.mv (.t 1), none⟩, ⟨.mv (.t 2), none⟩, ⟨.call (.c (.fn f_s_l10Reserve [] [])) [(.l 0), (.l 1), (.l 2)], none⟩, ⟨.mv (.l 3), none⟩, ⟨.extract 0 (.l 4), none⟩, ⟨.extract 1 (.l 4), none⟩, ⟨.mv (.l 5), none⟩, ⟨.mv (.l 6), none⟩] [(5, 7), (6, 8)])
 (.seq (.region [⟨.mv (.t 5), none⟩, ⟨.bin 0 .geq (.l 0) (.c (.int .i64 (0))), none⟩, ⟨.mv (.l 1), none⟩, ⟨.mv (.t 6), some ((.l 2), true)⟩, ⟨.bin 0 .geq (.l 3) (.c (.int .i64 (0))), some ((.l 2), true)⟩, ⟨.pick (.l 2) (.l 4) (.c (.bool false)), none⟩, ⟨.mv (.l 5), none⟩] [(4, 6)])
 .ret)))
def a_s_l10Safe : AFun := ⟨[0, 1, 2, 3, 6, 7, 8], 22, c_s_l10Safe, [.tmp 4], 1⟩
def w_i_bitsOf_1 : ACode :=
 (.seq (.region [⟨.bin 0 .lss (.t 9) (.t 8), none⟩] [(10, 0)])
 (.seq (.cond (.t 10) .skip (.exit 0))
 (.seq (.block 1 (.seq (.region [⟨.mv (.t 9), none⟩, ⟨.indexAddrS 1 (.t 7) (.t 9), none⟩, ⟨.load false 1 (.l 1), none⟩, ⟨.mv (.l 0), none⟩, ⟨.mv (.l 2), none⟩] [(5, 3), (6, 4)])
 (.seq (.seq (.region [⟨.mv (.t 6), none⟩, ⟨.mv (.t 0), none⟩, ⟨.len (.l 1), none⟩, ⟨.bin 0 .sub (.l 2) (.c (.int .i64 (1))), none⟩, ⟨.call (.c (.fn f_i_within [] [])) [(.l 0), (.c (.int .i64 (0))), (.l 3)], none⟩, ⟨.un .not (.l 4), none⟩, ⟨.mv (.l 5), none⟩, ⟨.mv (.t 5), some ((.l 6), false)⟩, ⟨.bin 0 .gtr (.l 7) (.c (.int .i64 (0))), some ((.l 6), false)⟩, ⟨.mv (.l 8), some ((.l 6), false)⟩, ⟨.mv (.t 6), some ((.l 9), true)⟩, ⟨.mv (.t 1), some ((.l 9), true)⟩, ⟨.mv (.t 5), some ((.l 9), true)⟩, ⟨.bin 0 .sub (.l 12) (.c (.int .i64 (1))), some ((.l 9), true)⟩, ⟨.indexAddrS 1 (.l 11) (.l 13), some ((.l 9), true)⟩, ⟨.load false 1 (.l 14), some ((.l 9), true)⟩, ⟨.bin 0 .leq (.l 10) (.l 15), some ((.l 9), true)⟩, ⟨.pick (.l 9) (.l 16) (.c (.bool false)), some ((.l 6), false)⟩, ⟨.pick (.l 6) (.c (.bool true)) (.l 17), none⟩] [(11, 18)])
 (.cond (.t 11) (.seq (.region [⟨.mv (.c (.int .i64 (0))), none⟩, ⟨.mv (.c (.bool false)), none⟩] [(2, 0), (3, 1)])
 .ret) .skip))
 (.region [⟨.mv (.t 4), none⟩, ⟨.mv (.t 6), none⟩, ⟨.bin 0 .shl (.c (.int .i64 (1))) (.l 1), none⟩, ⟨.bin 0 .or (.l 0) (.l 2), none⟩, ⟨.mv (.l 3), none⟩] [(4, 4)]))))
 (.region [⟨.bin 0 .add (.t 9) (.c (.int .i64 (1))), none⟩, ⟨.mv (.l 0), none⟩] [(9, 1)]))))
def c_i_bitsOf : ACode :=
 (.seq (.region [⟨.mv (.c (.int .i64 (0))), none⟩, ⟨.mv (.c (.bool false)), none⟩] [(2, 0), (3, 1)])
 (.seq (.region [⟨.mv (.c (.int .i64 (0))), none⟩] [(4, 0)])
 (.seq (.seq (.region [⟨.mv (.t 1), none⟩, ⟨.len (.l 0), none⟩, ⟨.mv (.c (.int .i64 (0))), none⟩] [(7, 0), (8, 1), (9, 2)])
 (.block 0 (.loop w_i_bitsOf_1)))
 (.seq (.region [⟨.mv (.t 4), none⟩, ⟨.mv (.l 0), none⟩, ⟨.mv (.c (.bool true)), none⟩] [(2, 1), (3, 2)])
 .ret))))
def a_i_bitsOf : AFun := ⟨[0, 1, 4, 5, 6, 7, 8, 9, 10, 11, 12, 34], 41, c_i_bitsOf, [.tmp 2, .tmp 3], 1⟩
def c_s_l1Cur_raft : ACode :=
 (.seq (.region [⟨.alloc [.int .i64 (0), .int .i64 (0), .int .i64 (0)], none⟩] [(1, 0)])
 (.seq (.region [⟨.mv (.t 0), none⟩, ⟨.call (.c (.fn f_s_l1Cur_pick [] [])) [(.l 0), (.c (.int .i64 (8)))], none⟩, ⟨.mv (.l 1), none⟩] [(2, 2)])
 (.seq (.region [⟨.mv (.t 2), none⟩, ⟨.mv (.t 2), none⟩, ⟨.mv (.t 0), none⟩, ⟨.call (.c (.fn f_s_l1Cur_pick [] [])) [(.l 2), (.c (.int .i64 (6)))], none⟩, ⟨.bin 0 .add (.l 1) (.l 3), none⟩, ⟨.mv (.t 0), none⟩, ⟨.mv (.t 0), none⟩, ⟨.buildSlice 1 3 [.int .i64 (0), .int .i64 (0), .int .i64 (0)] [(0, 1, (.c (.int .i64 (3)))), (1, 1, (.c (.int .i64 (9)))), (2, 1, (.c (.int .i64 (30))))], none⟩, ⟨.call (.c (.fn f_s_l1Cur_among [] [])) [(.l 6), (.l 7)], none⟩, ⟨.call (.c (.fn f_s_l1Cur_pick [] [])) [(.l 5), (.l 8)], none⟩, ⟨.bin 0 .add (.c (.int .i64 (1))) (.l 9), none⟩, ⟨.build [.int .i64 (0), .int .i64 (0), .int .i64 (0)] [(0, 1, (.l 0)), (1, 1, (.l 4)), (2, 1, (.l 10))], none⟩, ⟨.alloc [.int .i64 (0), .int .i64 (0), .int .i64 (0)], none⟩, ⟨.store 3 (.l 12) (.l 11), none⟩] [(3, 12)])
 (.seq (.seq (.region [⟨.mv (.t 0), none⟩, ⟨.call (.c (.fn f_s_l1Cur_pick [] [])) [(.l 0), (.c (.int .i64 (50)))], none⟩] [(4, 1)])
 (.block 0 (.seq (.region [⟨.bin 0 .eql (.t 4) (.c (.int .i64 (0))), none⟩, ⟨.mv (.l 0), none⟩] [(5, 1)])
 (.cond (.t 5) (.region [⟨.mv (.t 0), none⟩, ⟨.fieldAddr 1 (.t 3), none⟩, ⟨.load false 1 (.l 1), none⟩, ⟨.bin 0 .add (.l 2) (.c (.int .i64 (1))), none⟩, ⟨.buildSlice 1 3 [.int .i64 (0), .int .i64 (0), .int .i64 (0)] [(0, 1, (.c (.int .i64 (-1)))), (1, 1, (.l 3)), (2, 1, (.c (.int .i64 (61))))], none⟩, ⟨.call (.c (.fn f_s_l1Cur_among [] [])) [(.l 0), (.l 4)], none⟩, ⟨.fieldAddr 0 (.t 3), none⟩, ⟨.store 1 (.l 6) (.l 5), none⟩] []) (.seq (.region [⟨.bin 0 .eql (.t 4) (.c (.int .i64 (1))), none⟩, ⟨.mv (.l 0), none⟩] [(6, 1)])
 (.cond (.t 6) (.region [⟨.mv (.t 0), none⟩, ⟨.buildSlice 1 3 [.int .i64 (0), .int .i64 (0), .int .i64 (0)] [(0, 1, (.c (.int .i64 (60)))), (1, 1, (.c (.int .i64 (61)))), (2, 1, (.c (.int .i64 (4611686018427387904))))], none⟩, ⟨.call (.c (.fn f_s_l1Cur_among [] [])) [(.l 0), (.l 1)], none⟩, ⟨.fieldAddr 1 (.t 3), none⟩, ⟨.store 1 (.l 3) (.l 2), none⟩] []) (.seq (.region [⟨.bin 0 .eql (.t 4) (.c (.int .i64 (2))), none⟩, ⟨.mv (.l 0), none⟩] [(7, 1)])
 (.cond (.t 7) (.region [⟨.mv (.t 0), none⟩, ⟨.buildSlice 1 4 [.int .i64 (0), .int .i64 (0), .int .i64 (0), .int .i64 (0)] [(0, 1, (.c (.int .i64 (0)))), (1, 1, (.c (.int .i64 (99)))), (2, 1, (.c (.int .i64 (100)))), (3, 1, (.c (.int .i64 (-1))))], none⟩, ⟨.call (.c (.fn f_s_l1Cur_among [] [])) [(.l 0), (.l 1)], none⟩, ⟨.fieldAddr 2 (.t 3), none⟩, ⟨.store 1 (.l 3) (.l 2), none⟩] []) .skip))))))))
 (.seq (.region [⟨.load true 3 (.t 3), none⟩, ⟨.store 3 (.t 1) (.l 0), none⟩] [])
 .ret)))))
def a_s_l1Cur_raft : AFun := ⟨[0, 2, 3, 4, 20, 21, 30, 36], 43, c_s_l1Cur_raft, [.cell 1 true 3], 1⟩
def w_s_l1Cur_cargo_1 : ACode :=
 (.seq (.seq (.region [⟨.mv (.t 3), none⟩, ⟨.bin 0 .gtr (.l 0) (.c (.int .i64 (0))), none⟩] [(5, 1)])
 (.cond (.t 5) .skip (.exit 0)))
 (.seq (.block 1 (.region [⟨.mv (.t 2), none⟩, ⟨.mv (.t 0), none⟩, ⟨.call (.c (.fn f_s_l1Cur_pick [] [])) [(.l 1), (.c (.int .i64 (16)))], none⟩, ⟨.mv (.t 0), none⟩, ⟨.mv (.t 0), none⟩, ⟨.buildSlice 1 3 [.int .i64 (0), .int .i64 (0), .int .i64 (0)] [(0, 1, (.c (.int .i64 (2)))), (1, 1, (.c (.int .i64 (4)))), (2, 1, (.c (.int .i64 (9))))], none⟩, ⟨.call (.c (.fn f_s_l1Cur_among [] [])) [(.l 4), (.l 5)], none⟩, ⟨.call (.c (.fn f_s_l1Cur_pick [] [])) [(.l 3), (.l 6)], none⟩, ⟨.bin 0 .add (.c (.int .i64 (1))) (.l 7), none⟩, ⟨.build [.int .i64 (0), .int .i64 (0)] [(0, 1, (.l 2)), (1, 1, (.l 8))], none⟩, ⟨.buildSlice 2 1 [.int .i64 (0), .int .i64 (0)] [(0, 2, (.l 9))], none⟩, ⟨.append false 2 16 (.l 0) (.l 10), none⟩, ⟨.mv (.l 11), none⟩] [(2, 12)]))
 (.region [⟨.mv (.t 3), none⟩, ⟨.bin 0 .sub (.l 0) (.c (.int .i64 (1))), none⟩, ⟨.mv (.l 1), none⟩] [(3, 2)])))
def w_s_l1Cur_cargo_2 : ACode :=
 (.seq (.seq (.region [⟨.mv (.t 2), none⟩, ⟨.len (.l 0), none⟩, ⟨.bin 0 .lss (.l 1) (.c (.int .i64 (9))), none⟩] [(11, 2)])
 (.cond (.t 11) .skip (.exit 3)))
 (.block 4 (.region [⟨.mv (.t 2), none⟩, ⟨.build [.int .i64 (0), .int .i64 (0)] [(0, 1, (.c (.int .i64 (5)))), (1, 1, (.c (.int .i64 (1))))], none⟩, ⟨.buildSlice 2 1 [.int .i64 (0), .int .i64 (0)] [(0, 2, (.l 1))], none⟩, ⟨.append false 2 16 (.l 0) (.l 2), none⟩, ⟨.mv (.l 3), none⟩] [(2, 4)])))
def c_s_l1Cur_cargo : ACode :=
 (.seq (.region [⟨.mv (.c (.slice none 0 0 none)), none⟩] [(1, 0)])
 (.seq (.region [⟨.buildSlice 2 0 [] [], none⟩, ⟨.mv (.l 0), none⟩] [(2, 1)])
 (.seq (.seq (.region [⟨.mv (.t 0), none⟩, ⟨.buildSlice 1 8 [.int .i64 (0), .int .i64 (0), .int .i64 (0), .int .i64 (0), .int .i64 (0), .int .i64 (0), .int .i64 (0), .int .i64 (0)] [(0, 1, (.c (.int .i64 (3)))), (1, 1, (.c (.int .i64 (4)))), (2, 1, (.c (.int .i64 (2)))), (3, 1, (.c (.int .i64 (5)))), (4, 1, (.c (.int .i64 (1)))), (5, 1, (.c (.int .i64 (0)))), (6, 1, (.c (.int .i64 (6)))), (7, 1, (.c (.int .i64 (8))))], none⟩, ⟨.call (.c (.fn f_s_l1Cur_among [] [])) [(.l 0), (.l 1)], none⟩, ⟨.mv (.l 2), none⟩] [(3, 3)])
 (.block 0 (.loop w_s_l1Cur_cargo_1)))
 (.seq (.seq (.region [⟨.mv (.t 2), none⟩, ⟨.len (.l 0), none⟩, ⟨.mv (.l 1), none⟩] [(4, 2)])
 (.seq (.region [⟨.mv (.t 4), none⟩, ⟨.bin 0 .gtr (.l 0) (.c (.int .i64 (0))), none⟩] [(6, 1)])
 (.cond (.t 6) (.seq (.region [⟨.mv (.t 0), none⟩, ⟨.call (.c (.fn f_s_l1Cur_pick [] [])) [(.l 0), (.c (.int .i64 (50)))], none⟩] [(7, 1)])
 (.block 2 (.seq (.region [⟨.bin 0 .eql (.t 7) (.c (.int .i64 (0))), none⟩, ⟨.mv (.l 0), none⟩] [(8, 1)])
 (.cond (.t 8) (.region [⟨.mv (.t 2), none⟩, ⟨.mv (.t 0), none⟩, ⟨.mv (.t 4), none⟩, ⟨.call (.c (.fn f_s_l1Cur_pick [] [])) [(.l 1), (.l 2)], none⟩, ⟨.mv (.t 0), none⟩, ⟨.buildSlice 1 3 [.int .i64 (0), .int .i64 (0), .int .i64 (0)] [(0, 1, (.c (.int .i64 (-1)))), (1, 1, (.c (.int .i64 (60)))), (2, 1, (.c (.int .i64 (61))))], none⟩, ⟨.call (.c (.fn f_s_l1Cur_among [] [])) [(.l 4), (.l 5)], none⟩, ⟨.indexAddrS 2 (.l 0) (.l 3), none⟩, ⟨.fieldAddr 0 (.l 7), none⟩, ⟨.store 1 (.l 8) (.l 6), none⟩] []) (.seq (.region [⟨.bin 0 .eql (.t 7) (.c (.int .i64 (1))), none⟩, ⟨.mv (.l 0), none⟩] [(9, 1)])
 (.cond (.t 9) (.region [⟨.mv (.t 2), none⟩, ⟨.mv (.t 0), none⟩, ⟨.mv (.t 4), none⟩, ⟨.call (.c (.fn f_s_l1Cur_pick [] [])) [(.l 1), (.l 2)], none⟩, ⟨.mv (.t 0), none⟩, ⟨.buildSlice 1 3 [.int .i64 (0), .int .i64 (0), .int .i64 (0)] [(0, 1, (.c (.int .i64 (0)))), (1, 1, (.c (.int .i64 (99)))), (2, 1, (.c (.int .i64 (100))))], none⟩, ⟨.call (.c (.fn f_s_l1Cur_among [] [])) [(.l 4), (.l 5)], none⟩, ⟨.indexAddrS 2 (.l 0) (.l 3), none⟩, ⟨.fieldAddr 1 (.l 7), none⟩, ⟨.store 1 (.l 8) (.l 6), none⟩] []) (.seq (.region [⟨.bin 0 .eql (.t 7) (.c (.int .i64 (2))), none⟩, ⟨.mv (.l 0), none⟩] [(10, 1)])
 (.cond (.t 10) (.block 3 (.loop w_s_l1Cur_cargo_2)) .skip)))))))) .skip)))
 (.seq (.region [⟨.mv (.t 2), none⟩, ⟨.mv (.l 0), none⟩] [(1, 1)])
 .ret)))))
def a_s_l1Cur_cargo : AFun := ⟨[0, 2, 3, 4, 5, 11, 29, 31, 32, 43, 54, 58], 64, c_s_l1Cur_cargo, [.tmp 1], 2⟩
def w_s_l1Cur_setOf_1 : ACode :=
 (.seq (.seq (.region [⟨.mv (.t 4), none⟩, ⟨.mv (.t 1), none⟩, ⟨.len (.l 1), none⟩, ⟨.bin 0 .lss (.l 0) (.l 2), none⟩, ⟨.mv (.l 3), none⟩, ⟨.mv (.t 4), some ((.l 4), true)⟩, ⟨.bin 0 .lss (.l 5) (.c (.int .i64 (9))), some ((.l 4), true)⟩, ⟨.pick (.l 4) (.l 6) (.c (.bool false)), none⟩] [(5, 7)])
 (.cond (.t 5) .skip (.exit 0)))
 (.seq (.block 1 (.seq (.region [⟨.mv (.t 0), none⟩, ⟨.call (.c (.fn f_s_l1Cur_one [] [])) [(.l 0), (.c (.int .i64 (2)))], none⟩] [(6, 1)])
 (.cond (.t 6) (.region [⟨.mv (.t 3), none⟩, ⟨.mv (.t 4), none⟩, ⟨.buildSlice 1 1 [.int .i64 (0)] [(0, 1, (.l 1))], none⟩, ⟨.append false 1 8 (.l 0) (.l 2), none⟩, ⟨.mv (.l 3), none⟩] [(3, 4)]) .skip)))
 (.region [⟨.mv (.t 4), none⟩, ⟨.bin 0 .add (.l 0) (.c (.int .i64 (1))), none⟩, ⟨.mv (.l 1), none⟩] [(4, 2)])))
def c_s_l1Cur_setOf : ACode :=
 (.seq (.region [⟨.mv (.c (.slice none 0 0 none)), none⟩] [(2, 0)])
 (.seq (.region [⟨.buildSlice 1 0 [] [], none⟩, ⟨.mv (.l 0), none⟩] [(3, 1)])
 (.seq (.seq (.region [⟨.mv (.c (.int .i64 (0))), none⟩] [(4, 0)])
 (.block 0 (.loop w_s_l1Cur_setOf_1)))
 (.seq (.seq (.region [⟨.mv (.t 0), none⟩, ⟨.call (.c (.fn f_s_l1Cur_one [] [])) [(.l 0), (.c (.int .i64 (24)))], none⟩] [(7, 1)])
 (.cond (.t 7) (.region [⟨.mv (.t 3), none⟩, ⟨.mv (.t 0), none⟩, ⟨.mv (.t 1), none⟩, ⟨.len (.l 2), none⟩, ⟨.buildSlice 1 3 [.int .i64 (0), .int .i64 (0), .int .i64 (0)] [(0, 1, (.c (.int .i64 (-1)))), (1, 1, (.c (.int .i64 (0)))), (2, 1, (.l 3))], none⟩, ⟨.call (.c (.fn f_s_l1Cur_among [] [])) [(.l 1), (.l 4)], none⟩, ⟨.buildSlice 1 1 [.int .i64 (0)] [(0, 1, (.l 5))], none⟩, ⟨.append false 1 8 (.l 0) (.l 6), none⟩, ⟨.mv (.l 7), none⟩] [(3, 8)]) .skip))
 (.seq (.region [⟨.mv (.t 3), none⟩, ⟨.mv (.l 0), none⟩] [(2, 1)])
 .ret)))))
def a_s_l1Cur_setOf : AFun := ⟨[0, 1, 4, 5, 6, 15, 19, 25], 35, c_s_l1Cur_setOf, [.tmp 2], 2⟩
def w_s_l10Reserve_1 : ACode :=
 (.seq (.seq (.region [⟨.mv (.t 8), none⟩, ⟨.mv (.t 1), none⟩, ⟨.len (.l 1), none⟩, ⟨.bin 0 .lss (.l 0) (.l 2), none⟩] [(9, 3)])
 (.cond (.t 9) .skip (.exit 0)))
 (.seq (.block 1 (.seq (.region [⟨.mv (.t 2), none⟩, ⟨.mv (.t 8), none⟩, ⟨.bin 0 .shr (.l 0) (.l 1), none⟩, ⟨.bin 0 .and (.l 2) (.c (.int .i64 (1))), none⟩, ⟨.bin 0 .eql (.l 3) (.c (.int .i64 (1))), none⟩] [(10, 4)])
 (.cond (.t 10) (.seq (.draw [⟨.mv (.t 6), none, []⟩, ⟨.mv (.t 1), none, []⟩, ⟨.mv (.t 8), none, []⟩, ⟨.indexAddrS 2 (.l 1) (.l 2), none, []⟩, ⟨.fieldAddr 1 (.l 3), none, []⟩, ⟨.load false 1 (.l 4), none, []⟩, ⟨.bin 0 .mul (.c (.int .i64 (2))) (.l 5), none, []⟩, ⟨.mv (.t 1), none, []⟩, ⟨.mv (.t 8), none, []⟩, ⟨.indexAddrS 2 (.l 7) (.l 8), none, []⟩, ⟨.fieldAddr 0 (.l 9), none, []⟩, ⟨.load false 1 (.l 10), none, []⟩, ⟨.fieldAddr 0 (.t 3), none, []⟩, ⟨.load false 1 (.l 12), none, []⟩, ⟨.bin 0 .sub (.l 11) (.l 13), none, []⟩, ⟨.bin 0 .mul (.l 6) (.l 14), none, []⟩, ⟨.bin 0 .add (.l 0) (.l 15), none, []⟩, ⟨.mv (.l 16), none, []⟩] [(6, 17)])
 (.draw [⟨.mv (.t 7), none, []⟩, ⟨.mv (.t 1), none, []⟩, ⟨.mv (.t 8), none, []⟩, ⟨.indexAddrS 2 (.l 1) (.l 2), none, []⟩, ⟨.fieldAddr 1 (.l 3), none, []⟩, ⟨.load false 1 (.l 4), none, []⟩, ⟨.bin 0 .mul (.c (.int .i64 (2))) (.l 5), none, []⟩, ⟨.fieldAddr 1 (.t 3), none, []⟩, ⟨.load false 1 (.l 7), none, []⟩, ⟨.mv (.t 1), none, []⟩, ⟨.mv (.t 8), none, []⟩, ⟨.indexAddrS 2 (.l 9) (.l 10), none, []⟩, ⟨.fieldAddr 0 (.l 11), none, []⟩, ⟨.load false 1 (.l 12), none, []⟩, ⟨.bin 0 .sub (.l 8) (.l 13), none, []⟩, ⟨.bin 0 .mul (.l 6) (.l 14), none, []⟩, ⟨.bin 0 .add (.l 0) (.l 15), none, []⟩, ⟨.mv (.l 16), none, []⟩] [(7, 17)])) .skip)))
 (.region [⟨.mv (.t 8), none⟩, ⟨.bin 0 .add (.l 0) (.c (.int .i64 (1))), none⟩, ⟨.mv (.l 1), none⟩] [(8, 2)])))
def c_s_l10Reserve : ACode :=
 (.seq (.region [⟨.box (.t 0), none⟩, ⟨.mv (.c (.int .i64 (0))), none⟩, ⟨.mv (.c (.int .i64 (0))), none⟩] [(3, 0), (4, 1), (5, 2)])
 (.seq (.draw [⟨.fieldAddr 2 (.t 3), none, []⟩, ⟨.load false 1 (.l 0), none, []⟩, ⟨.fieldAddr 1 (.t 3), none, []⟩, ⟨.load false 1 (.l 2), none, []⟩, ⟨.fieldAddr 0 (.t 3), none, []⟩, ⟨.load false 1 (.l 4), none, []⟩, ⟨.bin 0 .sub (.l 3) (.l 5), none, []⟩, ⟨.bin 0 .mul (.l 1) (.l 6), none, []⟩, ⟨.fieldAddr 2 (.t 3), none, []⟩, ⟨.load false 1 (.l 8), none, []⟩, ⟨.fieldAddr 1 (.t 3), none, []⟩, ⟨.load false 1 (.l 10), none, []⟩, ⟨.fieldAddr 0 (.t 3), none, []⟩, ⟨.load false 1 (.l 12), none, []⟩, ⟨.bin 0 .sub (.l 11) (.l 13), none, []⟩, ⟨.bin 0 .mul (.l 9) (.l 14), none, []⟩, ⟨.mv (.l 7), none, []⟩, ⟨.mv (.l 15), none, []⟩] [(6, 16), (7, 17)])
 (.seq (.seq (.region [⟨.mv (.c (.int .i64 (0))), none⟩] [(8, 0)])
 (.block 0 (.loop w_s_l10Reserve_1)))
 (.seq (.region [⟨.mv (.t 6), none⟩, ⟨.mv (.t 7), none⟩, ⟨.mv (.l 0), none⟩, ⟨.mv (.l 1), none⟩] [(4, 2), (5, 3)])
 .ret))))
def a_s_l10Reserve : AFun := ⟨[0, 1, 2, 3, 6, 7, 8, 9, 10, 30, 37], 74, c_s_l10Reserve, [.tmp 4, .tmp 5], 1⟩
def w_i_Raft_reserve_1 : ACode :=
 (.seq (.region [⟨.bin 0 .lss (.t 12) (.t 11), none⟩] [(13, 0)])
 (.seq (.cond (.t 13) .skip (.exit 0))
 (.seq (.block 1 (.seq (.region [⟨.mv (.t 12), none⟩, ⟨.indexAddrS 2 (.t 10) (.t 12), none⟩, ⟨.load true 2 (.l 1), none⟩, ⟨.alloc [.int .i64 (0), .int .i64 (0)], none⟩, ⟨.mv (.l 0), none⟩, ⟨.store 2 (.l 3) (.l 2), none⟩] [(8, 4), (9, 3)])
 (.seq (.region [⟨.mv (.t 2), none⟩, ⟨.mv (.t 8), none⟩, ⟨.bin 0 .shr (.l 0) (.l 1), none⟩, ⟨.bin 0 .and (.l 2) (.c (.int .i64 (1))), none⟩, ⟨.bin 0 .eql (.l 3) (.c (.int .i64 (1))), none⟩] [(14, 4)])
 (.cond (.t 14) (.seq (.region [⟨.mv (.t 6), none⟩, ⟨.fieldAddr 1 (.t 9), none⟩, ⟨.load false 1 (.l 1), none⟩, ⟨.bin 0 .mul (.c (.int .i64 (2))) (.l 2), none⟩, ⟨.fieldAddr 0 (.t 9), none⟩, ⟨.load false 1 (.l 4), none⟩, ⟨.fieldAddr 0 (.t 3), none⟩, ⟨.load false 1 (.l 6), none⟩, ⟨.bin 0 .sub (.l 5) (.l 7), none⟩, ⟨.bin 0 .mul (.l 3) (.l 8), none⟩, ⟨.bin 0 .add (.l 0) (.l 9), none⟩, ⟨.mv (.l 10), none⟩] [(6, 11)])
 (.region [⟨.mv (.t 7), none⟩, ⟨.fieldAddr 1 (.t 9), none⟩, ⟨.load false 1 (.l 1), none⟩, ⟨.bin 0 .mul (.c (.int .i64 (2))) (.l 2), none⟩, ⟨.fieldAddr 0 (.t 9), none⟩, ⟨.load false 1 (.l 4), none⟩, ⟨.fieldAddr 1 (.t 3), none⟩, ⟨.load false 1 (.l 6), none⟩, ⟨.bin 0 .sub (.l 5) (.l 7), none⟩, ⟨.bin 0 .mul (.l 3) (.l 8), none⟩, ⟨.bin 0 .sub (.l 0) (.l 9), none⟩, ⟨.mv (.l 10), none⟩] [(7, 11)])) .skip))))
 (.region [⟨.bin 0 .add (.t 12) (.c (.int .i64 (1))), none⟩, ⟨.mv (.l 0), none⟩] [(12, 1)]))))
def c_i_Raft_reserve : ACode :=
 (.seq (.region [⟨.box (.t 0), none⟩, ⟨.mv (.c (.int .i64 (0))), none⟩, ⟨.mv (.c (.int .i64 (0))), none⟩] [(3, 0), (4, 1), (5, 2)])
 (.seq (.region [⟨.fieldAddr 2 (.t 3), none⟩, ⟨.load false 1 (.l 0), none⟩, ⟨.fieldAddr 1 (.t 3), none⟩, ⟨.load false 1 (.l 2), none⟩, ⟨.fieldAddr 0 (.t 3), none⟩, ⟨.load false 1 (.l 4), none⟩, ⟨.bin 0 .sub (.l 3) (.l 5), none⟩, ⟨.bin 0 .mul (.l 1) (.l 6), none⟩, ⟨.mv (.l 7), none⟩] [(6, 8)])
 (.seq (.region [⟨.mv (.t 6), none⟩, ⟨.mv (.l 0), none⟩] [(7, 1)])
 (.seq (.seq (.region [⟨.mv (.t 1), none⟩, ⟨.len (.l 0), none⟩, ⟨.mv (.c (.int .i64 (0))), none⟩] [(10, 0), (11, 1), (12, 2)])
 (.block 0 (.loop w_i_Raft_reserve_1)))
 (.seq (.region [⟨.mv (.t 6), none⟩, ⟨.mv (.t 7), none⟩, ⟨.mv (.l 0), none⟩, ⟨.mv (.l 1), none⟩] [(4, 2), (5, 3)])
 .ret)))))
def a_i_Raft_reserve : AFun := ⟨[0, 1, 2, 3, 6, 7, 8, 9, 10, 11, 21, 22, 23, 24, 32], 58, c_i_Raft_reserve, [.tmp 4, .tmp 5], 1⟩
def c_s_l1Cur_one : ACode :=
 (.seq (.region [⟨.mv (.c (.bool false)), none⟩] [(2, 0)])
 (.seq (.region [⟨.mv (.t 0), none⟩, ⟨.mv (.t 1), none⟩, ⟨.call (.c (.fn f_s_l1Cur_pick [] [])) [(.l 0), (.l 1)], none⟩, ⟨.bin 0 .eql (.l 2) (.c (.int .i64 (0))), none⟩, ⟨.mv (.l 3), none⟩] [(2, 4)])
 .ret))
def a_s_l1Cur_one : AFun := ⟨[0, 1, 4], 9, c_s_l1Cur_one, [.tmp 2], 1⟩
def w_s_l1Cur_orderFor_1 : ACode :=
 (.seq (.seq (.region [⟨.mv (.t 4), none⟩, ⟨.mv (.t 1), none⟩, ⟨.len (.l 1), none⟩, ⟨.bin 0 .lss (.l 0) (.l 2), none⟩, ⟨.mv (.l 3), none⟩, ⟨.mv (.t 4), some ((.l 4), true)⟩, ⟨.bin 0 .lss (.l 5) (.c (.int .i64 (9))), some ((.l 4), true)⟩, ⟨.pick (.l 4) (.l 6) (.c (.bool false)), none⟩] [(6, 7)])
 (.cond (.t 6) .skip (.exit 0)))
 (.seq (.block 1 (.seq (.region [⟨.mv (.t 0), none⟩, ⟨.mv (.t 3), none⟩, ⟨.len (.l 1), none⟩, ⟨.bin 0 .add (.l 2) (.c (.int .i64 (1))), none⟩, ⟨.call (.c (.fn f_s_l1Cur_pick [] [])) [(.l 0), (.l 3)], none⟩, ⟨.mv (.l 4), none⟩] [(5, 5)])
 (.draw [⟨.mv (.t 3), none, []⟩, ⟨.mv (.t 5), none, []⟩, ⟨.sliceSl 1 (.l 0) none (some (.l 1)) none, none, []⟩, ⟨.mv (.t 4), none, []⟩, ⟨.mv (.t 3), none, []⟩, ⟨.mv (.t 5), none, []⟩, ⟨.sliceSl 1 (.l 4) (some (.l 5)) none none, none, []⟩, ⟨.buildSlice 1 0 [] [], none, []⟩, ⟨.append false 1 8 (.l 7) (.l 2), none, []⟩, ⟨.buildSlice 1 1 [.int .i64 (0)] [(0, 1, (.l 3))], none, []⟩, ⟨.append false 1 8 (.l 8) (.l 9), none, []⟩, ⟨.append false 1 8 (.l 10) (.l 6), none, []⟩, ⟨.mv (.l 11), none, []⟩] [(3, 12)])))
 (.region [⟨.mv (.t 4), none⟩, ⟨.bin 0 .add (.l 0) (.c (.int .i64 (1))), none⟩, ⟨.mv (.l 1), none⟩] [(4, 2)])))
def c_s_l1Cur_orderFor : ACode :=
 (.seq (.region [⟨.mv (.c (.slice none 0 0 none)), none⟩] [(2, 0)])
 (.seq (.region [⟨.buildSlice 1 0 [] [], none⟩, ⟨.mv (.l 0), none⟩] [(3, 1)])
 (.seq (.seq (.region [⟨.mv (.c (.int .i64 (0))), none⟩] [(4, 0)])
 (.block 0 (.loop w_s_l1Cur_orderFor_1)))
 (.seq (.seq (.region [⟨.mv (.t 3), none⟩, ⟨.len (.l 0), none⟩, ⟨.bin 0 .gtr (.l 1) (.c (.int .i64 (0))), none⟩, ⟨.mv (.l 2), none⟩, ⟨.mv (.t 0), some ((.l 3), true)⟩, ⟨.call (.c (.fn f_s_l1Cur_one [] [])) [(.l 4), (.c (.int .i64 (20)))], some ((.l 3), true)⟩, ⟨.pick (.l 3) (.l 5) (.c (.bool false)), none⟩] [(7, 6)])
 (.cond (.t 7) (.region [⟨.mv (.t 3), none⟩, ⟨.mv (.t 0), none⟩, ⟨.mv (.t 1), none⟩, ⟨.len (.l 2), none⟩, ⟨.buildSlice 1 4 [.int .i64 (0), .int .i64 (0), .int .i64 (0), .int .i64 (0)] [(0, 1, (.c (.int .i64 (0)))), (1, 1, (.c (.int .i64 (1)))), (2, 1, (.c (.int .i64 (-1)))), (3, 1, (.l 3))], none⟩, ⟨.call (.c (.fn f_s_l1Cur_among [] [])) [(.l 1), (.l 4)], none⟩, ⟨.indexAddrS 1 (.l 0) (.c (.int .i64 (0))), none⟩, ⟨.store 1 (.l 6) (.l 5), none⟩] []) .skip))
 (.seq (.region [⟨.mv (.t 3), none⟩, ⟨.mv (.l 0), none⟩] [(2, 1)])
 .ret)))))
def a_s_l1Cur_orderFor : AFun := ⟨[0, 1, 4, 5, 6, 7, 16, 42], 51, c_s_l1Cur_orderFor, [.tmp 2], 2⟩
def c_i_isBase : ACode :=
 (.seq (.region [⟨.mv (.c (.bool false)), none⟩] [(2, 0)])
 (.seq (.region [⟨.mv (.t 0), none⟩, ⟨.call (.c (.fn f_i_isPlace [] [])) [(.l 0)], none⟩, ⟨.mv (.l 1), none⟩, ⟨.mv (.t 1), some ((.l 2), true)⟩, ⟨.call (.c (.fn f_i_isPlace [] [])) [(.l 3)], some ((.l 2), true)⟩, ⟨.pick (.l 2) (.l 4) (.c (.bool false)), none⟩, ⟨.mv (.l 5), none⟩, ⟨.mv (.t 0), some ((.l 6), true)⟩, ⟨.mv (.t 1), some ((.l 6), true)⟩, ⟨.bin 0 .leq (.l 7) (.l 8), some ((.l 6), true)⟩, ⟨.pick (.l 6) (.l 9) (.c (.bool false)), none⟩, ⟨.mv (.l 10), none⟩] [(2, 11)])
 .ret))
def a_i_isBase : AFun := ⟨[0, 1, 4], 16, c_i_isBase, [.tmp 2], 1⟩
def c_i_within : ACode :=
 (.seq (.region [⟨.mv (.c (.bool false)), none⟩] [(3, 0)])
 (.seq (.region [⟨.mv (.t 0), none⟩, ⟨.mv (.t 1), none⟩, ⟨.bin 0 .geq (.l 0) (.l 1), none⟩, ⟨.mv (.l 2), none⟩, ⟨.mv (.t 0), some ((.l 3), true)⟩, ⟨.mv (.t 2), some ((.l 3), true)⟩, ⟨.bin 0 .leq (.l 4) (.l 5), some ((.l 3), true)⟩, ⟨.pick (.l 3) (.l 6) (.c (.bool false)), none⟩, ⟨.mv (.l 7), none⟩] [(3, 8)])
 .ret))
def a_i_within : AFun := ⟨[0, 1, 2, 6], 15, c_i_within, [.tmp 3], 1⟩
def c_s_l10Raft : ACode :=
 (.seq (.region [⟨.box (.t 0), none⟩, ⟨.mv (.c (.bool false)), none⟩] [(1, 0), (2, 1)])
 (.seq (.region [⟨.fieldAddr 0 (.t 1), none⟩, ⟨.load false 1 (.l 0), none⟩, ⟨.fieldAddr 1 (.t 1), none⟩, ⟨.load false 1 (.l 2), none⟩, ⟨.call (.c (.fn f_s_l2Base [] [])) [(.l 1), (.l 3)], none⟩, ⟨.mv (.l 4), none⟩, ⟨.fieldAddr 2 (.t 1), some ((.l 5), true)⟩, ⟨.load false 1 (.l 6), some ((.l 5), true)⟩, ⟨.call (.c (.fn f_s_l1In [] [])) [(.l 7), (.c (.int .i64 (1))), (.c (.int .i64 (99)))], some ((.l 5), true)⟩, ⟨.pick (.l 5) (.l 8) (.c (.bool false)), none⟩, ⟨.mv (.l 9), none⟩] [(2, 10)])
 .ret))
def a_s_l10Raft : AFun := ⟨[0, 1, 2], 13, c_s_l10Raft, [.tmp 2], 1⟩
def c_s_DrawSafeSets : ACode :=
 (.seq (.region [⟨.alloc [.int .i64 (0), .int .i64 (0), .int .i64 (0)], none⟩, ⟨.mv (.c (.slice none 0 0 none)), none⟩] [(1, 0), (2, 1)])
 (.seq (.region [⟨.mv (.t 0), none⟩, ⟨.build [.slice none 0 0 none, .int .i64 (0), .int .u64 (0)] [(0, 1, (.l 0))], none⟩, ⟨.box (.l 1), none⟩, ⟨.mv (.l 2), none⟩] [(3, 3)])
 (.seq (.region [⟨.mv (.t 3), none⟩, ⟨.call (.c (.fn f_s_l1Cur_raft [] [])) [(.l 0)], none⟩, ⟨.mv (.t 3), none⟩, ⟨.call (.c (.fn f_s_l1Cur_cargo [] [])) [(.l 2)], none⟩, ⟨.store 3 (.t 1) (.l 1), none⟩, ⟨.mv (.l 3), none⟩] [(2, 5)])
 .ret)))
def a_s_DrawSafeSets : AFun := ⟨[0, 2, 3, 4], 12, c_s_DrawSafeSets, [.cell 1 true 3, .tmp 2], 2⟩
def c_s_l1Most : ACode :=
 (.seq (.region [⟨.mv (.c (.int .i64 (0))), none⟩] [(2, 0)])
 (.seq (.seq (.region [⟨.mv (.t 0), none⟩, ⟨.mv (.t 1), none⟩, ⟨.bin 0 .gtr (.l 0) (.l 1), none⟩] [(3, 2)])
 (.cond (.t 3) (.seq (.region [⟨.mv (.t 0), none⟩, ⟨.mv (.l 0), none⟩] [(2, 1)])
 .ret) .skip))
 (.seq (.region [⟨.mv (.t 1), none⟩, ⟨.mv (.l 0), none⟩] [(2, 1)])
 .ret)))
def a_s_l1Most : AFun := ⟨[0, 1, 4, 7], 10, c_s_l1Most, [.tmp 2], 1⟩
def c_s_l1Cur_pick : ACode :=
 (.seq (.region [⟨.mv (.c (.int .i64 (0))), none⟩] [(2, 0)])
 (.seq (.seq (.region [⟨.mv (.t 1), none⟩, ⟨.bin 0 .leq (.l 0) (.c (.int .i64 (1))), none⟩] [(4, 1)])
 (.cond (.t 4) (.seq (.region [⟨.mv (.c (.int .i64 (0))), none⟩] [(2, 0)])
 .ret) .skip))
 (.seq (.region [⟨.mv (.t 0), none⟩, ⟨.call (.c (.fn f_s_l1Cur_next [] [])) [(.l 0)], none⟩, ⟨.mv (.l 1), none⟩] [(3, 2)])
 (.seq (.seq (.region [⟨.mv (.t 1), none⟩, ⟨.bin 0 .gtr (.l 0) (.c (.int .i64 (200))), none⟩] [(5, 1)])
 (.cond (.t 5) (.region [⟨.mv (.t 3), none⟩, ⟨.bin 0 .mul (.l 0) (.c (.int .i64 (256))), none⟩, ⟨.mv (.t 0), none⟩, ⟨.call (.c (.fn f_s_l1Cur_next [] [])) [(.l 2)], none⟩, ⟨.bin 0 .add (.l 1) (.l 3), none⟩, ⟨.mv (.l 4), none⟩] [(3, 5)]) .skip))
 (.seq (.region [⟨.mv (.t 3), none⟩, ⟨.mv (.t 1), none⟩, ⟨.bin 0 .rem (.l 0) (.l 1), none⟩, ⟨.mv (.l 2), none⟩] [(2, 3)])
 .ret)))))
def a_s_l1Cur_pick : AFun := ⟨[0, 1, 4, 5, 7, 11], 20, c_s_l1Cur_pick, [.tmp 2], 1⟩
def w_s_l1Put_1 : ACode :=
 (.seq (.seq (.region [⟨.mv (.t 3), none⟩, ⟨.mv (.t 0), none⟩, ⟨.len (.l 1), none⟩, ⟨.bin 0 .lss (.l 0) (.l 2), none⟩, ⟨.mv (.l 3), none⟩, ⟨.mv (.t 0), some ((.l 4), true)⟩, ⟨.mv (.t 3), some ((.l 4), true)⟩, ⟨.indexAddrS 1 (.l 5) (.l 6), some ((.l 4), true)⟩, ⟨.load false 1 (.l 7), some ((.l 4), true)⟩, ⟨.mv (.t 1), some ((.l 4), true)⟩, ⟨.bin 0 .lss (.l 8) (.l 9), some ((.l 4), true)⟩, ⟨.pick (.l 4) (.l 10) (.c (.bool false)), none⟩] [(4, 11)])
 (.cond (.t 4) .skip (.exit 0)))
 (.block 1 (.region [⟨.mv (.t 3), none⟩, ⟨.bin 0 .add (.l 0) (.c (.int .i64 (1))), none⟩, ⟨.mv (.l 1), none⟩] [(3, 2)])))
def c_s_l1Put : ACode :=
 (.seq (.region [⟨.mv (.c (.slice none 0 0 none)), none⟩] [(2, 0)])
 (.seq (.region [⟨.mv (.c (.int .i64 (0))), none⟩] [(3, 0)])
 (.seq (.block 0 (.loop w_s_l1Put_1))
 (.seq (.seq (.region [⟨.mv (.t 3), none⟩, ⟨.mv (.t 0), none⟩, ⟨.len (.l 1), none⟩, ⟨.bin 0 .lss (.l 0) (.l 2), none⟩, ⟨.mv (.l 3), none⟩, ⟨.mv (.t 0), some ((.l 4), true)⟩, ⟨.mv (.t 3), some ((.l 4), true)⟩, ⟨.indexAddrS 1 (.l 5) (.l 6), some ((.l 4), true)⟩, ⟨.load false 1 (.l 7), some ((.l 4), true)⟩, ⟨.mv (.t 1), some ((.l 4), true)⟩, ⟨.bin 0 .eql (.l 8) (.l 9), some ((.l 4), true)⟩, ⟨.pick (.l 4) (.l 10) (.c (.bool false)), none⟩] [(5, 11)])
 (.cond (.t 5) (.seq (.region [⟨.mv (.t 0), none⟩, ⟨.mv (.l 0), none⟩] [(2, 1)])
 .ret) .skip))
 (.seq (.draw [⟨.mv (.t 0), none, []⟩, ⟨.mv (.t 3), none, []⟩, ⟨.sliceSl 1 (.l 0) none (some (.l 1)) none, none, []⟩, ⟨.mv (.t 1), none, []⟩, ⟨.mv (.t 0), none, []⟩, ⟨.mv (.t 3), none, []⟩, ⟨.sliceSl 1 (.l 4) (some (.l 5)) none none, none, []⟩, ⟨.buildSlice 1 0 [] [], none, []⟩, ⟨.append false 1 8 (.l 7) (.l 2), none, []⟩, ⟨.buildSlice 1 1 [.int .i64 (0)] [(0, 1, (.l 3))], none, []⟩, ⟨.append false 1 8 (.l 8) (.l 9), none, []⟩, ⟨.append false 1 8 (.l 10) (.l 6), none, []⟩, ⟨.mv (.l 11), none, []⟩] [(2, 12)])
 .ret)))))
def a_s_l1Put : AFun := ⟨[0, 1, 4, 5, 17, 31], 45, c_s_l1Put, [.tmp 2], 2⟩
def w_s_l1Has_1 : ACode :=
 (.seq (.seq (.region [⟨.mv (.t 3), none⟩, ⟨.mv (.t 0), none⟩, ⟨.len (.l 1), none⟩, ⟨.bin 0 .lss (.l 0) (.l 2), none⟩] [(4, 3)])
 (.cond (.t 4) .skip (.exit 0)))
 (.seq (.block 1 (.seq (.region [⟨.mv (.t 0), none⟩, ⟨.mv (.t 3), none⟩, ⟨.indexAddrS 1 (.l 0) (.l 1), none⟩, ⟨.load false 1 (.l 2), none⟩, ⟨.mv (.t 1), none⟩, ⟨.bin 0 .eql (.l 3) (.l 4), none⟩] [(5, 5)])
 (.cond (.t 5) (.seq (.region [⟨.mv (.c (.bool true)), none⟩] [(2, 0)])
 .ret) .skip)))
 (.region [⟨.mv (.t 3), none⟩, ⟨.bin 0 .add (.l 0) (.c (.int .i64 (1))), none⟩, ⟨.mv (.l 1), none⟩] [(3, 2)])))
def c_s_l1Has : ACode :=
 (.seq (.region [⟨.mv (.c (.bool false)), none⟩] [(2, 0)])
 (.seq (.seq (.region [⟨.mv (.c (.int .i64 (0))), none⟩] [(3, 0)])
 (.block 0 (.loop w_s_l1Has_1)))
 (.seq (.region [⟨.mv (.c (.bool false)), none⟩] [(2, 0)])
 .ret)))
def a_s_l1Has : AFun := ⟨[0, 1, 4, 5, 9, 17], 18, c_s_l1Has, [.tmp 2], 1⟩
def c_i_IsRow : ACode :=
 (.seq (.region [⟨.mv (.c (.bool false)), none⟩] [(1, 0)])
 (.seq (.seq (.region [⟨.mv (.t 0), none⟩, ⟨.len (.l 0), none⟩, ⟨.bin 0 .gtr (.l 1) (.c (.int .i64 (12))), none⟩] [(2, 2)])
 (.cond (.t 2) (.seq (.region [⟨.mv (.c (.bool false)), none⟩] [(1, 0)])
 .ret) .skip))
 (.seq (.region [⟨.mv (.t 0), none⟩, ⟨.call (.c (.fn f_slices_ContainsFunc_Si_Load_i_Load [] [])) [(.l 0), (.c (.fn f_i_IsRow_1 [] []))], none⟩, ⟨.un .not (.l 1), none⟩, ⟨.mv (.l 2), none⟩] [(1, 3)])
 .ret)))
def a_i_IsRow : AFun := ⟨[0, 2, 5], 9, c_i_IsRow, [.tmp 1], 1⟩
def w_s_l2Row_1 : ACode :=
 (.seq (.seq (.region [⟨.mv (.t 2), none⟩, ⟨.mv (.t 0), none⟩, ⟨.len (.l 1), none⟩, ⟨.bin 0 .lss (.l 0) (.l 2), none⟩, ⟨.mv (.l 3), none⟩, ⟨.mv (.t 2), some ((.l 4), true)⟩, ⟨.bin 0 .leq (.l 5) (.c (.int .i64 (12))), some ((.l 4), true)⟩, ⟨.pick (.l 4) (.l 6) (.c (.bool false)), none⟩] [(3, 7)])
 (.cond (.t 3) .skip (.exit 0)))
 (.seq (.block 1 (.seq (.region [⟨.mv (.t 0), none⟩, ⟨.mv (.t 2), none⟩, ⟨.indexAddrS 2 (.l 0) (.l 1), none⟩, ⟨.fieldAddr 0 (.l 2), none⟩, ⟨.load false 1 (.l 3), none⟩, ⟨.call (.c (.fn f_s_l2In [] [])) [(.l 4)], none⟩, ⟨.un .not (.l 5), none⟩, ⟨.mv (.l 6), none⟩, ⟨.mv (.t 0), some ((.l 7), false)⟩, ⟨.mv (.t 2), some ((.l 7), false)⟩, ⟨.indexAddrS 2 (.l 8) (.l 9), some ((.l 7), false)⟩, ⟨.fieldAddr 1 (.l 10), some ((.l 7), false)⟩, ⟨.load false 1 (.l 11), some ((.l 7), false)⟩, ⟨.call (.c (.fn f_s_l1In [] [])) [(.l 12), (.c (.int .i64 (1))), (.c (.int .i64 (99)))], some ((.l 7), false)⟩, ⟨.un .not (.l 13), some ((.l 7), false)⟩, ⟨.pick (.l 7) (.c (.bool true)) (.l 14), none⟩] [(4, 15)])
 (.cond (.t 4) (.seq (.region [⟨.mv (.c (.bool false)), none⟩] [(1, 0)])
 .ret) .skip)))
 (.region [⟨.mv (.t 2), none⟩, ⟨.bin 0 .add (.l 0) (.c (.int .i64 (1))), none⟩, ⟨.mv (.l 1), none⟩] [(2, 2)])))
def c_s_l2Row : ACode :=
 (.seq (.region [⟨.mv (.c (.bool false)), none⟩] [(1, 0)])
 (.seq (.seq (.region [⟨.mv (.c (.int .i64 (0))), none⟩] [(2, 0)])
 (.block 0 (.loop w_s_l2Row_1)))
 (.seq (.region [⟨.mv (.t 0), none⟩, ⟨.len (.l 0), none⟩, ⟨.bin 0 .leq (.l 1) (.c (.int .i64 (12))), none⟩, ⟨.mv (.l 2), none⟩] [(1, 3)])
 .ret)))
def a_s_l2Row : AFun := ⟨[0, 2, 3, 11, 29], 33, c_s_l2Row, [.tmp 1], 1⟩
def w_s_l1Rising_1 : ACode :=
 (.seq (.seq (.region [⟨.mv (.t 4), none⟩, ⟨.mv (.t 0), none⟩, ⟨.len (.l 1), none⟩, ⟨.bin 0 .lss (.l 0) (.l 2), none⟩] [(5, 3)])
 (.cond (.t 5) .skip (.exit 0)))
 (.seq (.block 1 (.seq (.draw [⟨.mv (.t 0), none, []⟩, ⟨.mv (.t 4), none, []⟩, ⟨.indexAddrS 1 (.l 0) (.l 1), none, []⟩, ⟨.load false 1 (.l 2), none, []⟩, ⟨.mv (.t 1), none, []⟩, ⟨.mv (.t 2), none, []⟩, ⟨.call (.c (.fn f_s_l1In [] [])) [(.l 3), (.l 4), (.l 5)], none, []⟩, ⟨.un .not (.l 6), none, []⟩, ⟨.mv (.l 7), none, []⟩, ⟨.mv (.t 4), some ((.l 8), false), []⟩, ⟨.bin 0 .gtr (.l 9) (.c (.int .i64 (0))), some ((.l 8), false), []⟩, ⟨.mv (.l 10), some ((.l 8), false), []⟩, ⟨.mv (.t 0), some ((.l 11), true), []⟩, ⟨.mv (.t 4), some ((.l 11), true), []⟩, ⟨.bin 0 .sub (.l 13) (.c (.int .i64 (1))), some ((.l 11), true), []⟩, ⟨.indexAddrS 1 (.l 12) (.l 14), some ((.l 11), true), []⟩, ⟨.load false 1 (.l 15), some ((.l 11), true), []⟩, ⟨.mv (.t 0), some ((.l 11), true), []⟩, ⟨.mv (.t 4), some ((.l 11), true), []⟩, ⟨.indexAddrS 1 (.l 17) (.l 18), some ((.l 11), true), []⟩, ⟨.load false 1 (.l 19), some ((.l 11), true), []⟩, ⟨.bin 0 .geq (.l 16) (.l 20), some ((.l 11), true), []⟩, ⟨.pick (.l 11) (.l 21) (.c (.bool false)), some ((.l 8), false), []⟩, ⟨.pick (.l 8) (.c (.bool true)) (.l 22), none, []⟩] [(6, 23)])
 (.cond (.t 6) (.seq (.region [⟨.mv (.c (.bool false)), none⟩] [(3, 0)])
 .ret) .skip)))
 (.region [⟨.mv (.t 4), none⟩, ⟨.bin 0 .add (.l 0) (.c (.int .i64 (1))), none⟩, ⟨.mv (.l 1), none⟩] [(4, 2)])))
def c_s_l1Rising : ACode :=
 (.seq (.region [⟨.mv (.c (.bool false)), none⟩] [(3, 0)])
 (.seq (.seq (.region [⟨.mv (.c (.int .i64 (0))), none⟩] [(4, 0)])
 (.block 0 (.loop w_s_l1Rising_1)))
 (.seq (.region [⟨.mv (.c (.bool true)), none⟩] [(3, 0)])
 .ret)))
def a_s_l1Rising : AFun := ⟨[0, 1, 2, 6, 7, 11, 37], 38, c_s_l1Rising, [.tmp 3], 1⟩
def c_s_l1Cur_among : ACode :=
 (.seq (.region [⟨.mv (.c (.int .i64 (0))), none⟩] [(2, 0)])
 (.seq (.region [⟨.mv (.t 1), none⟩, ⟨.mv (.t 0), none⟩, ⟨.mv (.t 1), none⟩, ⟨.len (.l 2), none⟩, ⟨.call (.c (.fn f_s_l1Cur_pick [] [])) [(.l 1), (.l 3)], none⟩, ⟨.indexAddrS 1 (.l 0) (.l 4), none⟩, ⟨.load false 1 (.l 5), none⟩, ⟨.mv (.l 6), none⟩] [(2, 7)])
 .ret))
def a_s_l1Cur_among : AFun := ⟨[0, 1, 4], 12, c_s_l1Cur_among, [.tmp 2], 1⟩
def c_i_isPlace : ACode :=
 (.seq (.region [⟨.mv (.c (.bool false)), none⟩] [(1, 0)])
 (.seq (.region [⟨.mv (.t 0), none⟩, ⟨.call (.c (.fn f_i_within [] [])) [(.l 0), (.c (.int .i64 (0))), (.c (.int .i64 (60)))], none⟩, ⟨.mv (.l 1), none⟩] [(1, 2)])
 .ret))
def a_i_isPlace : AFun := ⟨[0, 2], 5, c_i_isPlace, [.tmp 1], 1⟩
def c_s_l2Base : ACode :=
 (.seq (.region [⟨.mv (.c (.bool false)), none⟩] [(2, 0)])
 (.seq (.region [⟨.mv (.t 0), none⟩, ⟨.call (.c (.fn f_s_l2In [] [])) [(.l 0)], none⟩, ⟨.mv (.l 1), none⟩, ⟨.mv (.t 1), some ((.l 2), true)⟩, ⟨.call (.c (.fn f_s_l2In [] [])) [(.l 3)], some ((.l 2), true)⟩, ⟨.pick (.l 2) (.l 4) (.c (.bool false)), none⟩, ⟨.mv (.l 5), none⟩, ⟨.mv (.t 0), some ((.l 6), true)⟩, ⟨.mv (.t 1), some ((.l 6), true)⟩, ⟨.bin 0 .leq (.l 7) (.l 8), some ((.l 6), true)⟩, ⟨.pick (.l 6) (.l 9) (.c (.bool false)), none⟩, ⟨.mv (.l 10), none⟩] [(2, 11)])
 .ret))
def a_s_l2Base : AFun := ⟨[0, 1, 4], 16, c_s_l2Base, [.tmp 2], 1⟩
def c_s_l1In : ACode :=
 (.seq (.region [⟨.mv (.c (.bool false)), none⟩] [(3, 0)])
 (.seq (.region [⟨.mv (.t 0), none⟩, ⟨.mv (.t 1), none⟩, ⟨.bin 0 .geq (.l 0) (.l 1), none⟩, ⟨.mv (.l 2), none⟩, ⟨.mv (.t 0), some ((.l 3), true)⟩, ⟨.mv (.t 2), some ((.l 3), true)⟩, ⟨.bin 0 .leq (.l 4) (.l 5), some ((.l 3), true)⟩, ⟨.pick (.l 3) (.l 6) (.c (.bool false)), none⟩, ⟨.mv (.l 7), none⟩] [(3, 8)])
 .ret))
def a_s_l1In : AFun := ⟨[0, 1, 2, 6], 15, c_s_l1In, [.tmp 3], 1⟩
def c_s_l1Cur_next : ACode :=
 (.seq (.region [⟨.mv (.c (.int .i64 (0))), none⟩] [(1, 0)])
 (.seq (.region [⟨.mv (.c (.int .i64 (0))), none⟩] [(2, 0)])
 (.seq (.seq (.draw [⟨.mv (.t 0), none, []⟩, ⟨.nilCheck (.l 0), none, []⟩, ⟨.fieldAddr 1 (.l 1), none, []⟩, ⟨.load false 1 (.l 2), none, []⟩, ⟨.mv (.t 0), none, []⟩, ⟨.nilCheck (.l 4), none, []⟩, ⟨.fieldAddr 0 (.l 5), none, []⟩, ⟨.load false 1 (.l 6), none, []⟩, ⟨.len (.l 7), none, []⟩, ⟨.bin 0 .lss (.l 3) (.l 8), none, []⟩] [(3, 9)])
 (.cond (.t 3) (.draw [⟨.mv (.t 0), none, []⟩, ⟨.nilCheck (.l 0), none, []⟩, ⟨.fieldAddr 0 (.l 1), none, []⟩, ⟨.load false 1 (.l 2), none, []⟩, ⟨.mv (.t 0), none, []⟩, ⟨.nilCheck (.l 4), none, []⟩, ⟨.fieldAddr 1 (.l 5), none, []⟩, ⟨.load false 1 (.l 6), none, []⟩, ⟨.indexAddrS 1 (.l 3) (.l 7), none, []⟩, ⟨.load false 1 (.l 8), none, []⟩, ⟨.conv .i64 (.l 9), none, []⟩, ⟨.mv (.l 10), none, []⟩] [(2, 11)]) .skip))
 (.seq (.region [⟨.mv (.t 0), none⟩, ⟨.nilCheck (.l 0), none⟩, ⟨.fieldAddr 1 (.l 1), none⟩, ⟨.load false 1 (.l 2), none⟩, ⟨.bin 0 .add (.l 3) (.c (.int .i64 (1))), none⟩, ⟨.nilCheck (.l 0), none⟩, ⟨.fieldAddr 1 (.l 5), none⟩, ⟨.store 1 (.l 6) (.l 4), none⟩] [])
 (.seq (.region [⟨.mv (.t 0), none⟩, ⟨.mv (.t 0), none⟩, ⟨.nilCheck (.l 1), none⟩, ⟨.fieldAddr 2 (.l 2), none⟩, ⟨.load false 1 (.l 3), none⟩, ⟨.bin 0 .mul (.l 4) (.c (.int .u64 (6364136223846793005))), none⟩, ⟨.mv (.t 2), none⟩, ⟨.conv .u64 (.l 6), none⟩, ⟨.bin 0 .add (.l 5) (.l 7), none⟩, ⟨.bin 0 .add (.l 8) (.c (.int .u64 (462197))), none⟩, ⟨.nilCheck (.l 0), none⟩, ⟨.fieldAddr 2 (.l 10), none⟩, ⟨.store 1 (.l 11) (.l 9), none⟩] [])
 (.seq (.seq (.draw [⟨.mv (.t 0), none, []⟩, ⟨.nilCheck (.l 0), none, []⟩, ⟨.fieldAddr 1 (.l 1), none, []⟩, ⟨.load false 1 (.l 2), none, []⟩, ⟨.mv (.t 0), none, []⟩, ⟨.nilCheck (.l 4), none, []⟩, ⟨.fieldAddr 0 (.l 5), none, []⟩, ⟨.load false 1 (.l 6), none, []⟩, ⟨.len (.l 7), none, []⟩, ⟨.bin 0 .leq (.l 3) (.l 8), none, []⟩] [(4, 9)])
 (.cond (.t 4) (.seq (.region [⟨.mv (.t 2), none⟩, ⟨.mv (.l 0), none⟩] [(1, 1)])
 .ret) .skip))
 (.seq (.region [⟨.mv (.t 0), none⟩, ⟨.nilCheck (.l 0), none⟩, ⟨.fieldAddr 2 (.l 1), none⟩, ⟨.load false 1 (.l 2), none⟩, ⟨.bin 0 .shr (.l 3) (.c (.int .u64 (40))), none⟩, ⟨.bin 0 .and (.l 4) (.c (.int .u64 (255))), none⟩, ⟨.conv .i64 (.l 5), none⟩, ⟨.mv (.l 6), none⟩] [(1, 7)])
 .ret)))))))
def a_s_l1Cur_next : AFun := ⟨[0, 2, 3, 13, 53], 62, c_s_l1Cur_next, [.tmp 1], 1⟩
def c_slices_ContainsFunc_Si_Load_i_Load : ACode :=
 (.seq (.region [⟨.mv (.c (.bool false)), none⟩] [(2, 0)])
 (.seq (.region [⟨.mv (.t 0), none⟩, ⟨.mv (.t 1), none⟩, ⟨.call (.c (.fn f_slices_IndexFunc_Si_Load_i_Load [] [])) [(.l 0), (.l 1)], none⟩, ⟨.bin 0 .geq (.l 2) (.c (.int .i64 (0))), none⟩, ⟨.mv (.l 3), none⟩] [(2, 4)])
 .ret))
def a_slices_ContainsFunc_Si_Load_i_Load : AFun := ⟨[0, 1, 4], 9, c_slices_ContainsFunc_Si_Load_i_Load, [.tmp 2], 1⟩
def c_i_IsRow_1 : ACode :=
 (.seq (.region [⟨.box (.t 0), none⟩, ⟨.mv (.c (.bool false)), none⟩] [(1, 0), (2, 1)])
 (.seq (.region [⟨.fieldAddr 0 (.t 1), none⟩, ⟨.load false 1 (.l 0), none⟩, ⟨.call (.c (.fn f_i_isPlace [] [])) [(.l 1)], none⟩, ⟨.un .not (.l 2), none⟩, ⟨.mv (.l 3), none⟩, ⟨.fieldAddr 1 (.t 1), some ((.l 4), false)⟩, ⟨.load false 1 (.l 5), some ((.l 4), false)⟩, ⟨.call (.c (.fn f_i_isWeight [] [])) [(.l 6)], some ((.l 4), false)⟩, ⟨.un .not (.l 7), some ((.l 4), false)⟩, ⟨.pick (.l 4) (.c (.bool true)) (.l 8), none⟩, ⟨.mv (.l 9), none⟩] [(2, 10)])
 .ret))
def a_i_IsRow_1 : AFun := ⟨[0, 1, 2], 13, c_i_IsRow_1, [.tmp 2], 1⟩
def c_i_isWeight : ACode :=
 (.seq (.region [⟨.mv (.c (.bool false)), none⟩] [(1, 0)])
 (.seq (.region [⟨.mv (.t 0), none⟩, ⟨.call (.c (.fn f_i_within [] [])) [(.l 0), (.c (.int .i64 (1))), (.c (.int .i64 (99)))], none⟩, ⟨.mv (.l 1), none⟩] [(1, 2)])
 .ret))
def a_i_isWeight : AFun := ⟨[0, 2], 5, c_i_isWeight, [.tmp 1], 1⟩
def c_s_l2In : ACode :=
 (.seq (.region [⟨.mv (.c (.bool false)), none⟩] [(1, 0)])
 (.seq (.region [⟨.mv (.t 0), none⟩, ⟨.call (.c (.fn f_s_l1In [] [])) [(.l 0), (.c (.int .i64 (0))), (.c (.int .i64 (60)))], none⟩, ⟨.mv (.l 1), none⟩] [(1, 2)])
 .ret))
def a_s_l2In : AFun := ⟨[0, 2], 5, c_s_l2In, [.tmp 1], 1⟩
def w_slices_IndexFunc_Si_Load_i_Load_1 : ACode :=
 (.seq (.region [⟨.bin 0 .lss (.t 5) (.t 4), none⟩] [(6, 0)])
 (.seq (.cond (.t 6) .skip (.exit 0))
 (.seq (.block 1 (.seq (.region [⟨.mv (.t 5), none⟩, ⟨.mv (.l 0), none⟩] [(3, 1)])
 (.seq (.region [⟨.mv (.t 1), none⟩, ⟨.mv (.t 0), none⟩, ⟨.mv (.t 3), none⟩, ⟨.indexAddrS 2 (.l 1) (.l 2), none⟩, ⟨.load true 2 (.l 3), none⟩, ⟨.call (.l 0) [(.l 4)], none⟩] [(7, 5)])
 (.cond (.t 7) (.seq (.region [⟨.mv (.t 3), none⟩, ⟨.mv (.l 0), none⟩] [(2, 1)])
 .ret) .skip))))
 (.region [⟨.bin 0 .add (.t 5) (.c (.int .i64 (1))), none⟩, ⟨.mv (.l 0), none⟩] [(5, 1)]))))
def c_slices_IndexFunc_Si_Load_i_Load : ACode :=
 (.seq (.region [⟨.mv (.c (.int .i64 (0))), none⟩] [(2, 0)])
 (.seq (.seq (.region [⟨.mv (.t 0), none⟩, ⟨.len (.l 0), none⟩, ⟨.mv (.c (.int .i64 (0))), none⟩] [(4, 1), (5, 2)])
 (.block 0 (.loop w_slices_IndexFunc_Si_Load_i_Load_1)))
 (.seq (.region [⟨.mv (.c (.int .i64 (-1))), none⟩] [(2, 0)])
 .ret)))
def a_slices_IndexFunc_Si_Load_i_Load : AFun := ⟨[0, 1, 4, 5, 7, 8, 9, 16], 19, c_slices_IndexFunc_Si_Load_i_Load, [.tmp 2], 1⟩
def tab : List (FuncId × AFun) :=
 [(f_gosem_cut_init, a_gosem_cut_init), (f_l_FnExactFirstTip, a_l_FnExactFirstTip), (f_l_FnExactHardestItem, a_l_FnExactHardestItem), (f_l_FnExactUnloadOrder, a_l_FnExactUnloadOrder), (f_l_FnExactSafeOrder, a_l_FnExactSafeOrder), (f_l_FnExactSafeStep, a_l_FnExactSafeStep), (f_l_FnRafts, a_l_FnRafts), (f_l_FnSafeOrders, a_l_FnSafeOrders), (f_l_szLoadS, a_l_szLoadS), (f_s_FirstTip, a_s_FirstTip), (f_l_toRaft, a_l_toRaft), (f_l_toLoadS, a_l_toLoadS), (f_l_toIntS, a_l_toIntS), (f_i_FirstTip, a_i_FirstTip), (f_l_eqLoadS, a_l_eqLoadS), (f_l_eqIntS, a_l_eqIntS), (f_s_HardestItem, a_s_HardestItem), (f_i_HardestItem, a_i_HardestItem), (f_s_UnloadOrder, a_s_UnloadOrder), (f_i_UnloadOrder, a_i_UnloadOrder), (f_l_markLoadS, a_l_markLoadS), (f_l_markIntS, a_l_markIntS), (f_l_heldIntS, a_l_heldIntS), (f_s_SafeOrder, a_s_SafeOrder), (f_i_SafeOrder, a_i_SafeOrder), (f_s_SafeStep, a_s_SafeStep), (f_i_SafeStep, a_i_SafeStep), (f_l_rBig, a_l_rBig), (f_s_DrawRaftSide, a_s_DrawRaftSide), (f_i_RaftSide, a_i_RaftSide), (f_s_RaftSide, a_s_RaftSide), (f_i_RaftReserve, a_i_RaftReserve), (f_s_RaftReserve, a_s_RaftReserve), (f_i_SafeSets, a_i_SafeSets), (f_s_SafeSets, a_s_SafeSets), (f_s_DrawIsSafeOrder, a_s_DrawIsSafeOrder), (f_i_IsSafeOrder, a_i_IsSafeOrder), (f_s_IsSafeOrder, a_s_IsSafeOrder), (f_s_DrawIsRaft, a_s_DrawIsRaft), (f_i_IsRaft, a_i_IsRaft), (f_s_IsRaft, a_s_IsRaft), (f_l_rHas, a_l_rHas), (f_s_DrawSafeOrder, a_s_DrawSafeOrder), (f_l_rInts, a_l_rInts), (f_i_CountSafe, a_i_CountSafe), (f_s_CountSafe, a_s_CountSafe), (f_i_LeastOwn, a_i_LeastOwn), (f_s_LeastOwn, a_s_LeastOwn), (f_i_PairSteps, a_i_PairSteps), (f_s_PairSteps, a_s_PairSteps), (f_s_DrawSafeStep, a_s_DrawSafeStep), (f_s_l10Order, a_s_l10Order), (f_s_l10Tip, a_s_l10Tip), (f_l_toLoad, a_l_toLoad), (f_i_areCargo, a_i_areCargo), (f_i_isOrder, a_i_isOrder), (f_i_Raft_firstTip, a_i_Raft_firstTip), (f_l_eqLoad, a_l_eqLoad), (f_s_l10Cargo, a_s_l10Cargo), (f_s_l10Ways, a_s_l10Ways), (f_i_Raft_waysOf, a_i_Raft_waysOf), (f_slices_Clone_Si_Load_i_Load, a_slices_Clone_Si_Load_i_Load), (f_s_l10Back, a_s_l10Back), (f_i_Raft_isSafe, a_i_Raft_isSafe), (f_i_stepsFrom, a_i_stepsFrom), (f_s_l10Code, a_s_l10Code), (f_s_l10Safe, a_s_l10Safe), (f_i_bitsOf, a_i_bitsOf), (f_s_l1Cur_raft, a_s_l1Cur_raft), (f_s_l1Cur_cargo, a_s_l1Cur_cargo), (f_s_l1Cur_setOf, a_s_l1Cur_setOf), (f_s_l10Reserve, a_s_l10Reserve), (f_i_Raft_reserve, a_i_Raft_reserve), (f_s_l1Cur_one, a_s_l1Cur_one), (f_s_l1Cur_orderFor, a_s_l1Cur_orderFor), (f_i_isBase, a_i_isBase), (f_i_within, a_i_within), (f_s_l10Raft, a_s_l10Raft), (f_s_DrawSafeSets, a_s_DrawSafeSets), (f_s_l1Most, a_s_l1Most), (f_s_l1Cur_pick, a_s_l1Cur_pick), (f_s_l1Put, a_s_l1Put), (f_s_l1Has, a_s_l1Has), (f_i_IsRow, a_i_IsRow), (f_s_l2Row, a_s_l2Row), (f_s_l1Rising, a_s_l1Rising), (f_s_l1Cur_among, a_s_l1Cur_among), (f_i_isPlace, a_i_isPlace), (f_s_l2Base, a_s_l2Base), (f_s_l1In, a_s_l1In), (f_s_l1Cur_next, a_s_l1Cur_next), (f_slices_ContainsFunc_Si_Load_i_Load, a_slices_ContainsFunc_Si_Load_i_Load), (f_i_IsRow_1, a_i_IsRow_1), (f_i_isWeight, a_i_isWeight), (f_s_l2In, a_s_l2In), (f_slices_IndexFunc_Si_Load_i_Load, a_slices_IndexFunc_Si_Load_i_Load)]
def T : Table := fun f => tab.lookup f
theorem t_gosem_cut_init : T f_gosem_cut_init = some a_gosem_cut_init := rfl
theorem t_l_FnExactFirstTip : T f_l_FnExactFirstTip = some a_l_FnExactFirstTip := rfl
theorem t_l_FnExactHardestItem : T f_l_FnExactHardestItem = some a_l_FnExactHardestItem := rfl
theorem t_l_FnExactUnloadOrder : T f_l_FnExactUnloadOrder = some a_l_FnExactUnloadOrder := rfl
theorem t_l_FnExactSafeOrder : T f_l_FnExactSafeOrder = some a_l_FnExactSafeOrder := rfl
theorem t_l_FnExactSafeStep : T f_l_FnExactSafeStep = some a_l_FnExactSafeStep := rfl
theorem t_l_FnRafts : T f_l_FnRafts = some a_l_FnRafts := rfl
theorem t_l_FnSafeOrders : T f_l_FnSafeOrders = some a_l_FnSafeOrders := rfl
theorem t_l_szLoadS : T f_l_szLoadS = some a_l_szLoadS := rfl
theorem t_s_FirstTip : T f_s_FirstTip = some a_s_FirstTip := rfl
theorem t_l_toRaft : T f_l_toRaft = some a_l_toRaft := rfl
theorem t_l_toLoadS : T f_l_toLoadS = some a_l_toLoadS := rfl
theorem t_l_toIntS : T f_l_toIntS = some a_l_toIntS := rfl
theorem t_i_FirstTip : T f_i_FirstTip = some a_i_FirstTip := rfl
theorem t_l_eqLoadS : T f_l_eqLoadS = some a_l_eqLoadS := rfl
theorem t_l_eqIntS : T f_l_eqIntS = some a_l_eqIntS := rfl
theorem t_s_HardestItem : T f_s_HardestItem = some a_s_HardestItem := rfl
theorem t_i_HardestItem : T f_i_HardestItem = some a_i_HardestItem := rfl
theorem t_s_UnloadOrder : T f_s_UnloadOrder = some a_s_UnloadOrder := rfl
theorem t_i_UnloadOrder : T f_i_UnloadOrder = some a_i_UnloadOrder := rfl
theorem t_l_markLoadS : T f_l_markLoadS = some a_l_markLoadS := rfl
theorem t_l_markIntS : T f_l_markIntS = some a_l_markIntS := rfl
theorem t_l_heldIntS : T f_l_heldIntS = some a_l_heldIntS := rfl
theorem t_s_SafeOrder : T f_s_SafeOrder = some a_s_SafeOrder := rfl
theorem t_i_SafeOrder : T f_i_SafeOrder = some a_i_SafeOrder := rfl
theorem t_s_SafeStep : T f_s_SafeStep = some a_s_SafeStep := rfl
theorem t_i_SafeStep : T f_i_SafeStep = some a_i_SafeStep := rfl
theorem t_l_rBig : T f_l_rBig = some a_l_rBig := rfl
theorem t_s_DrawRaftSide : T f_s_DrawRaftSide = some a_s_DrawRaftSide := rfl
theorem t_i_RaftSide : T f_i_RaftSide = some a_i_RaftSide := rfl
theorem t_s_RaftSide : T f_s_RaftSide = some a_s_RaftSide := rfl
theorem t_i_RaftReserve : T f_i_RaftReserve = some a_i_RaftReserve := rfl
theorem t_s_RaftReserve : T f_s_RaftReserve = some a_s_RaftReserve := rfl
theorem t_i_SafeSets : T f_i_SafeSets = some a_i_SafeSets := rfl
theorem t_s_SafeSets : T f_s_SafeSets = some a_s_SafeSets := rfl
theorem t_s_DrawIsSafeOrder : T f_s_DrawIsSafeOrder = some a_s_DrawIsSafeOrder := rfl
theorem t_i_IsSafeOrder : T f_i_IsSafeOrder = some a_i_IsSafeOrder := rfl
theorem t_s_IsSafeOrder : T f_s_IsSafeOrder = some a_s_IsSafeOrder := rfl
theorem t_s_DrawIsRaft : T f_s_DrawIsRaft = some a_s_DrawIsRaft := rfl
theorem t_i_IsRaft : T f_i_IsRaft = some a_i_IsRaft := rfl
theorem t_s_IsRaft : T f_s_IsRaft = some a_s_IsRaft := rfl
theorem t_l_rHas : T f_l_rHas = some a_l_rHas := rfl
theorem t_s_DrawSafeOrder : T f_s_DrawSafeOrder = some a_s_DrawSafeOrder := rfl
theorem t_l_rInts : T f_l_rInts = some a_l_rInts := rfl
theorem t_i_CountSafe : T f_i_CountSafe = some a_i_CountSafe := rfl
theorem t_s_CountSafe : T f_s_CountSafe = some a_s_CountSafe := rfl
theorem t_i_LeastOwn : T f_i_LeastOwn = some a_i_LeastOwn := rfl
theorem t_s_LeastOwn : T f_s_LeastOwn = some a_s_LeastOwn := rfl
theorem t_i_PairSteps : T f_i_PairSteps = some a_i_PairSteps := rfl
theorem t_s_PairSteps : T f_s_PairSteps = some a_s_PairSteps := rfl
theorem t_s_DrawSafeStep : T f_s_DrawSafeStep = some a_s_DrawSafeStep := rfl
theorem t_s_l10Order : T f_s_l10Order = some a_s_l10Order := rfl
theorem t_s_l10Tip : T f_s_l10Tip = some a_s_l10Tip := rfl
theorem t_l_toLoad : T f_l_toLoad = some a_l_toLoad := rfl
theorem t_i_areCargo : T f_i_areCargo = some a_i_areCargo := rfl
theorem t_i_isOrder : T f_i_isOrder = some a_i_isOrder := rfl
theorem t_i_Raft_firstTip : T f_i_Raft_firstTip = some a_i_Raft_firstTip := rfl
theorem t_l_eqLoad : T f_l_eqLoad = some a_l_eqLoad := rfl
theorem t_s_l10Cargo : T f_s_l10Cargo = some a_s_l10Cargo := rfl
theorem t_s_l10Ways : T f_s_l10Ways = some a_s_l10Ways := rfl
theorem t_i_Raft_waysOf : T f_i_Raft_waysOf = some a_i_Raft_waysOf := rfl
theorem t_slices_Clone_Si_Load_i_Load : T f_slices_Clone_Si_Load_i_Load = some a_slices_Clone_Si_Load_i_Load := rfl
theorem t_s_l10Back : T f_s_l10Back = some a_s_l10Back := rfl
theorem t_i_Raft_isSafe : T f_i_Raft_isSafe = some a_i_Raft_isSafe := rfl
theorem t_i_stepsFrom : T f_i_stepsFrom = some a_i_stepsFrom := rfl
theorem t_s_l10Code : T f_s_l10Code = some a_s_l10Code := rfl
theorem t_s_l10Safe : T f_s_l10Safe = some a_s_l10Safe := rfl
theorem t_i_bitsOf : T f_i_bitsOf = some a_i_bitsOf := rfl
theorem t_s_l1Cur_raft : T f_s_l1Cur_raft = some a_s_l1Cur_raft := rfl
theorem t_s_l1Cur_cargo : T f_s_l1Cur_cargo = some a_s_l1Cur_cargo := rfl
theorem t_s_l1Cur_setOf : T f_s_l1Cur_setOf = some a_s_l1Cur_setOf := rfl
theorem t_s_l10Reserve : T f_s_l10Reserve = some a_s_l10Reserve := rfl
theorem t_i_Raft_reserve : T f_i_Raft_reserve = some a_i_Raft_reserve := rfl
theorem t_s_l1Cur_one : T f_s_l1Cur_one = some a_s_l1Cur_one := rfl
theorem t_s_l1Cur_orderFor : T f_s_l1Cur_orderFor = some a_s_l1Cur_orderFor := rfl
theorem t_i_isBase : T f_i_isBase = some a_i_isBase := rfl
theorem t_i_within : T f_i_within = some a_i_within := rfl
theorem t_s_l10Raft : T f_s_l10Raft = some a_s_l10Raft := rfl
theorem t_s_DrawSafeSets : T f_s_DrawSafeSets = some a_s_DrawSafeSets := rfl
theorem t_s_l1Most : T f_s_l1Most = some a_s_l1Most := rfl
theorem t_s_l1Cur_pick : T f_s_l1Cur_pick = some a_s_l1Cur_pick := rfl
theorem t_s_l1Put : T f_s_l1Put = some a_s_l1Put := rfl
theorem t_s_l1Has : T f_s_l1Has = some a_s_l1Has := rfl
theorem t_i_IsRow : T f_i_IsRow = some a_i_IsRow := rfl
theorem t_s_l2Row : T f_s_l2Row = some a_s_l2Row := rfl
theorem t_s_l1Rising : T f_s_l1Rising = some a_s_l1Rising := rfl
theorem t_s_l1Cur_among : T f_s_l1Cur_among = some a_s_l1Cur_among := rfl
theorem t_i_isPlace : T f_i_isPlace = some a_i_isPlace := rfl
theorem t_s_l2Base : T f_s_l2Base = some a_s_l2Base := rfl
theorem t_s_l1In : T f_s_l1In = some a_s_l1In := rfl
theorem t_s_l1Cur_next : T f_s_l1Cur_next = some a_s_l1Cur_next := rfl
theorem t_slices_ContainsFunc_Si_Load_i_Load : T f_slices_ContainsFunc_Si_Load_i_Load = some a_slices_ContainsFunc_Si_Load_i_Load := rfl
theorem t_i_IsRow_1 : T f_i_IsRow_1 = some a_i_IsRow_1 := rfl
theorem t_i_isWeight : T f_i_isWeight = some a_i_isWeight := rfl
theorem t_s_l2In : T f_s_l2In = some a_s_l2In := rfl
theorem t_slices_IndexFunc_Si_Load_i_Load : T f_slices_IndexFunc_Si_Load_i_Load = some a_slices_IndexFunc_Si_Load_i_Load := rfl
end Go.Proofs.Ytlcklonakjhoiaa.Slim
