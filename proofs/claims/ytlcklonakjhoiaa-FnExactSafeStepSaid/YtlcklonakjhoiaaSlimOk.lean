/- The slim functions are the program's. -/
import Derived.Test.YtlcklonakjhoiaaSlimFns
import Derived.Test.YtlcklonakjhoiaaChecked
namespace Go.Proofs.Ytlcklonakjhoiaa.Slim
open Go
theorem ok_gosem_cut_init : compileFn Try.prog [] 1 [] Try.f2 = some a_gosem_cut_init := by kernel_rfl
theorem ok_l_FnExactFirstTip : compileFn Try.prog [0, 1, 2, 3, 6, 7, 8, 9, 10, 11, 12, 13, 16, 21, 51, 56, 61] 1 [] Try.f3 = some a_l_FnExactFirstTip := by kernel_rfl
theorem ok_l_FnExactHardestItem : compileFn Try.prog [0, 1, 2, 4, 5, 6, 7, 8, 9, 10, 15, 40, 45] 1 [] Try.f4 = some a_l_FnExactHardestItem := by kernel_rfl
theorem ok_l_FnExactUnloadOrder : compileFn Try.prog [0, 1, 2, 4, 5, 6, 7, 8, 9, 10, 11, 12, 13, 14, 15, 20, 46, 51, 67, 75, 78, 95, 100, 103] 1 [] Try.f5 = some a_l_FnExactUnloadOrder := by kernel_rfl
theorem ok_l_FnExactSafeOrder : compileFn Try.prog [0, 1, 2, 4, 5, 6, 7, 8, 9, 10, 11, 12, 13, 14, 15, 20, 46, 51, 67, 75, 78, 95, 100, 103] 1 [] Try.f6 = some a_l_FnExactSafeOrder := by kernel_rfl
theorem ok_l_FnExactSafeStep : compileFn Try.prog [0, 1, 2, 3, 6, 7, 8, 9, 10, 11, 12, 13, 14, 15, 16, 17, 18, 21, 26, 57, 62, 67, 86, 94, 97, 116, 121, 124] 1 [] Try.f7 = some a_l_FnExactSafeStep := by kernel_rfl
theorem ok_l_FnRafts : compileFn Try.prog [0, 2, 3, 4, 5, 6, 7, 8, 9, 10, 11, 12, 13, 14, 15, 16, 17, 18, 19, 20, 21, 22, 23, 24, 25, 26, 27, 28, 29, 30, 31, 32, 33, 34, 35, 36, 37, 38, 39, 40, 41, 42, 43, 45, 73, 107, 134, 162, 193, 214, 215, 220, 227, 234, 247, 249, 254, 256, 260, 267, 274, 287, 293] 1 [(26, [0, 2, 1, 3, 4, 5, 6, 7, 8, 9, 10, 11, 12, 13, 14, 15, 16, 17, 18])] Try.f8 = some a_l_FnRafts := by kernel_rfl
theorem ok_l_FnSafeOrders : compileFn Try.prog [0, 2, 3, 4, 5, 6, 7, 8, 9, 10, 11, 12, 13, 14, 15, 16, 17, 18, 19, 20, 21, 22, 23, 24, 25, 26, 27, 28, 29, 30, 31, 32, 33, 34, 35, 36, 37, 38, 39, 40, 41, 42, 43, 44, 45, 46, 47, 48, 50, 76, 105, 131, 151, 178, 198, 227, 231, 237, 255, 257, 270, 312, 339] 1 [(55, [0, 1, 2, 3, 4, 5, 6, 7, 8, 9, 10, 11, 12, 13, 14, 15, 16, 17])] Try.f9 = some a_l_FnSafeOrders := by kernel_rfl
theorem ok_l_szLoadS : compileFn Try.prog [0, 1, 4, 10] 1 [] Try.f10 = some a_l_szLoadS := by kernel_rfl
theorem ok_s_FirstTip : compileFn Try.prog [0, 1, 2, 3, 6, 7, 19] 1 [] Try.f11 = some a_s_FirstTip := by kernel_rfl
theorem ok_l_toRaft : compileFn Try.prog [0, 1, 2, 3] 1 [] Try.f12 = some a_l_toRaft := by kernel_rfl
theorem ok_l_toLoadS : compileFn Try.prog [0, 2, 3, 4, 11] 2 [] Try.f13 = some a_l_toLoadS := by kernel_rfl
theorem ok_l_toIntS : compileFn Try.prog [0, 2, 3, 4, 11] 2 [] Try.f14 = some a_l_toIntS := by kernel_rfl
theorem ok_i_FirstTip : compileFn Try.prog [0, 1, 2, 3, 6, 7, 8, 18] 1 [] Try.f15 = some a_i_FirstTip := by kernel_rfl
theorem ok_l_eqLoadS : compileFn Try.prog [0, 1, 4, 5, 10, 14, 26] 1 [(6, [0, 1, 2, 3, 4, 5, 6, 7, 8, 9])] Try.f16 = some a_l_eqLoadS := by kernel_rfl
theorem ok_l_eqIntS : compileFn Try.prog [0, 1, 4, 5, 10, 14, 25] 1 [(6, [0, 1, 2, 3, 4, 5, 6, 7, 8])] Try.f17 = some a_l_eqIntS := by kernel_rfl
theorem ok_s_HardestItem : compileFn Try.prog [0, 1, 2, 4, 5, 6, 7, 8, 9, 10, 19, 23, 43] 1 [(7, [1, 2, 3, 5, 6, 7, 8, 0, 4, 9, 10])] Try.f18 = some a_s_HardestItem := by kernel_rfl
theorem ok_i_HardestItem : compileFn Try.prog [0, 1, 2, 4, 5, 6, 7, 8, 9, 18, 20, 21, 22, 36] 1 [(7, [0, 1, 3, 4, 5, 2, 6, 7, 8, 9, 10])] Try.f19 = some a_i_HardestItem := by kernel_rfl
theorem ok_s_UnloadOrder : compileFn Try.prog [0, 1, 2, 4, 5, 6, 7, 8, 9, 14, 27, 30, 45] 2 [(4, [0, 1, 3, 4, 5, 6, 2, 7, 8])] Try.f20 = some a_s_UnloadOrder := by kernel_rfl
theorem ok_i_UnloadOrder : compileFn Try.prog [0, 1, 2, 4, 5, 6, 7, 8, 9, 10, 11, 12, 16, 25, 26, 27, 33, 40, 41, 42, 57, 67, 71, 73, 74, 75, 90] 2 [] Try.f21 = some a_i_UnloadOrder := by kernel_rfl
theorem ok_l_markLoadS : compileFn Try.prog [0, 1, 4, 5, 9] 1 [] Try.f22 = some a_l_markLoadS := by kernel_rfl
theorem ok_l_markIntS : compileFn Try.prog [0, 1, 4, 5, 9] 1 [] Try.f23 = some a_l_markIntS := by kernel_rfl
theorem ok_l_heldIntS : compileFn Try.prog [0, 1, 4, 5, 9, 17] 1 [] Try.f24 = some a_l_heldIntS := by kernel_rfl
theorem ok_s_SafeOrder : compileFn Try.prog [0, 1, 2, 4, 5, 6, 7, 8, 9, 14, 22, 28, 43] 2 [] Try.f25 = some a_s_SafeOrder := by kernel_rfl
theorem ok_i_SafeOrder : compileFn Try.prog [0, 1, 2, 4, 5, 6, 7, 8, 9, 13, 21, 26] 2 [] Try.f26 = some a_i_SafeOrder := by kernel_rfl
theorem ok_s_SafeStep : compileFn Try.prog [0, 1, 2, 3, 6, 7, 8, 9, 10, 11, 12, 29, 37, 54] 2 [] Try.f27 = some a_s_SafeStep := by kernel_rfl
theorem ok_i_SafeStep : compileFn Try.prog [0, 1, 2, 3, 6, 7, 8, 9, 30] 2 [] Try.f28 = some a_i_SafeStep := by kernel_rfl
theorem ok_l_rBig : compileFn Try.prog [0, 2] 1 [] Try.f29 = some a_l_rBig := by kernel_rfl
theorem ok_s_DrawRaftSide : compileFn Try.prog [0, 2, 3, 4, 5, 6, 7] 2 [(3, [0, 1, 2, 3, 4, 5, 6, 7])] Try.f30 = some a_s_DrawRaftSide := by kernel_rfl
theorem ok_i_RaftSide : compileFn Try.prog [0, 1, 2, 3, 6, 7, 8, 9, 10, 19, 23] 1 [] Try.f31 = some a_i_RaftSide := by kernel_rfl
theorem ok_s_RaftSide : compileFn Try.prog [0, 1, 2, 3, 6, 7, 8, 9, 10, 11, 20, 29, 31] 1 [] Try.f32 = some a_s_RaftSide := by kernel_rfl
theorem ok_i_RaftReserve : compileFn Try.prog [0, 1, 2, 3, 6, 7, 8, 9, 10, 11, 12, 26] 1 [] Try.f33 = some a_i_RaftReserve := by kernel_rfl
theorem ok_s_RaftReserve : compileFn Try.prog [0, 1, 2, 3, 6, 7, 8, 9, 10, 11, 12, 21] 1 [] Try.f34 = some a_s_RaftReserve := by kernel_rfl
theorem ok_i_SafeSets : compileFn Try.prog [0, 1, 2, 4, 5, 6, 7, 11, 14, 15, 16, 21] 1 [] Try.f35 = some a_i_SafeSets := by kernel_rfl
theorem ok_s_SafeSets : compileFn Try.prog [0, 1, 2, 4, 5, 6, 7, 11, 16, 22] 1 [] Try.f36 = some a_s_SafeSets := by kernel_rfl
theorem ok_s_DrawIsSafeOrder : compileFn Try.prog [0, 2, 3, 4, 5, 6, 7, 8, 9, 27] 2 [(6, [0, 1, 2, 3, 4, 5, 6, 7])] Try.f37 = some a_s_DrawIsSafeOrder := by kernel_rfl
theorem ok_i_IsSafeOrder : compileFn Try.prog [0, 1, 2, 3, 6, 7, 17] 1 [] Try.f38 = some a_i_IsSafeOrder := by kernel_rfl
theorem ok_s_IsSafeOrder : compileFn Try.prog [0, 1, 2, 3, 6, 7, 12] 1 [] Try.f39 = some a_s_IsSafeOrder := by kernel_rfl
theorem ok_s_DrawIsRaft : compileFn Try.prog [0, 2, 3] 1 [] Try.f40 = some a_s_DrawIsRaft := by kernel_rfl
theorem ok_i_IsRaft : compileFn Try.prog [0, 1, 2] 1 [] Try.f41 = some a_i_IsRaft := by kernel_rfl
theorem ok_s_IsRaft : compileFn Try.prog [0, 1, 2] 1 [] Try.f42 = some a_s_IsRaft := by kernel_rfl
theorem ok_l_rHas : compileFn Try.prog [0, 1, 4, 5, 9, 17] 1 [] Try.f43 = some a_l_rHas := by kernel_rfl
theorem ok_s_DrawSafeOrder : compileFn Try.prog [0, 2, 3] 2 [] Try.f44 = some a_s_DrawSafeOrder := by kernel_rfl
theorem ok_l_rInts : compileFn Try.prog [0, 1, 4, 5, 10, 14, 25] 1 [(6, [0, 1, 2, 3, 4, 5, 6, 7, 8])] Try.f45 = some a_l_rInts := by kernel_rfl
theorem ok_i_CountSafe : compileFn Try.prog [0, 1, 2, 4, 5, 9] 1 [] Try.f46 = some a_i_CountSafe := by kernel_rfl
theorem ok_s_CountSafe : compileFn Try.prog [0, 1, 2, 4, 5, 9] 1 [] Try.f47 = some a_s_CountSafe := by kernel_rfl
theorem ok_i_LeastOwn : compileFn Try.prog [0, 1, 2, 4, 5, 6, 10, 12, 25] 1 [] Try.f48 = some a_i_LeastOwn := by kernel_rfl
theorem ok_s_LeastOwn : compileFn Try.prog [0, 1, 2, 4, 5, 6, 10, 12, 25] 1 [] Try.f49 = some a_s_LeastOwn := by kernel_rfl
theorem ok_i_PairSteps : compileFn Try.prog [0, 1, 2, 4, 5, 6, 7, 8, 9, 10, 11, 15, 25, 35, 37, 38, 39, 42, 43, 44, 57, 85, 97] 1 [(17, [0, 1, 2, 3, 4, 5, 6, 7, 8, 9, 10])] Try.f50 = some a_i_PairSteps := by kernel_rfl
theorem ok_s_PairSteps : compileFn Try.prog [0, 1, 2, 4, 5, 6, 7, 8, 9, 10, 11, 12, 16, 25, 39, 44, 65, 84] 1 [(15, [0, 1, 2, 3, 4, 5]), (17, [0, 1, 2, 3, 4, 5, 6, 7, 8, 9, 10, 11, 12, 13, 14, 15, 16, 17, 18])] Try.f51 = some a_s_PairSteps := by kernel_rfl
theorem ok_s_DrawSafeStep : compileFn Try.prog [0, 2, 3, 4, 5, 6, 7, 8, 9, 10, 11, 34, 41] 2 [(11, [0, 1, 2, 3, 4, 5, 6, 7])] Try.f52 = some a_s_DrawSafeStep := by kernel_rfl
theorem ok_s_l10Order : compileFn Try.prog [0, 1, 2, 3, 6, 7, 18, 22, 28] 1 [] Try.f53 = some a_s_l10Order := by kernel_rfl
theorem ok_s_l10Tip : compileFn Try.prog [0, 1, 2, 3, 6, 7, 8, 12, 26] 1 [] Try.f54 = some a_s_l10Tip := by kernel_rfl
theorem ok_l_toLoad : compileFn Try.prog [0, 1, 2, 3] 1 [] Try.f55 = some a_l_toLoad := by kernel_rfl
theorem ok_i_areCargo : compileFn Try.prog [0, 1, 2, 4] 1 [] Try.f56 = some a_i_areCargo := by kernel_rfl
theorem ok_i_isOrder : compileFn Try.prog [0, 1, 4, 5, 7, 8, 9, 10, 11, 26] 1 [] Try.f57 = some a_i_isOrder := by kernel_rfl
theorem ok_i_Raft_firstTip : compileFn Try.prog [0, 1, 2, 3, 6, 7, 8, 9, 10, 11, 12, 13, 25] 1 [] Try.f58 = some a_i_Raft_firstTip := by kernel_rfl
theorem ok_l_eqLoad : compileFn Try.prog [0, 1, 2, 3, 4, 9, 14] 1 [] Try.f59 = some a_l_eqLoad := by kernel_rfl
theorem ok_s_l10Cargo : compileFn Try.prog [0, 1, 2, 4] 1 [] Try.f60 = some a_s_l10Cargo := by kernel_rfl
theorem ok_s_l10Ways : compileFn Try.prog [0, 1, 2, 4, 5, 6, 7, 8, 18, 25, 28, 35, 42] 2 [(13, [0, 1, 2, 3, 4, 5, 6, 7, 8, 9, 10, 11, 12, 13, 14, 15])] Try.f61 = some a_s_l10Ways := by kernel_rfl
theorem ok_i_Raft_waysOf : compileFn Try.prog [0, 1, 2, 4, 5, 6, 7, 8, 18, 22, 23, 24, 30, 45, 51] 2 [(10, [0, 1, 2, 3, 4, 5, 6, 7, 8, 9, 10, 11, 12, 13])] Try.f62 = some a_i_Raft_waysOf := by kernel_rfl
theorem ok_slices_Clone_Si_Load_i_Load : compileFn Try.prog [0, 2, 4] 2 [] Try.f64 = some a_slices_Clone_Si_Load_i_Load := by kernel_rfl
theorem ok_s_l10Back : compileFn Try.prog [0, 1, 2, 4, 5, 6, 7, 8, 16, 24] 2 [] Try.f65 = some a_s_l10Back := by kernel_rfl
theorem ok_i_Raft_isSafe : compileFn Try.prog [0, 1, 2, 3, 6, 7, 8] 1 [] Try.f66 = some a_i_Raft_isSafe := by kernel_rfl
theorem ok_i_stepsFrom : compileFn Try.prog [0, 1, 2, 6, 7, 8, 11, 12, 13, 29] 2 [] Try.f67 = some a_i_stepsFrom := by kernel_rfl
theorem ok_s_l10Code : compileFn Try.prog [0, 1, 2, 3, 6, 7, 8, 9, 21, 25] 1 [] Try.f68 = some a_s_l10Code := by kernel_rfl
theorem ok_s_l10Safe : compileFn Try.prog [0, 1, 2, 3, 6, 7, 8] 1 [] Try.f69 = some a_s_l10Safe := by kernel_rfl
theorem ok_i_bitsOf : compileFn Try.prog [0, 1, 4, 5, 6, 7, 8, 9, 10, 11, 12, 34] 1 [] Try.f70 = some a_i_bitsOf := by kernel_rfl
theorem ok_s_l1Cur_raft : compileFn Try.prog [0, 2, 3, 4, 20, 21, 30, 36] 1 [] Try.f71 = some a_s_l1Cur_raft := by kernel_rfl
theorem ok_s_l1Cur_cargo : compileFn Try.prog [0, 2, 3, 4, 5, 11, 29, 31, 32, 43, 54, 58] 2 [] Try.f72 = some a_s_l1Cur_cargo := by kernel_rfl
theorem ok_s_l1Cur_setOf : compileFn Try.prog [0, 1, 4, 5, 6, 15, 19, 25] 2 [] Try.f73 = some a_s_l1Cur_setOf := by kernel_rfl
theorem ok_s_l10Reserve : compileFn Try.prog [0, 1, 2, 3, 6, 7, 8, 9, 10, 30, 37] 1 [(1, [0, 1, 2, 3, 4, 5, 6, 7, 8, 9, 10, 11, 12, 13, 14, 15, 16, 17]), (6, [0, 1, 2, 3, 4, 5, 6, 7, 8, 9, 10, 11, 12, 13, 14, 15, 16, 17]), (7, [0, 1, 2, 3, 4, 5, 6, 7, 8, 9, 10, 11, 12, 13, 14, 15, 16, 17])] Try.f74 = some a_s_l10Reserve := by kernel_rfl
theorem ok_i_Raft_reserve : compileFn Try.prog [0, 1, 2, 3, 6, 7, 8, 9, 10, 11, 21, 22, 23, 24, 32] 1 [] Try.f75 = some a_i_Raft_reserve := by kernel_rfl
theorem ok_s_l1Cur_one : compileFn Try.prog [0, 1, 4] 1 [] Try.f76 = some a_s_l1Cur_one := by kernel_rfl
theorem ok_i_isBase : compileFn Try.prog [0, 1, 4] 1 [] Try.f78 = some a_i_isBase := by kernel_rfl
theorem ok_i_within : compileFn Try.prog [0, 1, 2, 6] 1 [] Try.f79 = some a_i_within := by kernel_rfl
theorem ok_s_l10Raft : compileFn Try.prog [0, 1, 2] 1 [] Try.f80 = some a_s_l10Raft := by kernel_rfl
theorem ok_s_DrawSafeSets : compileFn Try.prog [0, 2, 3, 4] 2 [] Try.f81 = some a_s_DrawSafeSets := by kernel_rfl
theorem ok_s_l1Most : compileFn Try.prog [0, 1, 4, 7] 1 [] Try.f82 = some a_s_l1Most := by kernel_rfl
theorem ok_s_l1Cur_pick : compileFn Try.prog [0, 1, 4, 5, 7, 11] 1 [] Try.f83 = some a_s_l1Cur_pick := by kernel_rfl
theorem ok_s_l1Has : compileFn Try.prog [0, 1, 4, 5, 9, 17] 1 [] Try.f85 = some a_s_l1Has := by kernel_rfl
theorem ok_i_IsRow : compileFn Try.prog [0, 2, 5] 1 [] Try.f86 = some a_i_IsRow := by kernel_rfl
theorem ok_s_l2Row : compileFn Try.prog [0, 2, 3, 11, 29] 1 [] Try.f87 = some a_s_l2Row := by kernel_rfl
theorem ok_s_l1Rising : compileFn Try.prog [0, 1, 2, 6, 7, 11, 37] 1 [(4, [0, 1, 2, 3, 4, 5, 6, 7, 8, 9, 10, 11, 12, 13, 14, 15, 16, 17, 18, 19, 20, 21, 22, 23])] Try.f88 = some a_s_l1Rising := by kernel_rfl
theorem ok_s_l1Cur_among : compileFn Try.prog [0, 1, 4] 1 [] Try.f89 = some a_s_l1Cur_among := by kernel_rfl
theorem ok_i_isPlace : compileFn Try.prog [0, 2] 1 [] Try.f90 = some a_i_isPlace := by kernel_rfl
theorem ok_s_l2Base : compileFn Try.prog [0, 1, 4] 1 [] Try.f91 = some a_s_l2Base := by kernel_rfl
theorem ok_s_l1In : compileFn Try.prog [0, 1, 2, 6] 1 [] Try.f92 = some a_s_l1In := by kernel_rfl
theorem ok_s_l1Cur_next : compileFn Try.prog [0, 2, 3, 13, 53] 1 [(2, [0, 1, 2, 3, 4, 5, 6, 7, 8, 9]), (3, [0, 1, 2, 3, 4, 5, 6, 7, 8, 9, 10, 11]), (6, [0, 1, 2, 3, 4, 5, 6, 7, 8, 9])] Try.f93 = some a_s_l1Cur_next := by kernel_rfl
theorem ok_slices_ContainsFunc_Si_Load_i_Load : compileFn Try.prog [0, 1, 4] 1 [] Try.f94 = some a_slices_ContainsFunc_Si_Load_i_Load := by kernel_rfl
theorem ok_i_IsRow_1 : compileFn Try.prog [0, 1, 2] 1 [] Try.f95 = some a_i_IsRow_1 := by kernel_rfl
theorem ok_i_isWeight : compileFn Try.prog [0, 2] 1 [] Try.f96 = some a_i_isWeight := by kernel_rfl
theorem ok_s_l2In : compileFn Try.prog [0, 2] 1 [] Try.f97 = some a_s_l2In := by kernel_rfl
theorem ok_slices_IndexFunc_Si_Load_i_Load : compileFn Try.prog [0, 1, 4, 5, 7, 8, 9, 16] 1 [] Try.f98 = some a_slices_IndexFunc_Si_Load_i_Load := by kernel_rfl
theorem tabOk : TableOk Try.prog T := tableOk_of (by
  unfold tab
  exact allCons ⟨_, _, _, _, Try.func2, ok_gosem_cut_init⟩ <|
    allCons ⟨_, _, _, _, Try.func3, ok_l_FnExactFirstTip⟩ <|
    allCons ⟨_, _, _, _, Try.func4, ok_l_FnExactHardestItem⟩ <|
    allCons ⟨_, _, _, _, Try.func5, ok_l_FnExactUnloadOrder⟩ <|
    allCons ⟨_, _, _, _, Try.func6, ok_l_FnExactSafeOrder⟩ <|
    allCons ⟨_, _, _, _, Try.func7, ok_l_FnExactSafeStep⟩ <|
    allCons ⟨_, _, _, _, Try.func8, ok_l_FnRafts⟩ <|
    allCons ⟨_, _, _, _, Try.func9, ok_l_FnSafeOrders⟩ <|
    allCons ⟨_, _, _, _, Try.func10, ok_l_szLoadS⟩ <|
    allCons ⟨_, _, _, _, Try.func11, ok_s_FirstTip⟩ <|
    allCons ⟨_, _, _, _, Try.func12, ok_l_toRaft⟩ <|
    allCons ⟨_, _, _, _, Try.func13, ok_l_toLoadS⟩ <|
    allCons ⟨_, _, _, _, Try.func14, ok_l_toIntS⟩ <|
    allCons ⟨_, _, _, _, Try.func15, ok_i_FirstTip⟩ <|
    allCons ⟨_, _, _, _, Try.func16, ok_l_eqLoadS⟩ <|
    allCons ⟨_, _, _, _, Try.func17, ok_l_eqIntS⟩ <|
    allCons ⟨_, _, _, _, Try.func18, ok_s_HardestItem⟩ <|
    allCons ⟨_, _, _, _, Try.func19, ok_i_HardestItem⟩ <|
    allCons ⟨_, _, _, _, Try.func20, ok_s_UnloadOrder⟩ <|
    allCons ⟨_, _, _, _, Try.func21, ok_i_UnloadOrder⟩ <|
    allCons ⟨_, _, _, _, Try.func22, ok_l_markLoadS⟩ <|
    allCons ⟨_, _, _, _, Try.func23, ok_l_markIntS⟩ <|
    allCons ⟨_, _, _, _, Try.func24, ok_l_heldIntS⟩ <|
    allCons ⟨_, _, _, _, Try.func25, ok_s_SafeOrder⟩ <|
    allCons ⟨_, _, _, _, Try.func26, ok_i_SafeOrder⟩ <|
    allCons ⟨_, _, _, _, Try.func27, ok_s_SafeStep⟩ <|
    allCons ⟨_, _, _, _, Try.func28, ok_i_SafeStep⟩ <|
    allCons ⟨_, _, _, _, Try.func29, ok_l_rBig⟩ <|
    allCons ⟨_, _, _, _, Try.func30, ok_s_DrawRaftSide⟩ <|
    allCons ⟨_, _, _, _, Try.func31, ok_i_RaftSide⟩ <|
    allCons ⟨_, _, _, _, Try.func32, ok_s_RaftSide⟩ <|
    allCons ⟨_, _, _, _, Try.func33, ok_i_RaftReserve⟩ <|
    allCons ⟨_, _, _, _, Try.func34, ok_s_RaftReserve⟩ <|
    allCons ⟨_, _, _, _, Try.func35, ok_i_SafeSets⟩ <|
    allCons ⟨_, _, _, _, Try.func36, ok_s_SafeSets⟩ <|
    allCons ⟨_, _, _, _, Try.func37, ok_s_DrawIsSafeOrder⟩ <|
    allCons ⟨_, _, _, _, Try.func38, ok_i_IsSafeOrder⟩ <|
    allCons ⟨_, _, _, _, Try.func39, ok_s_IsSafeOrder⟩ <|
    allCons ⟨_, _, _, _, Try.func40, ok_s_DrawIsRaft⟩ <|
    allCons ⟨_, _, _, _, Try.func41, ok_i_IsRaft⟩ <|
    allCons ⟨_, _, _, _, Try.func42, ok_s_IsRaft⟩ <|
    allCons ⟨_, _, _, _, Try.func43, ok_l_rHas⟩ <|
    allCons ⟨_, _, _, _, Try.func44, ok_s_DrawSafeOrder⟩ <|
    allCons ⟨_, _, _, _, Try.func45, ok_l_rInts⟩ <|
    allCons ⟨_, _, _, _, Try.func46, ok_i_CountSafe⟩ <|
    allCons ⟨_, _, _, _, Try.func47, ok_s_CountSafe⟩ <|
    allCons ⟨_, _, _, _, Try.func48, ok_i_LeastOwn⟩ <|
    allCons ⟨_, _, _, _, Try.func49, ok_s_LeastOwn⟩ <|
    allCons ⟨_, _, _, _, Try.func50, ok_i_PairSteps⟩ <|
    allCons ⟨_, _, _, _, Try.func51, ok_s_PairSteps⟩ <|
    allCons ⟨_, _, _, _, Try.func52, ok_s_DrawSafeStep⟩ <|
    allCons ⟨_, _, _, _, Try.func53, ok_s_l10Order⟩ <|
    allCons ⟨_, _, _, _, Try.func54, ok_s_l10Tip⟩ <|
    allCons ⟨_, _, _, _, Try.func55, ok_l_toLoad⟩ <|
    allCons ⟨_, _, _, _, Try.func56, ok_i_areCargo⟩ <|
    allCons ⟨_, _, _, _, Try.func57, ok_i_isOrder⟩ <|
    allCons ⟨_, _, _, _, Try.func58, ok_i_Raft_firstTip⟩ <|
    allCons ⟨_, _, _, _, Try.func59, ok_l_eqLoad⟩ <|
    allCons ⟨_, _, _, _, Try.func60, ok_s_l10Cargo⟩ <|
    allCons ⟨_, _, _, _, Try.func61, ok_s_l10Ways⟩ <|
    allCons ⟨_, _, _, _, Try.func62, ok_i_Raft_waysOf⟩ <|
    allCons ⟨_, _, _, _, Try.func64, ok_slices_Clone_Si_Load_i_Load⟩ <|
    allCons ⟨_, _, _, _, Try.func65, ok_s_l10Back⟩ <|
    allCons ⟨_, _, _, _, Try.func66, ok_i_Raft_isSafe⟩ <|
    allCons ⟨_, _, _, _, Try.func67, ok_i_stepsFrom⟩ <|
    allCons ⟨_, _, _, _, Try.func68, ok_s_l10Code⟩ <|
    allCons ⟨_, _, _, _, Try.func69, ok_s_l10Safe⟩ <|
    allCons ⟨_, _, _, _, Try.func70, ok_i_bitsOf⟩ <|
    allCons ⟨_, _, _, _, Try.func71, ok_s_l1Cur_raft⟩ <|
    allCons ⟨_, _, _, _, Try.func72, ok_s_l1Cur_cargo⟩ <|
    allCons ⟨_, _, _, _, Try.func73, ok_s_l1Cur_setOf⟩ <|
    allCons ⟨_, _, _, _, Try.func74, ok_s_l10Reserve⟩ <|
    allCons ⟨_, _, _, _, Try.func75, ok_i_Raft_reserve⟩ <|
    allCons ⟨_, _, _, _, Try.func76, ok_s_l1Cur_one⟩ <|
    allCons ⟨_, _, _, _, Try.func78, ok_i_isBase⟩ <|
    allCons ⟨_, _, _, _, Try.func79, ok_i_within⟩ <|
    allCons ⟨_, _, _, _, Try.func80, ok_s_l10Raft⟩ <|
    allCons ⟨_, _, _, _, Try.func81, ok_s_DrawSafeSets⟩ <|
    allCons ⟨_, _, _, _, Try.func82, ok_s_l1Most⟩ <|
    allCons ⟨_, _, _, _, Try.func83, ok_s_l1Cur_pick⟩ <|
    allCons ⟨_, _, _, _, Try.func85, ok_s_l1Has⟩ <|
    allCons ⟨_, _, _, _, Try.func86, ok_i_IsRow⟩ <|
    allCons ⟨_, _, _, _, Try.func87, ok_s_l2Row⟩ <|
    allCons ⟨_, _, _, _, Try.func88, ok_s_l1Rising⟩ <|
    allCons ⟨_, _, _, _, Try.func89, ok_s_l1Cur_among⟩ <|
    allCons ⟨_, _, _, _, Try.func90, ok_i_isPlace⟩ <|
    allCons ⟨_, _, _, _, Try.func91, ok_s_l2Base⟩ <|
    allCons ⟨_, _, _, _, Try.func92, ok_s_l1In⟩ <|
    allCons ⟨_, _, _, _, Try.func93, ok_s_l1Cur_next⟩ <|
    allCons ⟨_, _, _, _, Try.func94, ok_slices_ContainsFunc_Si_Load_i_Load⟩ <|
    allCons ⟨_, _, _, _, Try.func95, ok_i_IsRow_1⟩ <|
    allCons ⟨_, _, _, _, Try.func96, ok_i_isWeight⟩ <|
    allCons ⟨_, _, _, _, Try.func97, ok_s_l2In⟩ <|
    allCons ⟨_, _, _, _, Try.func98, ok_slices_IndexFunc_Si_Load_i_Load⟩ <|
    allNil)
end Go.Proofs.Ytlcklonakjhoiaa.Slim
