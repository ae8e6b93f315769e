/- The slim functions are the program's. -/
import Derived.Test.YtlcklonakjhoiaaSlimZ8
import Derived.Test.YtlcklonakjhoiaaChecked
/- The slim functions are the program's. -/
namespace Go.Proofs.Ytlcklonakjhoiaa.Slim
open Go
theorem ok_gosem_cut_init : compileFn Try.prog [] 1 [] Try.f2 = some a_gosem_cut_init := by kernel_rfl
theorem ok_l_FnExactFirstTip : compileFn Try.prog [0, 1, 2, 3, 6, 7, 8, 9, 10, 11, 12, 13, 16, 21, 51, 56, 61] 1 [] Try.f3 = some a_l_FnExactFirstTip := by kernel_rfl
theorem ok_l_FnExactHardestItem : compileFn Try.prog [0, 1, 2, 4, 5, 6, 7, 8, 9, 10, 15, 40, 45] 1 [] Try.f4 = some a_l_FnExactHardestItem := by kernel_rfl
theorem ok_l_FnExactUnloadOrder : compileFn Try.prog [0, 1, 2, 4, 5, 6, 7, 8, 9, 10, 11, 12, 13, 14, 15, 20, 46, 51, 67, 75, 78, 95, 100, 103] 1 [] Try.f5 = some a_l_FnExactUnloadOrder := by kernel_rfl
theorem ok_l_FnExactSafeOrder : compileFn Try.prog [0, 1, 2, 4, 5, 6, 7, 8, 9, 10, 11, 12, 13, 14, 15, 20, 46, 51, 67, 75, 78, 95, 100, 103] 1 [] Try.f6 = some a_l_FnExactSafeOrder := by kernel_rfl
theorem ok_l_FnExactSafeStep : compileFn Try.prog [0, 1, 2, 3, 6, 7, 8, 9, 10, 11, 12, 13, 14, 15, 16, 17, 18, 21, 26, 57, 62, 67, 86, 94, 97, 116, 121, 124] 1 [] Try.f7 = some a_l_FnExactSafeStep := by kernel_rfl
theorem ok_l_FnRafts : compileFn Try.prog [0, 2, 3, 4, 5, 6, 7, 8, 9, 10, 11, 12, 13, 14, 15, 16, 17, 18, 19, 20, 21, 22, 23, 24, 25, 26, 27, 28, 29, 30, 31, 32, 33, 34, 35, 36, 37, 38, 39, 40, 41, 42, 43, 45, 73, 107, 134, 162, 193, 214, 215, 220, 227, 234, 247, 249, 254, 256, 260, 267, 274, 287, 293] 1 [(26, [0, 2, 1, 3, 4, 5, 6, 7, 8, 9, 10, 11, 12, 13, 14, 15, 16, 17, 18])] Try.f8 = some a_l_FnRafts := by kernel_rfl
theorem ok_l_FnSafeOrders : compileFn Try.prog [0, 2, 3, 4, 5, 6, 7, 8, 9, 10, 11, 12, 13, 14, 15, 16, 17, 18, 19, 20, 21, 22, 23, 24, 25, 26, 27, 28, 29, 30, 31, 32, 33, 34, 35, 36, 37, 38, 39, 40, 41, 42, 43, 44, 45, 46, 47, 48, 50, 76, 105, 131, 151, 178, 198, 227, 231, 237, 255, 257, 270, 312, 339] 1 [(55, [0, 1, 2, 3, 4, 5, 6, 7, 8, 9, 10, 11, 12, 13, 14, 15, 16, 17])] Try.f9 = some a_l_FnSafeOrders := by kernel_rfl
theorem ok_l_szLoadS : compileFn Try.prog [0, 1, 4, 10] 1 [] Try.f10 = some a_l_szLoadS := by kernel_rfl
theorem ok_s_FirstTip : compileFn Try.prog [0, 1, 2, 3, 6, 7, 19] 1 [] Try.f11 = some a_s_FirstTip := by kernel_rfl
theorem ok_l_toRaft : compileFn Try.prog [0, 1, 2, 3] 1 [] Try.f12 = some a_l_toRaft := by kernel_rfl
theorem ok_l_toLoadS : compileFn Try.prog [0, 2, 3, 4, 11] 2 [] Try.f13 = some a_l_toLoadS := by kernel_rfl
theorem ok_l_toIntS : compileFn Try.prog [0, 2, 3, 4, 11] 2 [] Try.f14 = some a_l_toIntS := by kernel_rfl
theorem ok_i_FirstTip : compileFn Try.prog [0, 1, 2, 3, 6, 7, 8, 18] 1 [] Try.f15 = some a_i_FirstTip := by kernel_rfl
theorem ok_l_eqLoadS : compileFn Try.prog [0, 1, 4, 5, 10, 14, 26] 1 [(6, [0, 1, 2, 3, 4, 5, 6, 7, 8, 9])] Try.f16 = some a_l_eqLoadS := by kernel_rfl
theorem ok_l_eqIntS : compileFn Try.prog [0, 1, 4, 5, 10, 14, 25] 1 [(6, [0, 1, 2, 3, 4, 5, 6, 7, 8])] Try.f17 = some a_l_eqIntS := by kernel_rfl
theorem ok_s_HardestItem : compileFn Try.prog [0, 1, 2, 4, 5, 6, 7, 8, 9, 10, 19, 23, 43] 1 [(7, [1, 2, 3, 5, 6, 7, 8, 0, 4, 9, 10])] Try.f18 = some a_s_HardestItem := by kernel_rfl
theorem ok_i_HardestItem : compileFn Try.prog [0, 1, 2, 4, 5, 6, 7, 8, 9, 18, 20, 21, 22, 36] 1 [(7, [0, 1, 3, 4, 5, 2, 6, 7, 8, 9, 10])] Try.f19 = some a_i_HardestItem := by kernel_rfl
theorem ok_s_UnloadOrder : compileFn Try.prog [0, 1, 2, 4, 5, 6, 7, 8, 9, 14, 27, 30, 45] 2 [(4, [0, 1, 3, 4, 5, 6, 2, 7, 8])] Try.f20 = some a_s_UnloadOrder := by kernel_rfl
theorem ok_i_UnloadOrder : compileFn Try.prog [0, 1, 2, 4, 5, 6, 7, 8, 9, 10, 11, 12, 16, 25, 26, 27, 33, 40, 41, 42, 57, 67, 71, 73, 74, 75, 90] 2 [] Try.f21 = some a_i_UnloadOrder := by kernel_rfl
theorem ok_l_markLoadS : compileFn Try.prog [0, 1, 4, 5, 9] 1 [] Try.f22 = some a_l_markLoadS := by kernel_rfl
theorem ok_l_markIntS : compileFn Try.prog [0, 1, 4, 5, 9] 1 [] Try.f23 = some a_l_markIntS := by kernel_rfl
theorem ok_l_heldIntS : compileFn Try.prog [0, 1, 4, 5, 9, 17] 1 [] Try.f24 = some a_l_heldIntS := by kernel_rfl
theorem ok_s_SafeOrder : compileFn Try.prog [0, 1, 2, 4, 5, 6, 7, 8, 9, 14, 22, 28, 43] 2 [] Try.f25 = some a_s_SafeOrder := by kernel_rfl
theorem ok_i_SafeOrder : compileFn Try.prog [0, 1, 2, 4, 5, 6, 7, 8, 9, 13, 21, 26] 2 [] Try.f26 = some a_i_SafeOrder := by kernel_rfl
theorem ok_s_SafeStep : compileFn Try.prog [0, 1, 2, 3, 6, 7, 8, 9, 10, 11, 12, 29, 37, 54] 2 [] Try.f27 = some a_s_SafeStep := by kernel_rfl
theorem ok_i_SafeStep : compileFn Try.prog [0, 1, 2, 3, 6, 7, 8, 9, 30] 2 [] Try.f28 = some a_i_SafeStep := by kernel_rfl
theorem ok_l_rBig : compileFn Try.prog [0, 2] 1 [] Try.f29 = some a_l_rBig := by kernel_rfl
theorem ok_s_DrawRaftSide : compileFn Try.prog [0, 2, 3, 4, 5, 6, 7] 2 [(3, [0, 1, 2, 3, 4, 5, 6, 7])] Try.f30 = some a_s_DrawRaftSide := by kernel_rfl
theorem ok_i_RaftSide : compileFn Try.prog [0, 1, 2, 3, 6, 7, 8, 9, 10, 19, 23] 1 [] Try.f31 = some a_i_RaftSide := by kernel_rfl
theorem ok_s_RaftSide : compileFn Try.prog [0, 1, 2, 3, 6, 7, 8, 9, 10, 11, 20, 29, 31] 1 [] Try.f32 = some a_s_RaftSide := by kernel_rfl
theorem ok_i_RaftReserve : compileFn Try.prog [0, 1, 2, 3, 6, 7, 8, 9, 10, 11, 12, 26] 1 [] Try.f33 = some a_i_RaftReserve := by kernel_rfl
theorem ok_s_RaftReserve : compileFn Try.prog [0, 1, 2, 3, 6, 7, 8, 9, 10, 11, 12, 21] 1 [] Try.f34 = some a_s_RaftReserve := by kernel_rfl
theorem ok_i_SafeSets : compileFn Try.prog [0, 1, 2, 4, 5, 6, 7, 11, 14, 15, 16, 21] 1 [] Try.f35 = some a_i_SafeSets := by kernel_rfl
theorem ok_s_SafeSets : compileFn Try.prog [0, 1, 2, 4, 5, 6, 7, 11, 16, 22] 1 [] Try.f36 = some a_s_SafeSets := by kernel_rfl
theorem ok_s_DrawIsSafeOrder : compileFn Try.prog [0, 2, 3, 4, 5, 6, 7, 8, 9, 27] 2 [(6, [0, 1, 2, 3, 4, 5, 6, 7])] Try.f37 = some a_s_DrawIsSafeOrder := by kernel_rfl
theorem ok_i_IsSafeOrder : compileFn Try.prog [0, 1, 2, 3, 6, 7, 17] 1 [] Try.f38 = some a_i_IsSafeOrder := by kernel_rfl
theorem ok_s_IsSafeOrder : compileFn Try.prog [0, 1, 2, 3, 6, 7, 12] 1 [] Try.f39 = some a_s_IsSafeOrder := by kernel_rfl
theorem ok_s_DrawIsRaft : compileFn Try.prog [0, 2, 3] 1 [] Try.f40 = some a_s_DrawIsRaft := by kernel_rfl
theorem ok_i_IsRaft : compileFn Try.prog [0, 1, 2] 1 [] Try.f41 = some a_i_IsRaft := by kernel_rfl
theorem ok_s_IsRaft : compileFn Try.prog [0, 1, 2] 1 [] Try.f42 = some a_s_IsRaft := by kernel_rfl
theorem ok_l_rHas : compileFn Try.prog [0, 1, 4, 5, 9, 17] 1 [] Try.f43 = some a_l_rHas := by kernel_rfl
theorem ok_s_DrawSafeOrder : compileFn Try.prog [0, 2, 3] 2 [] Try.f44 = some a_s_DrawSafeOrder := by kernel_rfl
theorem ok_l_rInts : compileFn Try.prog [0, 1, 4, 5, 10, 14, 25] 1 [(6, [0, 1, 2, 3, 4, 5, 6, 7, 8])] Try.f45 = some a_l_rInts := by kernel_rfl
theorem ok_i_CountSafe : compileFn Try.prog [0, 1, 2, 4, 5, 9] 1 [] Try.f46 = some a_i_CountSafe := by kernel_rfl
theorem ok_s_CountSafe : compileFn Try.prog [0, 1, 2, 4, 5, 9] 1 [] Try.f47 = some a_s_CountSafe := by kernel_rfl
theorem ok_i_LeastOwn : compileFn Try.prog [0, 1, 2, 4, 5, 6, 10, 12, 25] 1 [] Try.f48 = some a_i_LeastOwn := by kernel_rfl
theorem ok_s_LeastOwn : compileFn Try.prog [0, 1, 2, 4, 5, 6, 10, 12, 25] 1 [] Try.f49 = some a_s_LeastOwn := by kernel_rfl
theorem ok_i_PairSteps : compileFn Try.prog [0, 1, 2, 4, 5, 6, 7, 8, 9, 10, 11, 15, 25, 35, 37, 38, 39, 42, 43, 44, 57, 85, 97] 1 [(17, [0, 1, 2, 3, 4, 5, 6, 7, 8, 9, 10])] Try.f50 = some a_i_PairSteps := by kernel_rfl
theorem ok_s_PairSteps : compileFn Try.prog [0, 1, 2, 4, 5, 6, 7, 8, 9, 10, 11, 12, 16, 25, 39, 44, 65, 84] 1 [(15, [0, 1, 2, 3, 4, 5]), (17, [0, 1, 2, 3, 4, 5, 6, 7, 8, 9, 10, 11, 12, 13, 14, 15, 16, 17, 18])] Try.f51 = some a_s_PairSteps := by kernel_rfl
theorem ok_s_DrawSafeStep : compileFn Try.prog [0, 2, 3, 4, 5, 6, 7, 8, 9, 10, 11, 34, 41] 2 [(11, [0, 1, 2, 3, 4, 5, 6, 7])] Try.f52 = some a_s_DrawSafeStep := by kernel_rfl
theorem ok_s_l10Order : compileFn Try.prog [0, 1, 2, 3, 6, 7, 18, 22, 28] 1 [] Try.f53 = some a_s_l10Order := by kernel_rfl
theorem ok_s_l10Tip : compileFn Try.prog [0, 1, 2, 3, 6, 7, 8, 12, 26] 1 [] Try.f54 = some a_s_l10Tip := by kernel_rfl
theorem ok_l_toLoad : compileFn Try.prog [0, 1, 2, 3] 1 [] Try.f55 = some a_l_toLoad := by kernel_rfl
theorem ok_i_areCargo : compileFn Try.prog [0, 1, 2, 4] 1 [] Try.f56 = some a_i_areCargo := by kernel_rfl
theorem ok_i_isOrder : compileFn Try.prog [0, 1, 4, 5, 7, 8, 9, 10, 11, 26] 1 [] Try.f57 = some a_i_isOrder := by kernel_rfl
theorem ok_i_Raft_firstTip : compileFn Try.prog [0, 1, 2, 3, 6, 7, 8, 9, 10, 11, 12, 13, 25] 1 [] Try.f58 = some a_i_Raft_firstTip := by kernel_rfl
theorem ok_l_eqLoad : compileFn Try.prog [0, 1, 2, 3, 4, 9, 14] 1 [] Try.f59 = some a_l_eqLoad := by kernel_rfl
theorem ok_s_l10Cargo : compileFn Try.prog [0, 1, 2, 4] 1 [] Try.f60 = some a_s_l10Cargo := by kernel_rfl
theorem ok_s_l10Ways : compileFn Try.prog [0, 1, 2, 4, 5, 6, 7, 8, 18, 25, 28, 35, 42] 2 [(13, [0, 1, 2, 3, 4, 5, 6, 7, 8, 9, 10, 11, 12, 13, 14, 15])] Try.f61 = some a_s_l10Ways := by kernel_rfl
theorem ok_i_Raft_waysOf : compileFn Try.prog [0, 1, 2, 4, 5, 6, 7, 8, 18, 22, 23, 24, 30, 45, 51] 2 [(10, [0, 1, 2, 3, 4, 5, 6, 7, 8, 9, 10, 11, 12, 13])] Try.f62 = some a_i_Raft_waysOf := by kernel_rfl
theorem ok_slices_Clone_Si_Load_i_Load : compileFn Try.prog [0, 2, 4] 2 [] Try.f64 = some a_slices_Clone_Si_Load_i_Load := by kernel_rfl
theorem ok_s_l10Back : compileFn Try.prog [0, 1, 2, 4, 5, 6, 7, 8, 16, 24] 2 [] Try.f65 = some a_s_l10Back := by kernel_rfl
theorem ok_i_Raft_isSafe : compileFn Try.prog [0, 1, 2, 3, 6, 7, 8] 1 [] Try.f66 = some a_i_Raft_isSafe := by kernel_rfl
theorem ok_i_stepsFrom : compileFn Try.prog [0, 1, 2, 6, 7, 8, 11, 12, 13, 29] 2 [] Try.f67 = some a_i_stepsFrom := by kernel_rfl
theorem ok_s_l10Code : compileFn Try.prog [0, 1, 2, 3, 6, 7, 8, 9, 21, 25] 1 [] Try.f68 = some a_s_l10Code := by kernel_rfl
theorem ok_s_l10Safe : compileFn Try.prog [0, 1, 2, 3, 6, 7, 8] 1 [] Try.f69 = some a_s_l10Safe := by kernel_rfl
theorem ok_i_bitsOf : compileFn Try.prog [0, 1, 4, 5, 6, 7, 8, 9, 10, 11, 12, 34] 1 [] Try.f70 = some a_i_bitsOf := by kernel_rfl
theorem ok_s_l1Cur_raft : compileFn Try.prog [0, 2, 3, 4, 20, 21, 30, 36] 1 [] Try.f71 = some a_s_l1Cur_raft := by kernel_rfl
theorem ok_s_l1Cur_cargo : compileFn Try.prog [0, 2, 3, 4, 5, 11, 29, 31, 32, 43, 54, 58] 2 [] Try.f72 = some a_s_l1Cur_cargo := by kernel_rfl
theorem ok_s_l1Cur_setOf : compileFn Try.prog [0, 1, 4, 5, 6, 15, 19, 25] 2 [] Try.f73 = some a_s_l1Cur_setOf := by kernel_rfl
theorem ok_s_l10Reserve : compileFn Try.prog [0, 1, 2, 3, 6, 7, 8, 9, 10, 30, 37] 1 [(1, [0, 1, 2, 3, 4, 5, 6, 7, 8, 9, 10, 11, 12, 13, 14, 15, 16, 17]), (6, [0, 1, 2, 3, 4, 5, 6, 7, 8, 9, 10, 11, 12, 13, 14, 15, 16, 17]), (7, [0, 1, 2, 3, 4, 5, 6, 7, 8, 9, 10, 11, 12, 13, 14, 15, 16, 17])] Try.f74 = some a_s_l10Reserve := by kernel_rfl
theorem ok_i_Raft_reserve : compileFn Try.prog [0, 1, 2, 3, 6, 7, 8, 9, 10, 11, 21, 22, 23, 24, 32] 1 [] Try.f75 = some a_i_Raft_reserve := by kernel_rfl
theorem ok_s_l1Cur_one : compileFn Try.prog [0, 1, 4] 1 [] Try.f76 = some a_s_l1Cur_one := by kernel_rfl
theorem ok_s_l1Cur_orderFor : compileFn Try.prog [0, 1, 4, 5, 6, 7, 16, 42] 2 [(6, [1, 2, 3, 5, 8, 9, 10, 0, 4, 6, 7, 11, 12])] Try.f77 = some a_s_l1Cur_orderFor := by kernel_rfl
theorem ok_i_isBase : compileFn Try.prog [0, 1, 4] 1 [] Try.f78 = some a_i_isBase := by kernel_rfl
theorem ok_i_within : compileFn Try.prog [0, 1, 2, 6] 1 [] Try.f79 = some a_i_within := by kernel_rfl
theorem ok_s_l10Raft : compileFn Try.prog [0, 1, 2] 1 [] Try.f80 = some a_s_l10Raft := by kernel_rfl
theorem ok_s_DrawSafeSets : compileFn Try.prog [0, 2, 3, 4] 2 [] Try.f81 = some a_s_DrawSafeSets := by kernel_rfl
theorem ok_s_l1Most : compileFn Try.prog [0, 1, 4, 7] 1 [] Try.f82 = some a_s_l1Most := by kernel_rfl
theorem ok_s_l1Cur_pick : compileFn Try.prog [0, 1, 4, 5, 7, 11] 1 [] Try.f83 = some a_s_l1Cur_pick := by kernel_rfl
theorem ok_s_l1Put : compileFn Try.prog [0, 1, 4, 5, 17, 31] 2 [(6, [1, 2, 3, 5, 8, 9, 10, 0, 4, 6, 7, 11, 12])] Try.f84 = some a_s_l1Put := by kernel_rfl
theorem ok_s_l1Has : compileFn Try.prog [0, 1, 4, 5, 9, 17] 1 [] Try.f85 = some a_s_l1Has := by kernel_rfl
theorem ok_i_IsRow : compileFn Try.prog [0, 2, 5] 1 [] Try.f86 = some a_i_IsRow := by kernel_rfl
theorem ok_s_l2Row : compileFn Try.prog [0, 2, 3, 11, 29] 1 [] Try.f87 = some a_s_l2Row := by kernel_rfl
theorem ok_s_l1Rising : compileFn Try.prog [0, 1, 2, 6, 7, 11, 37] 1 [(4, [0, 1, 2, 3, 4, 5, 6, 7, 8, 9, 10, 11, 12, 13, 14, 15, 16, 17, 18, 19, 20, 21, 22, 23])] Try.f88 = some a_s_l1Rising := by kernel_rfl
theorem ok_s_l1Cur_among : compileFn Try.prog [0, 1, 4] 1 [] Try.f89 = some a_s_l1Cur_among := by kernel_rfl
theorem ok_i_isPlace : compileFn Try.prog [0, 2] 1 [] Try.f90 = some a_i_isPlace := by kernel_rfl
theorem ok_s_l2Base : compileFn Try.prog [0, 1, 4] 1 [] Try.f91 = some a_s_l2Base := by kernel_rfl
theorem ok_s_l1In : compileFn Try.prog [0, 1, 2, 6] 1 [] Try.f92 = some a_s_l1In := by kernel_rfl
theorem ok_s_l1Cur_next : compileFn Try.prog [0, 2, 3, 13, 53] 1 [(2, [0, 1, 2, 3, 4, 5, 6, 7, 8, 9]), (3, [0, 1, 2, 3, 4, 5, 6, 7, 8, 9, 10, 11]), (6, [0, 1, 2, 3, 4, 5, 6, 7, 8, 9])] Try.f93 = some a_s_l1Cur_next := by kernel_rfl
theorem ok_slices_ContainsFunc_Si_Load_i_Load : compileFn Try.prog [0, 1, 4] 1 [] Try.f94 = some a_slices_ContainsFunc_Si_Load_i_Load := by kernel_rfl
theorem ok_i_IsRow_1 : compileFn Try.prog [0, 1, 2] 1 [] Try.f95 = some a_i_IsRow_1 := by kernel_rfl
theorem ok_i_isWeight : compileFn Try.prog [0, 2] 1 [] Try.f96 = some a_i_isWeight := by kernel_rfl
theorem ok_s_l2In : compileFn Try.prog [0, 2] 1 [] Try.f97 = some a_s_l2In := by kernel_rfl
theorem ok_slices_IndexFunc_Si_Load_i_Load : compileFn Try.prog [0, 1, 4, 5, 7, 8, 9, 16] 1 [] Try.f98 = some a_slices_IndexFunc_Si_Load_i_Load := by kernel_rfl
theorem tabOk : TableOk Try.prog T := tableOk_of (by
  unfold tab
  exact allCons ⟨_, _, _, _, Try.func2, ok_gosem_cut_init⟩ <|
    allCons ⟨_, _, _, _, Try.func3, ok_l_FnExactFirstTip⟩ <|
    allCons ⟨_, _, _, _, Try.func4, ok_l_FnExactHardestItem⟩ <|
    allCons ⟨_, _, _, _, Try.func5, ok_l_FnExactUnloadOrder⟩ <|
    allCons ⟨_, _, _, _, Try.func6, ok_l_FnExactSafeOrder⟩ <|
    allCons ⟨_, _, _, _, Try.func7, ok_l_FnExactSafeStep⟩ <|
    allCons ⟨_, _, _, _, Try.func8, ok_l_FnRafts⟩ <|
    allCons ⟨_, _, _, _, Try.func9, ok_l_FnSafeOrders⟩ <|
    allCons ⟨_, _, _, _, Try.func10, ok_l_szLoadS⟩ <|
    allCons ⟨_, _, _, _, Try.func11, ok_s_FirstTip⟩ <|
    allCons ⟨_, _, _, _, Try.func12, ok_l_toRaft⟩ <|
    allCons ⟨_, _, _, _, Try.func13, ok_l_toLoadS⟩ <|
    allCons ⟨_, _, _, _, Try.func14, ok_l_toIntS⟩ <|
    allCons ⟨_, _, _, _, Try.func15, ok_i_FirstTip⟩ <|
    allCons ⟨_, _, _, _, Try.func16, ok_l_eqLoadS⟩ <|
    allCons ⟨_, _, _, _, Try.func17, ok_l_eqIntS⟩ <|
    allCons ⟨_, _, _, _, Try.func18, ok_s_HardestItem⟩ <|
    allCons ⟨_, _, _, _, Try.func19, ok_i_HardestItem⟩ <|
    allCons ⟨_, _, _, _, Try.func20, ok_s_UnloadOrder⟩ <|
    allCons ⟨_, _, _, _, Try.func21, ok_i_UnloadOrder⟩ <|
    allCons ⟨_, _, _, _, Try.func22, ok_l_markLoadS⟩ <|
    allCons ⟨_, _, _, _, Try.func23, ok_l_markIntS⟩ <|
    allCons ⟨_, _, _, _, Try.func24, ok_l_heldIntS⟩ <|
    allCons ⟨_, _, _, _, Try.func25, ok_s_SafeOrder⟩ <|
    allCons ⟨_, _, _, _, Try.func26, ok_i_SafeOrder⟩ <|
    allCons ⟨_, _, _, _, Try.func27, ok_s_SafeStep⟩ <|
    allCons ⟨_, _, _, _, Try.func28, ok_i_SafeStep⟩ <|
    allCons ⟨_, _, _, _, Try.func29, ok_l_rBig⟩ <|
    allCons ⟨_, _, _, _, Try.func30, ok_s_DrawRaftSide⟩ <|
    allCons ⟨_, _, _, _, Try.func31, ok_i_RaftSide⟩ <|
    allCons ⟨_, _, _, _, Try.func32, ok_s_RaftSide⟩ <|
    allCons ⟨_, _, _, _, Try.func33, ok_i_RaftReserve⟩ <|
    allCons ⟨_, _, _, _, Try.func34, ok_s_RaftReserve⟩ <|
    allCons ⟨_, _, _, _, Try.func35, ok_i_SafeSets⟩ <|
    allCons ⟨_, _, _, _, Try.func36, ok_s_SafeSets⟩ <|
    allCons ⟨_, _, _, _, Try.func37, ok_s_DrawIsSafeOrder⟩ <|
    allCons ⟨_, _, _, _, Try.func38, ok_i_IsSafeOrder⟩ <|
    allCons ⟨_, _, _, _, Try.func39, ok_s_IsSafeOrder⟩ <|
    allCons ⟨_, _, _, _, Try.func40, ok_s_DrawIsRaft⟩ <|
    allCons ⟨_, _, _, _, Try.func41, ok_i_IsRaft⟩ <|
    allCons ⟨_, _, _, _, Try.func42, ok_s_IsRaft⟩ <|
    allCons ⟨_, _, _, _, Try.func43, ok_l_rHas⟩ <|
    allCons ⟨_, _, _, _, Try.func44, ok_s_DrawSafeOrder⟩ <|
    allCons ⟨_, _, _, _, Try.func45, ok_l_rInts⟩ <|
    allCons ⟨_, _, _, _, Try.func46, ok_i_CountSafe⟩ <|
    allCons ⟨_, _, _, _, Try.func47, ok_s_CountSafe⟩ <|
    allCons ⟨_, _, _, _, Try.func48, ok_i_LeastOwn⟩ <|
    allCons ⟨_, _, _, _, Try.func49, ok_s_LeastOwn⟩ <|
    allCons ⟨_, _, _, _, Try.func50, ok_i_PairSteps⟩ <|
    allCons ⟨_, _, _, _, Try.func51, ok_s_PairSteps⟩ <|
    allCons ⟨_, _, _, _, Try.func52, ok_s_DrawSafeStep⟩ <|
    allCons ⟨_, _, _, _, Try.func53, ok_s_l10Order⟩ <|
    allCons ⟨_, _, _, _, Try.func54, ok_s_l10Tip⟩ <|
    allCons ⟨_, _, _, _, Try.func55, ok_l_toLoad⟩ <|
    allCons ⟨_, _, _, _, Try.func56, ok_i_areCargo⟩ <|
    allCons ⟨_, _, _, _, Try.func57, ok_i_isOrder⟩ <|
    allCons ⟨_, _, _, _, Try.func58, ok_i_Raft_firstTip⟩ <|
    allCons ⟨_, _, _, _, Try.func59, ok_l_eqLoad⟩ <|
    allCons ⟨_, _, _, _, Try.func60, ok_s_l10Cargo⟩ <|
    allCons ⟨_, _, _, _, Try.func61, ok_s_l10Ways⟩ <|
    allCons ⟨_, _, _, _, Try.func62, ok_i_Raft_waysOf⟩ <|
    allCons ⟨_, _, _, _, Try.func64, ok_slices_Clone_Si_Load_i_Load⟩ <|
    allCons ⟨_, _, _, _, Try.func65, ok_s_l10Back⟩ <|
    allCons ⟨_, _, _, _, Try.func66, ok_i_Raft_isSafe⟩ <|
    allCons ⟨_, _, _, _, Try.func67, ok_i_stepsFrom⟩ <|
    allCons ⟨_, _, _, _, Try.func68, ok_s_l10Code⟩ <|
    allCons ⟨_, _, _, _, Try.func69, ok_s_l10Safe⟩ <|
    allCons ⟨_, _, _, _, Try.func70, ok_i_bitsOf⟩ <|
    allCons ⟨_, _, _, _, Try.func71, ok_s_l1Cur_raft⟩ <|
    allCons ⟨_, _, _, _, Try.func72, ok_s_l1Cur_cargo⟩ <|
    allCons ⟨_, _, _, _, Try.func73, ok_s_l1Cur_setOf⟩ <|
    allCons ⟨_, _, _, _, Try.func74, ok_s_l10Reserve⟩ <|
    allCons ⟨_, _, _, _, Try.func75, ok_i_Raft_reserve⟩ <|
    allCons ⟨_, _, _, _, Try.func76, ok_s_l1Cur_one⟩ <|
    allCons ⟨_, _, _, _, Try.func77, ok_s_l1Cur_orderFor⟩ <|
    allCons ⟨_, _, _, _, Try.func78, ok_i_isBase⟩ <|
    allCons ⟨_, _, _, _, Try.func79, ok_i_within⟩ <|
    allCons ⟨_, _, _, _, Try.func80, ok_s_l10Raft⟩ <|
    allCons ⟨_, _, _, _, Try.func81, ok_s_DrawSafeSets⟩ <|
    allCons ⟨_, _, _, _, Try.func82, ok_s_l1Most⟩ <|
    allCons ⟨_, _, _, _, Try.func83, ok_s_l1Cur_pick⟩ <|
    allCons ⟨_, _, _, _, Try.func84, ok_s_l1Put⟩ <|
    allCons ⟨_, _, _, _, Try.func85, ok_s_l1Has⟩ <|
    allCons ⟨_, _, _, _, Try.func86, ok_i_IsRow⟩ <|
    allCons ⟨_, _, _, _, Try.func87, ok_s_l2Row⟩ <|
    allCons ⟨_, _, _, _, Try.func88, ok_s_l1Rising⟩ <|
    allCons ⟨_, _, _, _, Try.func89, ok_s_l1Cur_among⟩ <|
    allCons ⟨_, _, _, _, Try.func90, ok_i_isPlace⟩ <|
    allCons ⟨_, _, _, _, Try.func91, ok_s_l2Base⟩ <|
    allCons ⟨_, _, _, _, Try.func92, ok_s_l1In⟩ <|
    allCons ⟨_, _, _, _, Try.func93, ok_s_l1Cur_next⟩ <|
    allCons ⟨_, _, _, _, Try.func94, ok_slices_ContainsFunc_Si_Load_i_Load⟩ <|
    allCons ⟨_, _, _, _, Try.func95, ok_i_IsRow_1⟩ <|
    allCons ⟨_, _, _, _, Try.func96, ok_i_isWeight⟩ <|
    allCons ⟨_, _, _, _, Try.func97, ok_s_l2In⟩ <|
    allCons ⟨_, _, _, _, Try.func98, ok_slices_IndexFunc_Si_Load_i_Load⟩ <|
    allNil)
end Go.Proofs.Ytlcklonakjhoiaa.Slim

/- What slices.Delete is told to do. -/
namespace Go.Proofs.Ytlcklonakjhoiaa.Slim
open Go
set_option linter.unusedVariables false

def prDel (sz : Nat) (args : List AV) (m : Mem) : Option (AV × Mem) := match args with
  | [.slice (some (b, 0)) sz' n cap, .int .i64 i, .int .i64 j] => (match m.H[b]? with
    | some (.cells cs true) => if sz' = sz ∧ cs.length = n * sz ∧ 0 ≤ i ∧ i < (n : Int) ∧ j = i + 1 then
        some (.slice (some (m.H.length + 1, 0)) sz (n - 1) none, ⟨m.H.set b .dead ++ [.dead, .cells (cs.take (i.toNat * sz) ++ cs.drop ((i.toNat + 1) * sz)) true], m.esc⟩) else none
    | _ => none)
  | _ => none

theorem prDel_told {sz : Nat} {args : List AV} {m m' : Mem} {v : AV} (h : prDel sz args m = some (v, m')) : ∃ (b n i : Nat) (cap : Option Nat) (cs : List AV), args = [.slice (some (b, 0)) sz n cap, .int .i64 i, .int .i64 (i + 1 : Nat)] ∧
    m.H[b]? = some (.cells cs true) ∧ cs.length = n * sz ∧ i < n ∧ v = .slice (some (m.H.length + 1, 0)) sz (n - 1) none ∧ m' = ⟨m.H.set b .dead ++ [.dead, .cells (cs.take (i * sz) ++ cs.drop ((i + 1) * sz)) true], m.esc⟩ := by
  unfold prDel at h
  split at h
  · rename_i b sz' n cap i j
    split at h
    · rename_i cs hb
      split at h
      · rename_i hc
        obtain ⟨rfl, h1, h2, h3, rfl⟩ := hc
        cases h
        obtain ⟨k, rfl⟩ : ∃ k : Nat, i = k := ⟨i.toNat, by omega⟩
        exact ⟨b, n, k, cap, cs, by simp, hb, h1, by omega, rfl, by simp⟩
      · cases h
    · cases h
  · cases h

theorem prDel_at {sz : Nat} {L : List Blk} {e : Option Nat} {b n i : Nat} {cap : Option Nat} {cs : List AV} (h1 : L[b]? = some (.cells cs true)) (h2 : cs.length = n * sz) (h3 : i < n) :
    prDel sz [.slice (some (b, 0)) sz n cap, .int .i64 i, .int .i64 (i + 1 : Nat)] ⟨L, e⟩ = some (.slice (some (L.length + 1, 0)) sz (n - 1) none, ⟨L.set b .dead ++ [.dead, .cells (cs.take (i * sz) ++ cs.drop ((i + 1) * sz)) true], e⟩) := by
  unfold prDel
  simp only [h1]
  rw [if_pos ⟨trivial, h2, by omega, by omega, by omega⟩]
  simp

theorem prDel_grow {sz : Nat} {args : List AV} {m m' : Mem} {v : AV} (h : prDel sz args m = some (v, m')) : Grow m m' := by
  obtain ⟨b, n, i, cap, cs, rfl, hb, hcs, hi, rfl, rfl⟩ := prDel_told h
  have hbl : b < m.H.length := (List.getElem?_eq_some_iff.mp hb).1
  have key : ∀ (x : Nat) cs' wr', (m.H.set b .dead ++ [.dead, Blk.cells (cs.take (i * sz) ++ cs.drop ((i + 1) * sz)) true])[x]? = some (.cells cs' wr') → (x < m.H.length ∧ m.H[x]? = some (.cells cs' wr')) ∨ (m.H.length ≤ x ∧ wr' = true) := by
    intro x cs' wr' hx
    rcases Nat.lt_or_ge x m.H.length with hl | hl
    · rw [List.getElem?_append_left (by simpa using hl), List.getElem?_set] at hx
      split at hx
      · cases hx
      · exact .inl ⟨hl, hx⟩
    · rw [List.getElem?_append_right (by simpa using hl)] at hx
      refine .inr ⟨hl, ?_⟩
      match hq : x - (m.H.set b .dead).length, hx with
      | 0, hx => simp at hx
      | 1, hx => simp at hx; exact hx.2
      | q + 2, hx => simp at hx
  refine ⟨by simp, fun _ h => h, fun x hx _ => ?_, fun x cs' hx => ?_⟩
  · intro cs' wr' hc
    rcases key x cs' wr' hc with ⟨_, h2⟩ | ⟨h1, _⟩
    · exact ⟨cs', wr', h2, fun c hc => .inl hc⟩
    · omega
  · rcases key x cs' false hx with ⟨_, h2⟩ | ⟨_, h2⟩
    · exact h2
    · cases h2

/-- slices.Delete, at one element -/
def HasDelete (pr : Prims) : Prop := (∀ (L : List Blk) (e : Option Nat) (b n i : Nat) (cap : Option Nat) (cs : List AV), L[b]? = some (.cells cs true) → cs.length = n * 2 → i < n → call T pr f_slices_Delete_Si_Load_i_Load [.slice (some (b, 0)) 2 n cap, .int .i64 i, .int .i64 (i + 1 : Nat)] ⟨L, e⟩ = some (.slice (some (L.length + 1, 0)) 2 (n - 1) none, ⟨L.set b .dead ++ [.dead, .cells (cs.take (i * 2) ++ cs.drop ((i + 1) * 2)) true], e⟩))

end Go.Proofs.Ytlcklonakjhoiaa.Slim

/- The contract of slices.Delete at one element, walked off its own text. -/
namespace Go.Proofs.Ytlcklonakjhoiaa.Slim
open Go Go.Lib Go.RowKit
set_option linter.unusedVariables false
set_option linter.unusedSimpArgs false

set_option maxHeartbeats 4000000 in
set_option maxRecDepth 1000000 in
theorem del_walkLoad (blk off n k i j : Nat) (w : World) (hij : i < j) (hjn : j ≤ n) (hj1 : n - (i + (n - j)) = 1) (hnk : n ≤ k) (news : List Value) (hlen : news.length = (n - j) * 2)
    (hsrc : ∀ t u, news[t]? = some u → w.drew.cell? ⟨blk, off + j * 2 + t, none⟩ = some u) (hone : ∀ u ∈ news, u.oneCell' = true)
    (hsp : ∀ t, t < (n - j) * 2 → (w.drew.cell? ⟨blk, off + i * 2 + t, none⟩).isSome = true ∧ w.drew.frozen? ⟨blk, off + i * 2 + t, none⟩ = false)
    (hsp2 : ∀ t, t < 2 → ((w.drew.setCells blk (off + i * 2) news).cell? ⟨blk, off + (i + (n - j)) * 2 + t, none⟩).isSome = true ∧ (w.drew.setCells blk (off + i * 2) news).frozen? ⟨blk, off + (i + (n - j)) * 2 + t, none⟩ = false) :
    Calls Try.prog 63 #[.slice (some ⟨blk, off, none⟩) n k, .int .i64 i, .int .i64 j] w fun e w' =>
      e = .returned (.slice (some ⟨blk, off, none⟩) (i + (n - j)) k) ∧ w' = (w.drew.setCells blk (off + i * 2) news).setCells blk (off + (i + (n - j)) * 2) [.int .i64 0, .int .i64 0] := by
  have mixed : Try.prog.follows .mixedOrders = true := by kernel_rfl
  have ts : Try.prog.underlying 31 = some (.slice 60) := by kernel_rfl
  obtain ⟨i0, hi0, hz0, hz1, hz2⟩ := info_parts (show (Try.prog.info? 60).map (fun i => (i.zero, i.size, i.bytes)) = some (some (.agg #[.int .i64 0, .int .i64 0]), 2, 16) by kernel_rfl)
  obtain ⟨A, hA, hsrc'⟩ : ∃ A : Addr, (if k = j then some (⟨blk, off, none⟩ : Addr) else some ⟨blk, off + j * 2, none⟩) = some A ∧ Hid (∀ t u, news[t]? = some u → w.drew.cell? (A.add t) = some u) := by
    by_cases h : k = j
    · refine ⟨⟨blk, off, none⟩, by simp [h], fun t u hu => ?_⟩
      have h0 : news.length = 0 := by rw [hlen]; omega
      rw [List.length_eq_zero_iff.1 h0] at hu
      simp at hu
    · refine ⟨⟨blk, off + j * 2, none⟩, by simp [h], fun t u hu => ?_⟩
      rw [Addr.add_lit]
      exact hsrc t u hu
  have s1 : Hid (news.length = (n - j) * 2) := hlen
  have s2 : Hid (∀ u ∈ news, u.oneCell' = true) := hone
  have s3 : Hid (∀ t, t < news.length → (w.drew.cell? ⟨blk, off + i * 2 + t, none⟩).isSome = true ∧ w.drew.frozen? ⟨blk, off + i * 2 + t, none⟩ = false) := fun t ht => hsp t (by omega)
  obtain ⟨W1, hW1⟩ : ∃ W1, W1 = w.drew.setCells blk (off + i * 2) news := ⟨_, rfl⟩
  have hW : Hid (W1 = w.drew.setCells blk (off + i * 2) news) := hW1
  rw [← hW1] at hsp2 ⊢
  have hcl : ∀ ty, (Builtin.clear_ #[31] ty #[.slice (some ⟨blk, off + (i + (n - j)) * 2, none⟩) (n - (i + (n - j))) (k - (i + (n - j)))]).run Try.prog W1 = .ok (.tuple #[]) (W1.setCells blk (off + (i + (n - j)) * 2) [.int .i64 0, .int .i64 0]) := by
    intro ty
    rw [hj1]
    exact clear_one W1 31 60 ty (.agg #[.int .i64 0, .int .i64 0]) (by kernel_rfl) (fun w => by kernel_rfl) (by intro v hv; simp [Value.cells] at hv; subst hv; rfl) blk _ _ (fun t ht => (hsp2 t ht).1) (fun t ht => (hsp2 t ht).2)
  have hic : i ≤ k := by omega
  have hjc : j ≤ k := by omega
  have hne : ¬ i = j := by omega
  clear hW1 hsp2 hsp hlen hsrc hone hj1
  go_enter Try.func63, Try.ntmps63
  go_wp2_with fail
  go_region_law_o (refine step_append_room rfl (.tmp 22) (.tmp 25) 31 rfl 60 i0 2 ts hi0 hz1 blk off i k (by simp [Act.eval, Act.put]) A (n - j) (k - j) news (by simp [Act.eval, Act.put]) s1.out hsrc'.out s2.out (by omega) s3.out ?_; rw [← hW.out])
  go_wp2
  go_ret
  exact ⟨rfl, rfl⟩

def prC : Prims := fun f args m => if f = f_slices_Delete_Si_Load_i_Load then prDel 2 args m else none

theorem fnLoad : ∃ fn, Try.prog.funcs[f_slices_Delete_Si_Load_i_Load]? = some fn ∧ fn.body.isSome = true ∧ fn.name ≠ "runtime.NumGoroutine" := by
  have h : ((Try.prog.funcs[f_slices_Delete_Si_Load_i_Load]?).map fun fn => fn.body.isSome && decide (fn.name ≠ "runtime.NumGoroutine")) = some true := by kernel_rfl
  obtain ⟨fn, h1, h2⟩ := Option.map_eq_some_iff.mp h
  simp only [Bool.and_eq_true, decide_eq_true_eq] at h2
  exact ⟨fn, h1, h2.1, h2.2⟩

theorem callLoad {ι : Emb} {m m' : Mem} {w : World} {args : List AV} {vs : List Value} {v : AV} (h : prDel 2 args m = some (v, m')) (R : Rel ι m w) (hv : VL ι w args vs) :
    Calls Try.prog f_slices_Delete_Si_Load_i_Load vs.toArray w fun e w' => ∃ (ι' : Emb) (v' : Value), e = .returned v' ∧ V ι' w' v v' ∧ Rel ι' m' w' ∧ Ext ι m w ι' m' w' := by
  obtain ⟨b, n, i, cap, cs, rfl, hb, hcs, hi, rfl, rfl⟩ := prDel_told h
  obtain ⟨v1, vs1, rfl, h1, v2, vs2, rfl, rfl, v3, vs3, rfl, rfl, rfl⟩ := hv
  obtain ⟨c, x, k, news, rfl, h2, h3, h4, h5, h6, h7, ι', h8, h9, h10⟩ := del_rel (P := Try.prog) R hb hcs hi h1
  refine (del_walkLoad c x n k i (i + 1) w (by omega) (by omega) (by omega) h2 news h3 h4 h5 h6 h7).mono ?_
  rintro e w' ⟨rfl, rfl⟩
  exact ⟨ι', _, rfl, h8, h9, h10⟩

theorem prC_ok : PrimsOk Try.prog prC := by
  refine ⟨fun f args m v m' ι w vs h R hv => ?_, fun f args m v m' h => ?_⟩
  · unfold prC at h
    split at h
    · rename_i hf
      subst hf
      exact ⟨fnLoad, callLoad h R hv⟩
    rename_i hfLoad
    cases h
  · unfold prC at h
    split at h
    · exact prDel_grow h
    cases h

theorem prC_has : HasDelete prC := by
  intro L e b n i cap cs h1 h2 h3
  rw [call_prim rfl]
  exact prDel_at (cap := cap) h1 h2 h3

end Go.Proofs.Ytlcklonakjhoiaa.Slim

/- The slim machine: the rules by which simp walks. -/
namespace Go.Proofs.Ytlcklonakjhoiaa.Slim
open Go
set_option linter.unusedVariables false
set_option linter.unusedSimpArgs false

section
variable {C : FuncId → List AV → Mem → Option (AV × Mem)} {tm loc : List AV} {m : Mem} {g : X → AV} {H : List Blk} {e : Option Nat}

theorem aops_nil : aops C tm [] loc m = some (loc, m) := Eq.trans rfl rfl

def opThen {β : Type} (r : Option (AV × Mem)) (f : AV → Mem → Option β) : Option β :=
  match r with
  | some (v, m) => f v m
  | none => none
theorem opThen_some {β : Type} (v : AV) (m : Mem) (f : AV → Mem → Option β) : opThen (some (v, m)) f = f v m := Eq.trans rfl rfl
theorem opThen_none {β : Type} (f : AV → Mem → Option β) : opThen none f = none := Eq.trans rfl rfl
theorem opThen_ite {β : Type} (c : Prop) [Decidable c] (a b : Option (AV × Mem)) (f : AV → Mem → Option β) : opThen (if c then a else b) f = if c then opThen a f else opThen b f := by split <;> rfl
@[congr] theorem opThen_congr {β : Type} {r r' : Option (AV × Mem)} {f : AV → Mem → Option β} (h : r = r') : opThen r f = opThen r' f := by rw [h]

/-- an operation with a guard -/
def guardP {β : Type} (p : Prop) [Decidable p] (r : Option (AV × Mem)) (m : Mem) (f : AV → Mem → Option β) : Option β := if p then opThen r f else f (.tup []) m
def guardThen {β : Type} (c : Option Bool) (r : Option (AV × Mem)) (m : Mem) (f : AV → Mem → Option β) : Option β :=
  match c with
  | none => none
  | some c => guardP (c = true) r m f
theorem guardThen_some {β : Type} (c : Bool) (r : Option (AV × Mem)) (m : Mem) (f : AV → Mem → Option β) : guardThen (some c) r m f = guardP (c = true) r m f := Eq.trans rfl rfl
theorem guardThen_ite {β : Type} (p : Prop) [Decidable p] (a b : Option Bool) (r : Option (AV × Mem)) (m : Mem) (f : AV → Mem → Option β) :
    guardThen (if p then a else b) r m f = if p then guardThen a r m f else guardThen b r m f := by split <;> rfl
theorem guardP_true {β : Type} (r : Option (AV × Mem)) (m : Mem) (f : AV → Mem → Option β) : guardP True r m f = opThen r f := by simp [guardP]
theorem guardP_false {β : Type} (r : Option (AV × Mem)) (m : Mem) (f : AV → Mem → Option β) : guardP False r m f = f (.tup []) m := by simp [guardP]
theorem guardP_some {β : Type} (p : Prop) [Decidable p] (v : AV) (m : Mem) (f : AV → Mem → Option β) : guardP p (some (v, m)) m f = f (if p then v else .tup []) m := by
  by_cases h : p <;> simp [guardP, h, opThen]
theorem guardP_ite {β : Type} (p : Prop) [Decidable p] (q : Prop) [Decidable q] (v : AV) (m : Mem) (f : AV → Mem → Option β) :
    guardP p (if q then some (v, m) else none) m f = if p → q then f (if p then v else .tup []) m else none := by
  by_cases h : p <;> by_cases h2 : q <;> simp [guardP, opThen, h, h2]
@[congr] theorem guardP_congr {β : Type} {p q : Prop} {s : Decidable p} [Decidable q] {r r' : Option (AV × Mem)} {m : Mem} {f : AV → Mem → Option β} (h : p = q) (h2 : q → r = r') : guardP p r m f = guardP q r' m f := by
  subst h
  unfold guardP
  by_cases hp : p
  · rw [if_pos hp, if_pos hp, h2 hp]
  · rw [if_neg hp, if_neg hp]
@[congr] theorem guardThen_congr {β : Type} {c c' : Option Bool} {r : Option (AV × Mem)} {m : Mem} {f : AV → Mem → Option β} (h : c = c') : guardThen c r m f = guardThen c' r m f := by rw [h]

/-- what a guard says -/
def guardOf (v : AV) (b : Bool) : Option Bool :=
  match v with
  | .bool c => some (c == b)
  | .tup [] => some false
  | _ => none
theorem guardOf_true (c : Bool) : guardOf (.bool c) true = some c := by cases c <;> rfl
theorem guardOf_false (c : Bool) : guardOf (.bool c) false = some (!c) := by cases c <;> rfl
theorem guardOf_tup (b : Bool) : guardOf (.tup []) b = some false := Eq.trans rfl rfl
theorem guardOf_ite (c : Prop) [Decidable c] (x y : AV) (b : Bool) : guardOf (if c then x else y) b = if c then guardOf x b else guardOf y b := by split <;> rfl

theorem aops_cons (op : AO) (rest : List AOper) : aops C tm (⟨op, none⟩ :: rest) loc m = opThen (aop C (get tm loc) m op) fun v m' => aops C tm rest (loc ++ [v]) m' := by
  rw [aops]
  simp only [wanted]
  cases aop C (get tm loc) m op <;> rfl

theorem aops_guard (op : AO) (x : X) (b : Bool) (rest : List AOper) :
    aops C tm (⟨op, some (x, b)⟩ :: rest) loc m = guardThen (guardOf (get tm loc x) b) (aop C (get tm loc) m op) m fun v m' => aops C tm rest (loc ++ [v]) m' := by
  rw [aops]
  have h : wanted (get tm loc) (some (x, b)) = guardOf (get tm loc x) b := rfl
  rw [h]
  cases guardOf (get tm loc x) b with
  | none => rfl
  | some c => cases c with
    | false => rfl
    | true => simp only [guardThen, guardP, if_true]; cases aop C (get tm loc) m op <;> rfl

theorem dops_nil : dops C tm [] loc m = some (loc, m) := Eq.trans rfl rfl

theorem dops_cons (op : AO) (rest : List DE) : dops C tm (⟨op, none, []⟩ :: rest) loc m = opThen (aop C (get tm loc) m op) fun v m' => dops C tm rest (loc ++ [v]) m' := by
  rw [dops]
  simp only [wanted]
  cases aop C (get tm loc) m op <;> simp [opThen, toldAnew]

theorem dops_again (op : AO) (q : Nat × AOper) (qs : List (Nat × AOper)) (rest : List DE) : dops C tm (⟨op, none, q :: qs⟩ :: rest) loc m =
    opThen (aop C (get tm loc) m op) fun v m' => if toldAnew (get tm (loc ++ [v])) loc m'.H (q :: qs) = true then dops C tm rest (loc ++ [v]) m' else none := by
  rw [dops]
  simp only [wanted]
  cases aop C (get tm loc) m op <;> simp [opThen]

theorem dops_guard (op : AO) (x : X) (b : Bool) (rest : List DE) :
    dops C tm (⟨op, some (x, b), []⟩ :: rest) loc m = guardThen (guardOf (get tm loc x) b) (aop C (get tm loc) m op) m fun v m' => dops C tm rest (loc ++ [v]) m' := by
  rw [dops]
  have h : wanted (get tm loc) (some (x, b)) = guardOf (get tm loc x) b := rfl
  rw [h]
  cases guardOf (get tm loc x) b with
  | none => rfl
  | some c => cases c with
    | false => simp [guardThen, guardP, toldAnew]
    | true => simp only [guardThen, guardP, if_true]; cases aop C (get tm loc) m op <;> simp [opThen, toldAnew]

theorem dops_guard_again (op : AO) (x : X) (b : Bool) (q : Nat × AOper) (qs : List (Nat × AOper)) (rest : List DE) :
    dops C tm (⟨op, some (x, b), q :: qs⟩ :: rest) loc m = guardThen (guardOf (get tm loc x) b) (aop C (get tm loc) m op) m fun v m' =>
      if toldAnew (get tm (loc ++ [v])) loc m'.H (q :: qs) = true then dops C tm rest (loc ++ [v]) m' else none := by
  rw [dops]
  have h : wanted (get tm loc) (some (x, b)) = guardOf (get tm loc x) b := rfl
  rw [h]
  cases guardOf (get tm loc x) b with
  | none => rfl
  | some c => cases c with
    | false => rfl
    | true => simp only [guardThen, guardP, if_true]; cases aop C (get tm loc) m op <;> rfl

theorem toldAnew_nil (L : List Blk) : toldAnew g loc L [] = true := Eq.trans rfl rfl
theorem toldAnew_cons (L : List Blk) (j : Nat) (op : AO) (qs : List (Nat × AOper)) : (toldAnew g loc L ((j, ⟨op, none⟩) :: qs) = true) ↔ (memop g L op = some ((loc[j]?).getD .undef) ∧ toldAnew g loc L qs = true) := by
  simp [toldAnew, wanted]
theorem toldAnew_guard (L : List Blk) (j : Nat) (op : AO) (x : X) (b : Bool) (qs : List (Nat × AOper)) : (toldAnew g loc L ((j, ⟨op, some (x, b)⟩) :: qs) = true) ↔ ((guardOf (g x) b = some false ∨ memop g L op = some ((loc[j]?).getD .undef)) ∧ toldAnew g loc L qs = true) := by
  simp only [toldAnew, Bool.and_eq_true, Bool.or_eq_true, decide_eq_true_eq]
  rfl
theorem memop_load (L : List Blk) (a : Bool) (sz : Nat) (x : X) : memop g L (.load a sz x) = loadAt L a sz (g x) := Eq.trans rfl rfl

theorem get_t (s : Nat) : get tm loc (.t s) = (tm[s]?).getD .undef := Eq.trans rfl rfl
theorem get_l (s : Nat) : get tm loc (.l s) = (loc[s]?).getD .undef := Eq.trans rfl rfl
theorem get_c (v : AV) : get tm loc (.c v) = v := Eq.trans rfl rfl

/-- a value, memory being as it was -/
def valOf (m : Mem) (r : Option AV) : Option (AV × Mem) :=
  match r with
  | some v => some (v, m)
  | none => none
theorem valOf_some (v : AV) : valOf m (some v) = some (v, m) := Eq.trans rfl rfl
theorem valOf_none : valOf m none = none := Eq.trans rfl rfl
theorem valOf_ite (c : Prop) [Decidable c] (a b : Option AV) : valOf m (if c then a else b) = if c then valOf m a else valOf m b := by split <;> rfl

theorem aop_of_light {op : AO} (h : op.kind = 0) : aop C g m op = valOf m (light g op) := by
  unfold aop
  cases e : light g op with
  | some v => rfl
  | none => simp only []; rw [memop_none (by omega), making_none (by omega), heavy_none (by omega)]; rfl

theorem aop_of_memop {op : AO} (h : op.kind = 1) : aop C g m op = valOf m (memop g m.H op) := by
  unfold aop
  rw [light_none (by omega)]
  simp only []
  cases e : memop g m.H op with
  | some v => rfl
  | none => simp only []; rw [making_none (by omega), heavy_none (by omega)]; rfl

theorem aop_of_heavy {op : AO} (h : op.kind = 3) : aop C g m op = heavy C g m op := by
  unfold aop
  rw [light_none (by omega), memop_none (by omega), making_none (by omega)]

theorem aop_of_making {op : AO} (h : op.kind = 2) : aop C g m op = match making g op with | some (cs, v) => some (v m.H.length, newBlk m cs) | none => none := by
  unfold aop
  rw [light_none (by omega), memop_none (by omega)]
  simp only []
  cases making g op with
  | some p => rfl
  | none => simp only []; exact heavy_none (by omega)

theorem aop_mv (x : X) : aop C g m (.mv x) = some (g x, m) := Eq.trans rfl rfl
theorem aop_bin (c : Nat) (o : BinOp) (x y : X) : aop C g m (.bin c o x y) = valOf m (binop c o (g x) (g y)) := aop_of_light rfl

/-- a choice -/
def pickV (c a b : AV) : Option AV :=
  match c with
  | .bool true => some a
  | .bool false => some b
  | _ => none
theorem pickV_bool (c : Bool) (a b : AV) : pickV (.bool c) a b = some (if c = true then a else b) := by cases c <;> rfl
theorem aop_pick (c a b : X) : aop C g m (.pick c a b) = valOf m (pickV (g c) (g a) (g b)) := aop_of_light rfl
theorem aop_un (o : UnOp) (x : X) : aop C g m (.un o x) = valOf m (unop o (g x)) := aop_of_light rfl
theorem aop_makeFunc (f : FuncId) (a b : List X) : aop C g m (.makeFunc f a b) = some (.fn f (a.map g) (b.map g), m) := Eq.trans rfl rfl

def convV (k : IntKind) (v : AV) : Option AV :=
  match v with
  | .int _ n => some (.int k (k.wrap n))
  | _ => none
theorem convV_int (k k' : IntKind) (n : Int) : convV k (.int k' n) = some (.int k (k.wrap n)) := Eq.trans rfl rfl
theorem aop_conv (k : IntKind) (x : X) : aop C g m (.conv k x) = valOf m (convV k (g x)) := aop_of_light rfl

def eqCellsV (ks : List Nat) (neg : Bool) (a b : AV) : Option AV :=
  match a, b with
  | .agg xs, .agg ys => (eqList ks xs ys).map fun b => .bool (if neg then !b else b)
  | _, _ => none
theorem eqCellsV_agg (ks : List Nat) (neg : Bool) (xs ys : List AV) : eqCellsV ks neg (.agg xs) (.agg ys) = (eqList ks xs ys).map fun b => .bool (if neg then !b else b) := Eq.trans rfl rfl
theorem aop_eqCells (ks : List Nat) (neg : Bool) (x y : X) : aop C g m (.eqCells ks neg x y) = valOf m (eqCellsV ks neg (g x) (g y)) := aop_of_light rfl

def fieldAddrV (off : Nat) (v : AV) : Option AV :=
  match v with
  | .ptr (some (b, o)) => some (.ptr (some (b, o + off)))
  | _ => none
theorem fieldAddrV_ptr (off b o : Nat) : fieldAddrV off (.ptr (some (b, o))) = some (.ptr (some (b, o + off))) := Eq.trans rfl rfl
theorem aop_fieldAddr (off : Nat) (x : X) : aop C g m (.fieldAddr off x) = valOf m (fieldAddrV off (g x)) := aop_of_light rfl

def fieldV (agg : Bool) (off sz : Nat) (v : AV) : Option AV :=
  match v with
  | .agg cs => part agg cs off sz
  | _ => none
theorem fieldV_agg (agg : Bool) (off sz : Nat) (cs : List AV) : fieldV agg off sz (.agg cs) = part agg cs off sz := Eq.trans rfl rfl
theorem aop_field (agg : Bool) (off sz : Nat) (x : X) : aop C g m (.field agg off sz x) = valOf m (fieldV agg off sz (g x)) := aop_of_light rfl

def indexAddrSV (sz : Nat) (v i : AV) : Option AV :=
  match v, i with
  | .slice (some (b, o)) sz' n _, .int _ i => if 0 ≤ i ∧ i < n ∧ sz' = sz then some (.ptr (some (b, o + i.toNat * sz))) else none
  | _, _ => none
theorem indexAddrSV_slice (sz b o sz' n : Nat) (c : Option Nat) (k : IntKind) (i : Int) : indexAddrSV sz (.slice (some (b, o)) sz' n c) (.int k i) = if 0 ≤ i ∧ i < n ∧ sz' = sz then some (.ptr (some (b, o + i.toNat * sz))) else none := Eq.trans rfl rfl
theorem aop_indexAddrS (sz : Nat) (x i : X) : aop C g m (.indexAddrS sz x i) = valOf m (indexAddrSV sz (g x) (g i)) := aop_of_light rfl

def indexAddrAV (n sz : Nat) (v i : AV) : Option AV :=
  match v, i with
  | .ptr (some (b, o)), .int _ i => if 0 ≤ i ∧ i < n then some (.ptr (some (b, o + i.toNat * sz))) else none
  | _, _ => none
theorem indexAddrAV_ptr (n sz b o : Nat) (k : IntKind) (i : Int) : indexAddrAV n sz (.ptr (some (b, o))) (.int k i) = if 0 ≤ i ∧ i < n then some (.ptr (some (b, o + i.toNat * sz))) else none := Eq.trans rfl rfl
theorem aop_indexAddrA (n sz : Nat) (x i : X) : aop C g m (.indexAddrA n sz x i) = valOf m (indexAddrAV n sz (g x) (g i)) := aop_of_light rfl

def indexAV (agg : Bool) (n sz : Nat) (v i : AV) : Option AV :=
  match v, i with
  | .agg cs, .int _ i => if 0 ≤ i ∧ i < n then part agg cs (i.toNat * sz) sz else none
  | _, _ => none
theorem indexAV_agg (agg : Bool) (n sz : Nat) (cs : List AV) (k : IntKind) (i : Int) : indexAV agg n sz (.agg cs) (.int k i) = if 0 ≤ i ∧ i < n then part agg cs (i.toNat * sz) sz else none := Eq.trans rfl rfl
theorem aop_indexA (agg : Bool) (n sz : Nat) (x i : X) : aop C g m (.indexA agg n sz x i) = valOf m (indexAV agg n sz (g x) (g i)) := aop_of_light rfl

def indexSV (v i : AV) : Option AV :=
  match v, i with
  | .str s, .int _ i => if 0 ≤ i then (s[i.toNat]?).map fun b => .int .u8 b.toNat else none
  | _, _ => none
theorem indexSV_str (s : ByteArray) (k : IntKind) (i : Int) : indexSV (.str s) (.int k i) = if 0 ≤ i then (s[i.toNat]?).map fun b => .int .u8 b.toNat else none := Eq.trans rfl rfl
theorem aop_indexS (x i : X) : aop C g m (.indexS x i) = valOf m (indexSV (g x) (g i)) := aop_of_light rfl

def extractV (i : Nat) (v : AV) : Option AV :=
  match v with
  | .tup vs => vs[i]?
  | _ => none
theorem extractV_tup (i : Nat) (vs : List AV) : extractV i (.tup vs) = vs[i]? := Eq.trans rfl rfl
theorem aop_extract (i : Nat) (x : X) : aop C g m (.extract i x) = valOf m (extractV i (g x)) := aop_of_light rfl

def lenV (v : AV) : Option AV :=
  match v with
  | .slice _ _ n _ => some (.int .i64 n)
  | _ => none
theorem lenV_slice (p : Option (Nat × Nat)) (sz n : Nat) (c : Option Nat) : lenV (.slice p sz n c) = some (.int .i64 n) := Eq.trans rfl rfl
theorem aop_len (x : X) : aop C g m (.len x) = valOf m (lenV (g x)) := aop_of_light rfl

def lenStrV (v : AV) : Option AV :=
  match v with
  | .str s => some (.int .i64 s.size)
  | _ => none
theorem lenStrV_str (s : ByteArray) : lenStrV (.str s) = some (.int .i64 s.size) := Eq.trans rfl rfl
theorem aop_lenStr (x : X) : aop C g m (.lenStr x) = valOf m (lenStrV (g x)) := aop_of_light rfl
theorem aop_lenA (n : Nat) : aop C g m (.lenA n) = some (.int .i64 n, m) := Eq.trans rfl rfl

def max2V (a b : AV) : Option AV :=
  match a, b with
  | .int k a, .int k' b => if k = k' then some (.int k (if b > a then b else a)) else none
  | _, _ => none
theorem max2V_int (k : IntKind) (a b : Int) : max2V (.int k a) (.int k b) = some (.int k (if b > a then b else a)) := by simp [max2V]
theorem aop_max2 (x y : X) : aop C g m (.max2 x y) = valOf m (max2V (g x) (g y)) := aop_of_light rfl
def min2V (a b : AV) : Option AV :=
  match a, b with
  | .int k a, .int k' b => if k = k' then some (.int k (if b < a then b else a)) else none
  | _, _ => none
theorem min2V_int (k : IntKind) (a b : Int) : min2V (.int k a) (.int k b) = some (.int k (if b < a then b else a)) := by simp [min2V]
theorem aop_min2 (x y : X) : aop C g m (.min2 x y) = valOf m (min2V (g x) (g y)) := aop_of_light rfl

theorem aop_build (zero : List AV) (parts : List (Nat × Nat × X)) : aop C g m (.build zero parts) = valOf m ((fillParts g zero parts).map .agg) := aop_of_light rfl
theorem aop_load (a : Bool) (sz : Nat) (x : X) : aop C g m (.load a sz x) = valOf m (loadAt m.H a sz (g x)) := aop_of_memop rfl
theorem aop_alloc (zero : List AV) : aop C g ⟨H, e⟩ (.alloc zero) = some (.ptr (some (H.length, 0)), ⟨H ++ [.cells zero true], e⟩) := Eq.trans rfl rfl

def boxV (H : List Blk) (e : Option Nat) (cs : Option (List AV)) : Option (AV × Mem) :=
  match cs with
  | some cs => some (.ptr (some (H.length, 0)), ⟨H ++ [.cells cs true], e⟩)
  | none => none
theorem boxV_some (cs : List AV) : boxV H e (some cs) = some (.ptr (some (H.length, 0)), ⟨H ++ [.cells cs true], e⟩) := Eq.trans rfl rfl
theorem aop_box (x : X) : aop C g ⟨H, e⟩ (.box x) = boxV H e (cellsOf (g x)) := by
  rw [aop_of_making rfl]
  have h : making g (.box x) = (cellsOf (g x)).map fun cs => (cs, fun b => .ptr (some (b, 0))) := rfl
  rw [h]
  cases cellsOf (g x) <;> rfl

def buildSliceV (H : List Blk) (e : Option Nat) (sz len : Nat) (cs : Option (List AV)) : Option (AV × Mem) :=
  match cs with
  | some cs => some (.slice (some (H.length, 0)) sz len (some len), ⟨H ++ [.cells cs true], e⟩)
  | none => none
theorem buildSliceV_some (sz len : Nat) (cs : List AV) : buildSliceV H e sz len (some cs) = some (.slice (some (H.length, 0)) sz len (some len), ⟨H ++ [.cells cs true], e⟩) := Eq.trans rfl rfl
theorem aop_buildSlice (sz len : Nat) (zero : List AV) (parts : List (Nat × Nat × X)) : aop C g ⟨H, e⟩ (.buildSlice sz len zero parts) = buildSliceV H e sz len (fillParts g zero parts) := by
  rw [aop_of_making rfl]
  have h : making g (.buildSlice sz len zero parts) = (fillParts g zero parts).map fun cs => (cs, fun b => .slice (some (b, 0)) sz len (some len)) := rfl
  rw [h]
  cases fillParts g zero parts <;> rfl

/-- a store -/
def storeV (H : List Blk) (e : Option Nat) (sz : Nat) (a x : AV) : Option (AV × Mem) :=
  match a, cellsOf x with
  | .ptr (some (b, o)), some new => match H[b]? with
    | some (.cells cs true) =>
      if new.length = sz ∧ 0 < sz ∧ o + sz ≤ cs.length then
        some (.tup [], ⟨H.set b (.cells (setRange cs o new) true), if (new.all fun v => v.under (b + 1)) then e else minEsc e b⟩)
      else none
    | _ => none
  | _, _ => none
theorem aop_store (sz : Nat) (a x : X) : aop C g ⟨H, e⟩ (.store sz a x) = storeV H e sz (g a) (g x) := by
  rw [aop_of_heavy rfl]; rfl

def callV (C : FuncId → List AV → Mem → Option (AV × Mem)) (f : AV) (args : List AV) (m : Mem) : Option (AV × Mem) :=
  match f with
  | .fn f first captured => C f (first ++ args ++ captured) m
  | _ => none
theorem callV_fn (f : FuncId) (first captured args : List AV) : callV C (.fn f first captured) args m = C f (first ++ args ++ captured) m := Eq.trans rfl rfl
theorem aop_call (f : X) (args : List X) : aop C g m (.call f args) = callV C (g f) (args.map g) m := by
  rw [aop_of_heavy rfl]
  rfl

def makeSliceV (H : List Blk) (e : Option Nat) (sz bytes : Nat) (zero : List AV) (len cap : AV) : Option (AV × Mem) :=
  match len, cap with
  | .int .i64 l, .int .i64 c => if 0 ≤ l ∧ l = c ∧ l * bytes ≤ maxBytes then
      some (.slice (some (H.length, 0)) sz l.toNat (some l.toNat), ⟨H ++ [.cells (zeros l.toNat zero) true], e⟩) else none
  | _, _ => none
theorem makeSliceV_int (sz bytes : Nat) (zero : List AV) (l c : Int) : makeSliceV H e sz bytes zero (.int .i64 l) (.int .i64 c) = if 0 ≤ l ∧ l = c ∧ l * bytes ≤ maxBytes then
      some (.slice (some (H.length, 0)) sz l.toNat (some l.toNat), ⟨H ++ [.cells (zeros l.toNat zero) true], e⟩) else none := rfl
theorem aop_makeSlice (sz bytes : Nat) (zero : List AV) (len cap : X) : aop C g ⟨H, e⟩ (.makeSlice sz bytes zero len cap) = makeSliceV H e sz bytes zero (g len) (g cap) := by
  rw [aop_of_heavy rfl]; rfl

def appendV (H : List Blk) (e : Option Nat) (str : Bool) (sz bytes : Nat) (s x : AV) : Option (AV × Mem) :=
  match s with
  | .slice none _ _ _ => match srcCells str H x with
    | some (n, cs) => if n = 0 then some (nilSlice, ⟨H, e⟩)
        else if n * bytes ≤ maxBytes ∧ cs.length = n * sz then some (.slice (some (H.length, 0)) sz n none, ⟨H ++ [.cells cs true], e⟩) else none
    | none => none
  | .slice (some (b, o)) sz' n cap => match H[b]?, srcCells str H x with
    | some (.cells old wr), some (k, cs) =>
      if sz' = sz ∧ (n + k) * bytes ≤ maxBytes ∧ cs.length = k * sz ∧ o + n * sz ≤ old.length then
        if cap = some 0 ∧ 0 < k then some (.slice (some (H.length, 0)) sz (n + k) none, ⟨H ++ [.cells cs true], e⟩)
        else if wr then some (.slice (some (H.length, 0)) sz (n + k) none, ⟨H.set b .dead ++ [.cells ((old.drop o).take (n * sz) ++ cs) true], e⟩)
        else none
      else none
    | _, _ => none
  | _ => none
theorem aop_append (str : Bool) (sz bytes : Nat) (s x : X) : aop C g ⟨H, e⟩ (.append str sz bytes s x) = appendV H e str sz bytes (g s) (g x) := by
  rw [aop_of_heavy rfl]; rfl

theorem binop_add (k : IntKind) (a b : Int) : binop 0 .add (.int k a) (.int k b) = some (.int k (k.wrap (a + b))) := by simp [binop, intOp]
theorem binop_sub (k : IntKind) (a b : Int) : binop 0 .sub (.int k a) (.int k b) = some (.int k (k.wrap (a - b))) := by simp [binop, intOp]
theorem binop_mul (k : IntKind) (a b : Int) : binop 0 .mul (.int k a) (.int k b) = some (.int k (k.wrap (a * b))) := by simp [binop, intOp]
theorem binop_quo (k : IntKind) (a b : Int) : binop 0 .quo (.int k a) (.int k b) = if b = 0 then none else some (.int k (k.wrap (a.tdiv b))) := by simp [binop, intOp]
theorem binop_rem (k : IntKind) (a b : Int) : binop 0 .rem (.int k a) (.int k b) = if b = 0 then none else some (.int k (a.tmod b)) := by simp [binop, intOp]
theorem binop_eql (k : IntKind) (a b : Int) : binop 0 .eql (.int k a) (.int k b) = some (.bool (decide (a = b))) := by simp [binop, intOp]
theorem binop_neq (k : IntKind) (a b : Int) : binop 0 .neq (.int k a) (.int k b) = some (.bool (!decide (a = b))) := by simp [binop, intOp]
theorem binop_lss (k : IntKind) (a b : Int) : binop 0 .lss (.int k a) (.int k b) = some (.bool (decide (a < b))) := by simp [binop, intOp]
theorem binop_leq (k : IntKind) (a b : Int) : binop 0 .leq (.int k a) (.int k b) = some (.bool (decide (a ≤ b))) := by simp [binop, intOp]
theorem binop_gtr (k : IntKind) (a b : Int) : binop 0 .gtr (.int k a) (.int k b) = some (.bool (decide (b < a))) := by simp [binop, intOp]
theorem binop_geq (k : IntKind) (a b : Int) : binop 0 .geq (.int k a) (.int k b) = some (.bool (decide (b ≤ a))) := by simp [binop, intOp]
def shlI (k : IntKind) (a b : Int) : Int := k.wrap (a * 2 ^ (min b.toNat k.bits))
def shrI (k : IntKind) (a b : Int) : Int := a.fdiv (2 ^ (min b.toNat k.bits))
def andI (k : IntKind) (a b : Int) : Int := k.wrap (BitVec.ofInt k.bits a &&& BitVec.ofInt k.bits b).toNat
def orI (k : IntKind) (a b : Int) : Int := k.wrap (BitVec.ofInt k.bits a ||| BitVec.ofInt k.bits b).toNat
def xorI (k : IntKind) (a b : Int) : Int := k.wrap (BitVec.ofInt k.bits a ^^^ BitVec.ofInt k.bits b).toNat
def andNotI (k : IntKind) (a b : Int) : Int := k.wrap (BitVec.ofInt k.bits a &&& ~~~BitVec.ofInt k.bits b).toNat
theorem binop_shl (k k' : IntKind) (a b : Int) : binop 0 .shl (.int k a) (.int k' b) = if b < 0 then none else some (.int k (shlI k a b)) := by simp [binop, intOp, shlI]
theorem binop_shr (k k' : IntKind) (a b : Int) : binop 0 .shr (.int k a) (.int k' b) = if b < 0 then none else some (.int k (shrI k a b)) := by simp [binop, intOp, shrI]
theorem binop_band (k : IntKind) (a b : Int) : binop 0 .and (.int k a) (.int k b) = some (.int k (andI k a b)) := by simp [binop, intOp, andI]
theorem binop_bor (k : IntKind) (a b : Int) : binop 0 .or (.int k a) (.int k b) = some (.int k (orI k a b)) := by simp [binop, intOp, orI]
theorem binop_bxor (k : IntKind) (a b : Int) : binop 0 .xor (.int k a) (.int k b) = some (.int k (xorI k a b)) := by simp [binop, intOp, xorI]
theorem binop_bandnot (k : IntKind) (a b : Int) : binop 0 .andNot (.int k a) (.int k b) = some (.int k (andNotI k a b)) := by simp [binop, intOp, andNotI]
theorem binop_beql (a b : Bool) : binop 2 .eql (.bool a) (.bool b) = some (.bool (a == b)) := Eq.trans rfl rfl
theorem binop_bneq (a b : Bool) : binop 2 .neq (.bool a) (.bool b) = some (.bool (!(a == b))) := Eq.trans rfl rfl
theorem binop_seql (a b : ByteArray) : binop 1 .eql (.str a) (.str b) = some (.bool (decide (a = b))) := Eq.trans rfl rfl
theorem binop_sneq (a b : ByteArray) : binop 1 .neq (.str a) (.str b) = some (.bool (!decide (a = b))) := Eq.trans rfl rfl
theorem unop_neg (k : IntKind) (n : Int) : unop .neg (.int k n) = some (.int k (k.wrap (0 - n))) := Eq.trans rfl rfl
theorem unop_not (b : Bool) : unop .not (.bool b) = some (.bool !b) := Eq.trans rfl rfl

theorem setOuts_nil : setOuts tm loc [] = tm := Eq.trans rfl rfl
theorem setOuts_cons (s j : Nat) (rest : List (Nat × Nat)) : setOuts tm loc ((s, j) :: rest) = setOuts (tm.set s ((loc[j]?).getD .undef)) loc rest := Eq.trans rfl rfl

/-! memory -/
theorem cellsAt_new0 (l : List Blk) : cellsAt (H ++ l) H.length = cellsAt l 0 := by simp [cellsAt, List.getElem?_append_right]
theorem cellsAt_newk (l : List Blk) (k : Nat) : cellsAt (H ++ l) (H.length + k) = cellsAt l k := by simp [cellsAt, List.getElem?_append_right]
theorem cellsAt_cons0 (cs : List AV) (wr : Bool) (l : List Blk) : cellsAt (.cells cs wr :: l) 0 = some cs := Eq.trans rfl rfl
theorem cellsAt_consk (b : Blk) (l : List Blk) (k : Nat) : cellsAt (b :: l) (k + 1) = cellsAt l k := Eq.trans rfl rfl
theorem cellsAt_old {b : Nat} {cs : List AV} (l : List Blk) (h : cellsAt H b = some cs) : cellsAt (H ++ l) b = some cs := by
  unfold cellsAt at *
  cases hb : H[b]? with
  | none => rw [hb] at h; cases h
  | some x =>
    have hlt := (List.getElem?_eq_some_iff.mp hb).1
    rw [List.getElem?_append_left hlt, hb]
    rw [hb] at h
    exact h

def partOf (agg : Bool) (cs : Option (List AV)) (o sz : Nat) : Option AV :=
  match cs with
  | some cs => part agg cs o sz
  | none => none
theorem partOf_some (agg : Bool) (cs : List AV) (o sz : Nat) : partOf agg (some cs) o sz = part agg cs o sz := Eq.trans rfl rfl
theorem loadAt_ptr (agg : Bool) (sz b o : Nat) (L : List Blk) : loadAt L agg sz (.ptr (some (b, o))) = partOf agg (cellsAt L b) o sz := by
  have h : loadAt L agg sz (.ptr (some (b, o))) = match cellsAt L b with
    | none => none
    | some cs => if agg then (if o + sz ≤ cs.length then some (.agg ((cs.drop o).take sz)) else none) else cs[o]? := rfl
  rw [h]
  cases cellsAt L b <;> rfl
theorem part_false (cs : List AV) (o sz : Nat) : part false cs o sz = cs[o]? := Eq.trans rfl rfl
theorem part_true (cs : List AV) (o sz : Nat) : part true cs o sz = if o + sz ≤ cs.length then some (.agg ((cs.drop o).take sz)) else none := Eq.trans rfl rfl
theorem part_f0 (c : AV) (cs : List AV) (sz : Nat) : part false (c :: cs) 0 sz = some c := Eq.trans rfl rfl
theorem part_fk (c : AV) (cs : List AV) (k sz : Nat) : part false (c :: cs) (k + 1) sz = part false cs k sz := Eq.trans rfl rfl
theorem part_t0 (c : AV) (cs : List AV) (sz : Nat) : part true (c :: cs) 0 sz = if sz ≤ cs.length + 1 then some (.agg ((c :: cs).take sz)) else none := by
  rw [part_true]; simp
theorem part_tk (c : AV) (cs : List AV) (k sz : Nat) : part true (c :: cs) (k + 1) sz = part true cs k sz := by
  rw [part_true, part_true]
  have : (k + 1 + sz ≤ (c :: cs).length) ↔ (k + sz ≤ cs.length) := by simp; omega
  simp only [this, List.drop_succ_cons]

theorem cellsOf_agg (cs : List AV) : cellsOf (.agg cs) = some cs := Eq.trans rfl rfl
theorem cellsOf_int (k : IntKind) (n : Int) : cellsOf (.int k n) = some [.int k n] := Eq.trans rfl rfl
theorem cellsOf_bool (b : Bool) : cellsOf (.bool b) = some [.bool b] := Eq.trans rfl rfl
theorem cellsOf_str (s : ByteArray) : cellsOf (.str s) = some [.str s] := Eq.trans rfl rfl
theorem cellsOf_ptr (p : Option (Nat × Nat)) : cellsOf (.ptr p) = some [.ptr p] := Eq.trans rfl rfl
theorem cellsOf_slice (p : Option (Nat × Nat)) (sz n : Nat) (c : Option Nat) : cellsOf (.slice p sz n c) = some [.slice p sz n c] := Eq.trans rfl rfl
theorem cellsOf_fn (f : FuncId) (a b : List AV) : cellsOf (.fn f a b) = some [.fn f a b] := Eq.trans rfl rfl

/-! two ways that meet again -/
theorem merge_normal (c : Prop) [Decidable c] (t t' : List AV) (m : Mem) : (if c then some (Ex.normal, (⟨t, m⟩ : St)) else some (Ex.normal, ⟨t', m⟩)) = some (Ex.normal, ⟨if c then t else t', m⟩) := by split <;> rfl
theorem merge_cons (c : Prop) [Decidable c] (a b : AV) (az bs : List AV) : (if c then a :: az else b :: bs) = (if c then a else b) :: (if c then az else bs) := by split <;> rfl
theorem merge_bool (c : Prop) [Decidable c] (a b : Bool) : (if c then AV.bool a else AV.bool b) = AV.bool (if c then a else b) := by split <;> rfl
theorem merge_int (c : Prop) [Decidable c] (k : IntKind) (a b : Int) : (if c then AV.int k a else AV.int k b) = AV.int k (if c then a else b) := by split <;> rfl

/-! the end of a call -/
theorem finRun_eq (F : AFun) (m : Mem) (st : St) : finRun F m st = match resultList st.tm st.m.H F.results with
  | some vs => finish F.mode m.H.length m.esc (tupled vs) st.m
  | none => none := rfl
theorem resultList_nil (L : List Blk) : resultList tm L [] = some [] := Eq.trans rfl rfl
def consV (a : Option AV) (az : Option (List AV)) : Option (List AV) :=
  match a, az with
  | some v, some vs => some (v :: vs)
  | _, _ => none
theorem consV_some (v : AV) (vs : List AV) : consV (some v) (some vs) = some (v :: vs) := Eq.trans rfl rfl
theorem resultList_tmp (L : List Blk) (s : Nat) (rs : List AR) : resultList tm L (.tmp s :: rs) = consV (some ((tm[s]?).getD .undef)) (resultList tm L rs) := by
  rw [resultList]; cases resultList tm L rs <;> rfl
theorem resultList_cell (L : List Blk) (s : Nat) (agg : Bool) (sz : Nat) (rs : List AR) : resultList tm L (.cell s agg sz :: rs) = consV (loadAt L agg sz ((tm[s]?).getD .undef)) (resultList tm L rs) := by
  rw [resultList]; cases resultList tm L rs <;> simp only [resultOf] <;> cases loadAt L agg sz ((tm[s]?).getD .undef) <;> rfl

def finV (F : AFun) (m : Mem) (vs : Option (List AV)) (m' : Mem) : Option (AV × Mem) :=
  match vs with
  | some vs => finish F.mode m.H.length m.esc (tupled vs) m'
  | none => none
theorem finRun_finV (F : AFun) (m : Mem) (st : St) : finRun F m st = finV F m (resultList st.tm st.m.H F.results) st.m := Eq.trans rfl rfl
theorem finV_some (F : AFun) (m : Mem) (vs : List AV) (m' : Mem) : finV F m (some vs) m' = finish F.mode m.H.length m.esc (tupled vs) m' := Eq.trans rfl rfl
theorem finish_zero (v : AV) (lim : Nat) (e0 e1 : Option Nat) (L : List Blk) : finish 0 lim e0 v ⟨L, e1⟩ = some (v, ⟨L, joinEsc e0 e1⟩) := Eq.trans rfl rfl
theorem finish_one (v : AV) (e0 : Option Nat) (l : List Blk) (h : v.under H.length = true) : finish 1 H.length e0 v ⟨H ++ l, none⟩ = some (v, ⟨H, e0⟩) := by
  simp [finish, h, clean]
theorem finish_one' (v : AV) (e0 : Option Nat) (h : v.under H.length = true) : finish 1 H.length e0 v ⟨H, none⟩ = some (v, ⟨H, e0⟩) := by
  simp [finish, h, clean]
/-- a new block, named by the result -/
theorem finish_two_slice (sz n : Nat) (c : Option Nat) (cs : List AV) (wr : Bool) (e0 : Option Nat) (h : (cs.all fun c => c.under H.length) = true) :
    finish 2 H.length e0 (.slice (some (H.length, 0)) sz n c) ⟨H ++ [.cells cs wr], none⟩ = some (.slice (some (H.length, 0)) sz n c, ⟨H ++ [.cells cs wr], e0⟩) := by
  have hr : dedup (AV.roots H.length (.slice (some (H.length, 0)) sz n c)) = [H.length] := by simp [AV.roots, dedup]
  unfold finish
  simp only [hr]
  have h2 : ([H.length].all fun b => flatBlk H.length (H ++ [Blk.cells cs wr])[b]?) = true := by
    simp [flatBlk, List.getElem?_append_right]
    simpa using h
  simp only [clean, h2, and_self, if_true]
  simp [AV.rename, renum, List.getElem?_append_right]
theorem finish_two_at {G : List Blk} {j sz n o : Nat} {c : Option Nat} {cs : List AV} {wr : Bool} (e0 : Option Nat) (hG : G[j]? = some (.cells cs wr)) (h : (cs.all fun c => c.under H.length) = true) :
    finish 2 H.length e0 (.slice (some (H.length + j, o)) sz n c) ⟨H ++ G, none⟩ = some (.slice (some (H.length, o)) sz n c, ⟨H ++ [.cells cs wr], e0⟩) := by
  have hlt : ¬ H.length + j < H.length := by omega
  have hr : dedup (AV.roots H.length (.slice (some (H.length + j, o)) sz n c)) = [H.length + j] := by
    unfold AV.roots
    rw [if_neg hlt]
    rfl
  have hb : (H ++ G)[H.length + j]? = some (.cells cs wr) := by rw [List.getElem?_append_right (by omega)]; simpa using hG
  unfold finish
  simp only [hr]
  have h2 : ([H.length + j].all fun b => flatBlk H.length (H ++ G)[b]?) = true := by
    simp only [List.all_cons, List.all_nil, Bool.and_true, hb, flatBlk]
    exact h
  simp only [clean, h2, and_self, if_true]
  simp [AV.rename, renum, hb, hlt]
theorem tupled_one (v : AV) : tupled [v] = v := Eq.trans rfl rfl
theorem tupled_nil : tupled [] = .tup [] := Eq.trans rfl rfl
theorem tupled_two (a b : AV) (vs : List AV) : tupled (a :: b :: vs) = .tup (a :: b :: vs) := Eq.trans rfl rfl
theorem under_int (n : Nat) (k : IntKind) (x : Int) : (AV.int k x).under n = true := by simp [AV.under]
theorem under_bool (n : Nat) (x : Bool) : (AV.bool x).under n = true := by simp [AV.under]
theorem under_str (n : Nat) (x : ByteArray) : (AV.str x).under n = true := by simp [AV.under]
theorem under_agg (n : Nat) (x : List AV) : (AV.agg x).under n = AV.under.go n x := by simp [AV.under]
theorem under_tup (n : Nat) (x : List AV) : (AV.tup x).under n = AV.under.go n x := by simp [AV.under]
theorem under_cons (n : Nat) (a : AV) (x : List AV) : AV.under.go n (a :: x) = (a.under n && AV.under.go n x) := Eq.trans rfl rfl
theorem under_nil (n : Nat) : AV.under.go n [] = true := Eq.trans rfl rfl

theorem blkAt_new0 (l : List Blk) : (H ++ l)[H.length]? = l[0]? := by simp [List.getElem?_append_right]
theorem blkAt_newk (l : List Blk) (k : Nat) : (H ++ l)[H.length + k]? = l[k]? := by simp [List.getElem?_append_right]
theorem set_new0 (l : List Blk) (b : Blk) : (H ++ l).set H.length b = H ++ l.set 0 b := by simp [List.set_append_right]
theorem set_newk (l : List Blk) (b : Blk) (k : Nat) : (H ++ l).set (H.length + k) b = H ++ l.set k b := by simp [List.set_append_right]

/-- a store whose block and cells are told -/
def storeAt (H : List Blk) (e : Option Nat) (b : Nat) (blk : Option Blk) (sz o : Nat) (new : Option (List AV)) : Option (AV × Mem) :=
  match new, blk with
  | some new, some (Blk.cells cs true) => if new.length = sz ∧ 0 < sz ∧ o + sz ≤ cs.length then
        some (.tup [], ⟨H.set b (.cells (setRange cs o new) true), if (new.all fun v => v.under (b + 1)) then e else minEsc e b⟩) else none
  | _, _ => none
theorem storeV_ptr (L : List Blk) (sz b o : Nat) (x : AV) : storeV L e sz (.ptr (some (b, o))) x = storeAt L e b L[b]? sz o (cellsOf x) := by
  unfold storeV storeAt
  cases cellsOf x with
  | none => rfl
  | some new =>
    simp only []
    cases L[b]? with
    | none => rfl
    | some B => cases B with
      | dead => rfl
      | cells cs wr => cases wr <;> rfl
theorem storeAt_cells (L : List Blk) (b : Nat) (cs new : List AV) (sz o : Nat) : storeAt L e b (some (.cells cs true)) sz o (some new) =
    if new.length = sz ∧ 0 < sz ∧ o + sz ≤ cs.length then some (.tup [], ⟨L.set b (.cells (setRange cs o new) true), if (new.all fun v => v.under (b + 1)) then e else minEsc e b⟩) else none := Eq.trans rfl rfl
theorem setRange_0 (c : AV) (cs : List AV) (x : AV) (xs : List AV) : setRange (c :: cs) 0 (x :: xs) = x :: setRange cs 0 xs := by simp [setRange]
theorem setRange_k (c : AV) (cs : List AV) (k : Nat) (xs : List AV) : setRange (c :: cs) (k + 1) xs = c :: setRange cs k xs := by
  simp [setRange, Nat.add_right_comm]
theorem setRange_nil (cs : List AV) : setRange cs 0 [] = cs := by simp [setRange]
theorem all_cons (p : AV → Bool) (c : AV) (cs : List AV) : (c :: cs).all p = (p c && cs.all p) := rfl
theorem all_nil (p : AV → Bool) : ([] : List AV).all p = true := Eq.trans rfl rfl

theorem wrap64 {x : Int} (h1 : -9223372036854775808 ≤ x) (h2 : x ≤ 9223372036854775807) : IntKind.i64.wrap x = x := by
  have : IntKind.i64.wrap x = x := by
    unfold IntKind.wrap
    simp [IntKind.signed, IntKind.bits]
    omega
  exact this
end
attribute [go_sem] Nat.mul_one
attribute [go_sem] run_seq run_cond run_block run_region run_draw run_skip run_exit run_ret thenRun_normal thenRun_ret thenRun_exit thenRun_none thenRun_ite inBlock_normal inBlock_ret inBlock_exit inBlock_none inBlock_ite condOf_bool pickRun_some outRun_some outRun_none outRun_ite endCall_normal endCall_ret endCall_exit endCall_none endCall_ite aops_nil aops_cons aops_guard opThen_some opThen_none opThen_ite guardP_true guardP_false guardP_some guardP_ite guardThen_some guardThen_ite guardOf_true guardOf_false guardOf_tup dops_nil dops_cons dops_again dops_guard dops_guard_again toldAnew_nil toldAnew_cons toldAnew_guard memop_load get_t get_l get_c valOf_some valOf_none valOf_ite aop_mv aop_bin pickV_bool aop_pick aop_un aop_makeFunc convV_int aop_conv eqCellsV_agg aop_eqCells fieldAddrV_ptr aop_fieldAddr fieldV_agg aop_field indexAddrSV_slice aop_indexAddrS indexAddrAV_ptr aop_indexAddrA indexAV_agg aop_indexA indexSV_str aop_indexS extractV_tup aop_extract lenV_slice aop_len lenStrV_str aop_lenStr aop_lenA max2V_int aop_max2 min2V_int aop_min2 aop_build aop_load aop_alloc boxV_some aop_box buildSliceV_some aop_buildSlice aop_store callV_fn aop_call makeSliceV_int aop_makeSlice aop_append binop_add binop_sub binop_mul binop_quo binop_rem binop_eql binop_neq binop_lss binop_leq binop_gtr binop_geq binop_shl binop_shr binop_band binop_bor binop_bxor binop_bandnot binop_beql binop_bneq binop_seql binop_sneq unop_neg unop_not setOuts_nil setOuts_cons cellsAt_new0 cellsAt_newk cellsAt_cons0 cellsAt_consk partOf_some loadAt_ptr part_f0 part_fk part_t0 part_tk blkAt_new0 blkAt_newk set_new0 set_newk storeV_ptr storeAt_cells setRange_0 setRange_k setRange_nil all_cons all_nil cellsOf_agg cellsOf_int cellsOf_bool cellsOf_str cellsOf_ptr cellsOf_slice cellsOf_fn merge_normal merge_cons merge_bool merge_int resultList_nil consV_some resultList_tmp resultList_cell finRun_finV finV_some finish_zero finish_one finish_one' finish_two_slice tupled_one tupled_nil tupled_two under_int under_bool under_str under_agg under_tup under_cons under_nil List.map_cons List.map_nil List.getElem?_cons_zero List.getElem?_cons_succ List.getElem?_nil Option.getD_some Option.getD_none List.nil_append List.cons_append List.append_nil List.append_assoc List.set_cons_zero List.set_cons_succ List.length_cons List.length_nil List.length_append Nat.zero_add Nat.add_zero List.take_succ_cons List.take_zero List.drop_succ_cons List.drop_zero if_true if_false Bool.not_true Bool.not_false Bool.true_eq_false Bool.false_and Bool.and_false Bool.or_true Bool.or_false Bool.true_or Bool.false_or Nat.lt_add_one Nat.succ_pos Bool.if_false_right Bool.if_true_left Bool.if_true_right Bool.if_false_left Bool.decide_eq_true Int.toNat_natCast Int.natCast_nonneg Int.ofNat_lt ite_self Bool.true_and Bool.and_true Bool.false_eq_true Bool.not_eq_true' decide_eq_true_eq true_and and_true Option.map_some Option.map_none

end Go.Proofs.Ytlcklonakjhoiaa.Slim

/- Rows of loads: how they lie in memory, and the laws' own small functions. -/
namespace Go.Proofs.Ytlcklonakjhoiaa.Slim
open Go
set_option linter.unusedSimpArgs false
set_option linter.unusedVariables false

/-- a load: its place and its weight -/
abbrev Ld := Int × Int
def encL : List Ld → List AV
  | [] => []
  | l :: ls => .int .i64 l.1 :: .int .i64 l.2 :: encL ls

theorem encL_length : ∀ ls : List Ld, (encL ls).length = ls.length * 2
  | [] => rfl
  | l :: ls => by simp [encL, encL_length ls]; omega

theorem encL_append : ∀ a b : List Ld, encL (a ++ b) = encL a ++ encL b
  | [], b => rfl
  | l :: a, b => by simp [encL, encL_append a b]

theorem part_encL {ls : List Ld} {i : Nat} {l : Ld} (h : ls[i]? = some l) : part true (encL ls) (i * 2) 2 = some (.agg [.int .i64 l.1, .int .i64 l.2]) := by
  induction ls generalizing i with
  | nil => simp at h
  | cons a ls ih =>
    cases i with
    | zero => simp at h; subst h; simp [encL, part]
    | succ i =>
      simp at h
      rw [show (i + 1) * 2 = i * 2 + 1 + 1 by omega, encL, part_tk, part_tk]
      exact ih h
theorem part_encL0 {ls : List Ld} {i : Nat} {l : Ld} (sz : Nat) (h : ls[i]? = some l) : part false (encL ls) (i * 2) sz = some (.int .i64 l.1) := by
  induction ls generalizing i with
  | nil => simp at h
  | cons a ls ih =>
    cases i with
    | zero => simp at h; subst h; simp [encL, part]
    | succ i =>
      simp at h
      rw [show (i + 1) * 2 = i * 2 + 1 + 1 by omega, encL, part_fk, part_fk]
      exact ih h
theorem part_encL1 {ls : List Ld} {i : Nat} {l : Ld} (sz : Nat) (h : ls[i]? = some l) : part false (encL ls) (i * 2 + 1) sz = some (.int .i64 l.2) := by
  induction ls generalizing i with
  | nil => simp at h
  | cons a ls ih =>
    cases i with
    | zero => simp at h; subst h; simp [encL, part]
    | succ i =>
      simp at h
      rw [show (i + 1) * 2 + 1 = i * 2 + 1 + 1 + 1 by omega, encL, part_fk, part_fk]
      exact ih h

/-- a slice of loads, wherever it lies -/
abbrev slL (b n : Nat) (c : Option Nat) : AV := .slice (some (b, 0)) 2 n c

theorem cells_mono {H : List Blk} {b : Nat} {cs : List AV} (h : cellsAt H b = some cs) (G : List Blk) : cellsAt (H ++ G) b = some cs := cellsAt_old G h

theorem wrap_succ {i : Nat} (h : i < 9223372036854775807) : IntKind.i64.wrap ((i : Int) + 1) = ((i + 1 : Nat) : Int) := by
  rw [wrap64 (by omega) (by omega)]; omega

variable {pr : Prims} {H : List Blk} {e : Option Nat}

theorem e_l_toLoad (x a : Int) : call T pr f_l_toLoad [.agg [.int .i64 x, .int .i64 a]] ⟨H, e⟩ = some (.agg [.int .i64 x, .int .i64 a], ⟨H, e⟩) := by
  rw [call_eq t_l_toLoad]
  simp +contextual only [a_l_toLoad, c_l_toLoad, go_sem, entry, joinEsc, if_pos, reduceIte, Nat.reduceAdd, Nat.reduceLeDiff, Nat.reduceLT, Nat.reduceEqDiff]

theorem e_l_eqLoad (x a y b : Int) : call T pr f_l_eqLoad [.agg [.int .i64 x, .int .i64 a], .agg [.int .i64 y, .int .i64 b]] ⟨H, e⟩ = some (.bool (decide (x = y) && decide (a = b)), ⟨H, e⟩) := by
  rw [call_eq t_l_eqLoad]
  simp +contextual only [a_l_eqLoad, c_l_eqLoad, go_sem, entry, joinEsc, if_pos, reduceIte, Nat.reduceAdd, Nat.reduceLeDiff, Nat.reduceLT, Nat.reduceEqDiff]
  by_cases h1 : x = y <;> by_cases h2 : a = b <;> simp [h1, h2]

theorem e_l_szLoadS (n : Nat) (p : Option (Nat × Nat)) (sz : Nat) (c : Option Nat) (hn : n ≤ maxLen) : call T pr f_l_szLoadS [.slice p sz n c, .int .i64 1048576] ⟨H, e⟩ = some (.int .i64 (if n ≤ 1048576 then 1048576 - n else -1), ⟨H, e⟩) := by
  rw [call_eq t_l_szLoadS]
  have hm : maxLen = 9223372036854775807 := by decide
  simp +contextual only [a_l_szLoadS, c_l_szLoadS, go_sem, entry, joinEsc, if_pos, reduceIte, Nat.reduceAdd, Nat.reduceLeDiff, Nat.reduceLT, Nat.reduceEqDiff]
  rw [wrap64 (by omega) (by omega)]
  by_cases h1 : n ≤ 1048576
  · rw [if_neg (by omega), if_pos h1]
  · rw [if_pos (by omega), if_neg h1]

/-- the loop of eqLoadS -/
theorem loop_l_eqLoadS {b1 b2 : Nat} {c1 c2 : Option Nat} {ls : List Ld} (h1 : cellsAt H b1 = some (encL ls)) (h2 : cellsAt H b2 = some (encL ls)) (hn : ls.length ≤ 9223372036854775806) :
    ∀ (k i : Nat) (x5 x6 x7 : AV), k + i = ls.length → ∃ y5 y6, run T pr (.loop w_l_eqLoadS_1) ⟨[slL b1 ls.length c1, slL b2 ls.length c2, .bool false, .int .i64 i, x7, x5, x6], ⟨H, e⟩⟩ =
      some (.exit 0, ⟨[slL b1 ls.length c1, slL b2 ls.length c2, .bool false, .int .i64 ls.length, x7, y5, y6], ⟨H, e⟩⟩)
  | 0, i, x5, x6, x7, hk => by
    have hi : i = ls.length := by omega
    subst hi
    refine ⟨.bool false, x6, ?_⟩
    rw [run_loop]
    simp +contextual only [w_l_eqLoadS_1, Nat.lt_irrefl, decide_false, go_sem, entry, joinEsc, if_pos, reduceIte, Nat.reduceAdd, Nat.reduceLeDiff, Nat.reduceLT, Nat.reduceEqDiff]
  | k + 1, i, x5, x6, x7, hk => by
    have hi : i < ls.length := by omega
    obtain ⟨y5, y6, ih⟩ := loop_l_eqLoadS (c1 := c1) (c2 := c2) h1 h2 hn k (i + 1) (.bool true) (.bool false) x7 (by omega)
    refine ⟨y5, y6, ?_⟩
    rw [run_loop]
    have hl : ls[i]? = some ls[i] := List.getElem?_eq_getElem hi
    simp +contextual only [w_l_eqLoadS_1, h1, h2, hi, hl, part_encL hl, e_l_eqLoad, wrap_succ (show i < 9223372036854775807 by omega), decide_true, Bool.not_true, go_sem, entry, joinEsc, if_pos, reduceIte, Nat.reduceAdd, Nat.reduceLeDiff, Nat.reduceLT, Nat.reduceEqDiff]
    exact ih

end Go.Proofs.Ytlcklonakjhoiaa.Slim

/- The reference's and the program's small functions on rows. -/
namespace Go.Proofs.Ytlcklonakjhoiaa.Slim
open Go
set_option linter.unusedSimpArgs false
set_option linter.unusedVariables false

variable {pr : Prims} {H : List Blk} {e : Option Nat}

theorem e_i_within (x a b : Int) : call T pr f_i_within [.int .i64 x, .int .i64 a, .int .i64 b] ⟨H, e⟩ = some (.bool (decide (a ≤ x) && decide (x ≤ b)), ⟨H, e⟩) := by
  rw [call_eq t_i_within]
  simp +contextual only [a_i_within, c_i_within, go_sem, entry, joinEsc, if_pos, reduceIte, Nat.reduceAdd, Nat.reduceLeDiff, Nat.reduceLT, Nat.reduceEqDiff]

theorem e_s_l1In (x a b : Int) : call T pr f_s_l1In [.int .i64 x, .int .i64 a, .int .i64 b] ⟨H, e⟩ = some (.bool (decide (a ≤ x) && decide (x ≤ b)), ⟨H, e⟩) := by
  rw [call_eq t_s_l1In]
  simp +contextual only [a_s_l1In, c_s_l1In, go_sem, entry, joinEsc, if_pos, reduceIte, Nat.reduceAdd, Nat.reduceLeDiff, Nat.reduceLT, Nat.reduceEqDiff]

theorem e_s_l2In (x : Int) : call T pr f_s_l2In [.int .i64 x] ⟨H, e⟩ = some (.bool (decide (0 ≤ x) && decide (x ≤ 60)), ⟨H, e⟩) := by
  rw [call_eq t_s_l2In]
  simp +contextual only [a_s_l2In, c_s_l2In, e_s_l1In, go_sem, entry, joinEsc, if_pos, reduceIte, Nat.reduceAdd, Nat.reduceLeDiff, Nat.reduceLT, Nat.reduceEqDiff]

theorem e_i_isPlace (x : Int) : call T pr f_i_isPlace [.int .i64 x] ⟨H, e⟩ = some (.bool (decide (0 ≤ x) && decide (x ≤ 60)), ⟨H, e⟩) := by
  rw [call_eq t_i_isPlace]
  simp +contextual only [a_i_isPlace, c_i_isPlace, e_i_within, go_sem, entry, joinEsc, if_pos, reduceIte, Nat.reduceAdd, Nat.reduceLeDiff, Nat.reduceLT, Nat.reduceEqDiff]

theorem e_i_isWeight (x : Int) : call T pr f_i_isWeight [.int .i64 x] ⟨H, e⟩ = some (.bool (decide (1 ≤ x) && decide (x ≤ 99)), ⟨H, e⟩) := by
  rw [call_eq t_i_isWeight]
  simp +contextual only [a_i_isWeight, c_i_isWeight, e_i_within, go_sem, entry, joinEsc, if_pos, reduceIte, Nat.reduceAdd, Nat.reduceLeDiff, Nat.reduceLT, Nat.reduceEqDiff]

def okL (l : Ld) : Bool := (decide (0 ≤ l.1) && decide (l.1 ≤ 60)) && (decide (1 ≤ l.2) && decide (l.2 ≤ 99))
def rowOk (ls : List Ld) : Bool := decide (ls.length ≤ 12) && ls.all okL

theorem e_i_IsRow_1 (x y : Int) : call T pr f_i_IsRow_1 [.agg [.int .i64 x, .int .i64 y]] ⟨H, e⟩ = some (.bool (!okL (x, y)), ⟨H, e⟩) := by
  rw [call_eq t_i_IsRow_1]
  simp +contextual only [a_i_IsRow_1, c_i_IsRow_1, e_i_isPlace, e_i_isWeight, go_sem, entry, joinEsc, if_pos, reduceIte, Nat.reduceAdd, Nat.reduceLeDiff, Nat.reduceLT, Nat.reduceEqDiff]
  unfold okL
  by_cases h1 : (decide (0 ≤ x) && decide (x ≤ 60)) = true <;> simp [h1, finish_one, finish_one', under_bool]

/-- the loop of l2Row -/
theorem loop_s_l2Row {b : Nat} {c : Option Nat} {ls : List Ld} (h : cellsAt H b = some (encL ls)) :
    ∀ (k i : Nat) (y3 y4 : AV), k + i = 13 → ∃ z2 z3 z4, run T pr (.loop w_s_l2Row_1) ⟨[slL b ls.length c, .bool false, .int .i64 i, y3, y4], ⟨H, e⟩⟩ =
      some (if ((ls.drop i).take k).all okL = true then Ex.exit 0 else Ex.ret, ⟨[slL b ls.length c, .bool false, z2, z3, z4], ⟨H, e⟩⟩)
  | 0, i, y3, y4, hk => by
    have hi : i = 13 := by omega
    subst hi
    refine ⟨.int .i64 13, .bool false, y4, ?_⟩
    rw [run_loop]
    generalize run T pr (.loop w_s_l2Row_1) = R
    have h12 : ¬ ((13 : Nat) : Int) ≤ 12 := by omega
    simp +contextual only [w_s_l2Row_1, List.take_zero, List.all_nil, h12, decide_false, go_sem, entry, joinEsc, if_pos, reduceIte, Nat.reduceAdd, Nat.reduceLeDiff, Nat.reduceLT, Nat.reduceEqDiff]
    rfl
  | k + 1, i, y3, y4, hk => by
    by_cases hi : i < ls.length
    · have hl : ls[i]? = some ls[i] := List.getElem?_eq_getElem hi
      have h12 : ((i : Nat) : Int) ≤ 12 := by omega
      obtain ⟨z2, z3, z4, ih⟩ := loop_s_l2Row (c := c) h k (i + 1) (.bool true) (.bool false) (by omega)
      rw [List.drop_eq_getElem_cons hi, List.take_succ_cons, List.all_cons]
      have hok : okL ls[i] = ((decide (0 ≤ ls[i].1) && decide (ls[i].1 ≤ 60)) && (decide (1 ≤ ls[i].2) && decide (ls[i].2 ≤ 99))) := rfl
      rw [hok, run_loop]
      generalize run T pr (.loop w_s_l2Row_1) = R at ih ⊢
      cases h1 : (decide (0 ≤ ls[i].1) && decide (ls[i].1 ≤ 60)) with
      | false =>
        refine ⟨.int .i64 i, .bool true, .bool true, ?_⟩
        simp +contextual only [w_s_l2Row_1, h, hi, hl, h1, h12, part_encL0 _ hl, part_encL1 _ hl, e_s_l2In, e_s_l1In, decide_true, go_sem, entry, joinEsc, if_pos, reduceIte, Nat.reduceAdd, Nat.reduceLeDiff, Nat.reduceLT, Nat.reduceEqDiff]
      | true =>
        cases h2 : (decide (1 ≤ ls[i].2) && decide (ls[i].2 ≤ 99)) with
        | false =>
          refine ⟨.int .i64 i, .bool true, .bool true, ?_⟩
          simp +contextual only [w_s_l2Row_1, h, hi, hl, h1, h2, h12, part_encL0 _ hl, part_encL1 _ hl, e_s_l2In, e_s_l1In, decide_true, go_sem, entry, joinEsc, if_pos, reduceIte, Nat.reduceAdd, Nat.reduceLeDiff, Nat.reduceLT, Nat.reduceEqDiff]
        | true =>
          refine ⟨z2, z3, z4, ?_⟩
          simp +contextual only [w_s_l2Row_1, h, hi, hl, h1, h2, h12, part_encL0 _ hl, part_encL1 _ hl, e_s_l2In, e_s_l1In, wrap_succ (show i < 9223372036854775807 by omega), decide_true, go_sem, entry, joinEsc, if_pos, reduceIte, Nat.reduceAdd, Nat.reduceLeDiff, Nat.reduceLT, Nat.reduceEqDiff]
          exact ih
    · refine ⟨.int .i64 i, .bool false, y4, ?_⟩
      rw [run_loop]
      generalize run T pr (.loop w_s_l2Row_1) = R
      have hd : ls.drop i = [] := List.drop_eq_nil_of_le (by omega)
      simp +contextual only [w_s_l2Row_1, hd, List.take_nil, List.all_nil, hi, decide_false, go_sem, entry, joinEsc, if_pos, reduceIte, Nat.reduceAdd, Nat.reduceLeDiff, Nat.reduceLT, Nat.reduceEqDiff]

theorem e_s_l2Row {b : Nat} {c : Option Nat} {ls : List Ld} (h : cellsAt H b = some (encL ls)) : call T pr f_s_l2Row [slL b ls.length c] ⟨H, e⟩ = some (.bool (rowOk ls), ⟨H, e⟩) := by
  obtain ⟨z2, z3, z4, hl⟩ := loop_s_l2Row (pr := pr) (e := none) (c := c) h 13 0 .undef .undef rfl
  rw [call_eq t_s_l2Row]
  have h0 : ((0 : Nat) : Int) = 0 := rfl
  rw [h0] at hl
  simp +contextual only [a_s_l2Row, c_s_l2Row, hl, List.drop_zero, go_sem, entry, joinEsc, if_pos, reduceIte, Nat.reduceAdd, Nat.reduceLeDiff, Nat.reduceLT, Nat.reduceEqDiff]
  have hr : rowOk ls = (decide (ls.length ≤ 12) && (ls.take 13).all okL) := by
    unfold rowOk
    by_cases h12 : ls.length ≤ 12
    · rw [List.take_of_length_le (by omega)]
    · simp [h12]
  rw [hr]
  have hi : ((ls.length : Nat) : Int) ≤ 12 ↔ ls.length ≤ 12 := by omega
  cases h3 : (ls.take 13).all okL <;> simp +contextual only [hi, go_sem, entry, joinEsc, if_pos, reduceIte, Nat.reduceAdd, Nat.reduceLeDiff, Nat.reduceLT, Nat.reduceEqDiff] <;> simp [finish_one']

end Go.Proofs.Ytlcklonakjhoiaa.Slim

/- Copies of rows, searches in rows, and moments. -/
namespace Go.Proofs.Ytlcklonakjhoiaa.Slim
open Go
set_option linter.unusedSimpArgs false
set_option linter.unusedVariables false

variable {pr : Prims} {H : List Blk} {e : Option Nat}

theorem setRange_encL {X : List Ld} {i : Nat} {a b : Int} (h : i < X.length) : setRange (encL X) (i * 2) [.int .i64 a, .int .i64 b] = encL (X.set i (a, b)) := by
  induction X generalizing i with
  | nil => simp at h
  | cons x X ih =>
    cases i with
    | zero => simp [encL, setRange]
    | succ i =>
      rw [show (i + 1) * 2 = i * 2 + 1 + 1 by omega, encL, setRange_k, setRange_k, ih (by simpa using h)]
      rfl

theorem under_encL (n : Nat) : ∀ ls : List Ld, ((encL ls).all fun c => c.under n) = true
  | [] => rfl
  | l :: ls => by simp [encL, AV.under, under_encL n ls]

theorem zeros_encL : ∀ n, zeros n [.int .i64 0, .int .i64 0] = encL (List.replicate n (0, 0))
  | 0 => rfl
  | n + 1 => by
    have := zeros_encL n
    unfold zeros at *
    simp only [List.replicate_succ, List.flatten_cons, encL, List.cons_append, List.nil_append, this]

theorem take_set_succ {X ls : List Ld} {i : Nat} (hi : i < ls.length) (hX : X.length = ls.length) (h : X.take i = ls.take i) : (X.set i ls[i]).take (i + 1) = ls.take (i + 1) := by
  rw [List.take_succ_eq_append_getElem (by rw [List.length_set]; omega), List.take_succ_eq_append_getElem hi]
  rw [List.take_set_of_le (Nat.le_refl _), h]
  simp

/-- a slice of loads, as a law is handed it: nil or not -/
def ArgL (H : List Blk) (av : AV) (ls : List Ld) : Prop :=
  ∃ p sz c, av = .slice p sz ls.length c ∧ ls.length ≤ maxLen ∧ (ls ≠ [] → sz = 2 ∧ ∃ b, p = some (b, 0) ∧ cellsAt H b = some (encL ls))

/-- the loop of toLoadS -/
theorem loop_l_toLoadS {p : Option (Nat × Nat)} {sz : Nat} {c : Option Nat} {ls : List Ld} {r : AV} (ha : ls ≠ [] → sz = 2 ∧ ∃ b, p = some (b, 0) ∧ cellsAt H b = some (encL ls)) (hn : ls.length ≤ 1048576) :
    ∀ (k i : Nat) (X : List Ld) (y4 : AV), k + i = ls.length → X.length = ls.length → X.take i = ls.take i → ∃ z4, run T pr (.loop w_l_toLoadS_1) ⟨[.slice p sz ls.length c, r, slL H.length ls.length (some ls.length), .int .i64 i, y4], ⟨H ++ [.cells (encL X) true], e⟩⟩ =
      some (Ex.exit 0, ⟨[.slice p sz ls.length c, r, slL H.length ls.length (some ls.length), .int .i64 ls.length, z4], ⟨H ++ [.cells (encL ls) true], e⟩⟩)
  | 0, i, X, y4, hk, hX, ht => by
    have hi : i = ls.length := by omega
    subst hi
    rw [List.take_of_length_le (by omega), List.take_of_length_le (by omega)] at ht
    subst ht
    refine ⟨.bool false, ?_⟩
    rw [run_loop]
    generalize run T pr (.loop w_l_toLoadS_1) = R
    simp +contextual only [w_l_toLoadS_1, Nat.lt_irrefl, decide_false, go_sem, entry, joinEsc, if_pos, reduceIte, Nat.reduceAdd, Nat.reduceLeDiff, Nat.reduceLT, Nat.reduceEqDiff]
  | k + 1, i, X, y4, hk, hX, ht => by
    have hi : i < ls.length := by omega
    have hl : ls[i]? = some ls[i] := List.getElem?_eq_getElem hi
    obtain ⟨rfl, b, rfl, hb⟩ := ha (by intro h; subst h; simp at hi)
    obtain ⟨z4, ih⟩ := loop_l_toLoadS (c := c) (r := r) ha hn k (i + 1) (X.set i ls[i]) (.bool true) (by omega) (by simpa using hX) (take_set_succ hi hX ht)
    refine ⟨z4, ?_⟩
    rw [run_loop]
    generalize run T pr (.loop w_l_toLoadS_1) = R at ih ⊢
    have hle : i * 2 + 2 ≤ (encL X).length := by rw [encL_length]; omega
    simp +contextual only [w_l_toLoadS_1, cells_mono hb, hi, hl, part_encL hl, e_l_toLoad, hle, setRange_encL (show i < X.length by omega), wrap_succ (show i < 9223372036854775807 by omega), decide_true, go_sem, entry, joinEsc, if_pos, reduceIte, Nat.reduceAdd, Nat.reduceLeDiff, Nat.reduceLT, Nat.reduceEqDiff]
    exact ih

theorem e_l_toLoadS {av : AV} {ls : List Ld} (ha : ArgL H av ls) (hn : ls.length ≤ 1048576) : call T pr f_l_toLoadS [av] ⟨H, e⟩ = some (slL H.length ls.length (some ls.length), ⟨H ++ [.cells (encL ls) true], e⟩) := by
  obtain ⟨p, sz, c, rfl, _, ha⟩ := ha
  obtain ⟨z4, hl⟩ := loop_l_toLoadS (pr := pr) (e := none) (c := c) (r := .slice none 0 0 none) ha hn ls.length 0 (List.replicate ls.length (0, 0)) .undef (by omega) (by simp) (by simp)
  rw [call_eq t_l_toLoadS]
  have h0 : ((0 : Nat) : Int) = 0 := rfl
  have hmb : (ls.length : Int) * ((16 : Nat) : Int) ≤ ((maxBytes : Nat) : Int) := by unfold maxBytes; omega
  rw [h0, ← zeros_encL] at hl
  simp +contextual only [a_l_toLoadS, c_l_toLoadS, hmb, hl, under_encL, go_sem, entry, joinEsc, if_pos, reduceIte, Nat.reduceAdd, Nat.reduceLeDiff, Nat.reduceLT, Nat.reduceEqDiff]

end Go.Proofs.Ytlcklonakjhoiaa.Slim

/- Searches in rows, and moments. -/
namespace Go.Proofs.Ytlcklonakjhoiaa.Slim
open Go
set_option linter.unusedSimpArgs false
set_option linter.unusedVariables false

variable {pr : Prims} {H : List Blk} {e : Option Nat}

abbrev ldV (l : Ld) : AV := .agg [.int .i64 l.1, .int .i64 l.2]

/-- the loop of IndexFunc -/
theorem loop_IndexFunc {b : Nat} {c : Option Nat} {ls : List Ld} {g : FuncId} {first cap : List AV} {p : Ld → Bool} {r : AV} (h : cellsAt H b = some (encL ls)) (hn : ls.length ≤ 9223372036854775806)
    (hf : ∀ l ∈ ls, call T pr g (first ++ AV.agg [.int .i64 l.1, .int .i64 l.2] :: cap) ⟨H, e⟩ = some (.bool (p l), ⟨H, e⟩)) :
    ∀ (k i : Nat) (y3 y6 y7 : AV), k + i = ls.length → ∃ (j : Nat) (z3 z5 z6 z7 : AV), run T pr (.loop w_slices_IndexFunc_Si_Load_i_Load_1) ⟨[slL b ls.length c, .fn g first cap, r, y3, .int .i64 ls.length, .int .i64 i, y6, y7], ⟨H, e⟩⟩ =
      some (if (ls.drop i).any p = true then Ex.ret else Ex.exit 0, ⟨[slL b ls.length c, .fn g first cap, if (ls.drop i).any p = true then .int .i64 j else r, z3, .int .i64 ls.length, z5, z6, z7], ⟨H, e⟩⟩)
  | 0, i, y3, y6, y7, hk => by
    have hi : i = ls.length := by omega
    subst hi
    refine ⟨0, y3, .int .i64 ls.length, .bool false, y7, ?_⟩
    rw [run_loop]
    generalize run T pr (.loop w_slices_IndexFunc_Si_Load_i_Load_1) = R
    simp +contextual only [w_slices_IndexFunc_Si_Load_i_Load_1, Nat.lt_irrefl, decide_false, List.drop_length, List.any_nil, go_sem, entry, joinEsc, if_pos, reduceIte, Nat.reduceAdd, Nat.reduceLeDiff, Nat.reduceLT, Nat.reduceEqDiff]
  | k + 1, i, y3, y6, y7, hk => by
    have hi : i < ls.length := by omega
    have hl : ls[i]? = some ls[i] := List.getElem?_eq_getElem hi
    have hc := hf ls[i] (List.getElem_mem hi)
    rw [run_loop, List.drop_eq_getElem_cons hi, List.any_cons]
    obtain ⟨j, z3, z5, z6, z7, ih⟩ := loop_IndexFunc (c := c) (r := r) h hn hf k (i + 1) (.int .i64 i) (.bool true) (.bool false) (by omega)
    generalize run T pr (.loop w_slices_IndexFunc_Si_Load_i_Load_1) = R at ih ⊢
    cases hp : p ls[i] with
    | true =>
      refine ⟨i, .int .i64 i, .int .i64 i, .bool true, .bool true, ?_⟩
      rw [hp] at hc
      simp +contextual only [w_slices_IndexFunc_Si_Load_i_Load_1, h, hi, hl, part_encL hl, hc, decide_true, go_sem, entry, joinEsc, if_pos, reduceIte, Nat.reduceAdd, Nat.reduceLeDiff, Nat.reduceLT, Nat.reduceEqDiff]
    | false =>
      refine ⟨j, z3, z5, z6, z7, ?_⟩
      rw [hp] at hc
      simp +contextual only [w_slices_IndexFunc_Si_Load_i_Load_1, h, hi, hl, part_encL hl, hc, wrap_succ (show i < 9223372036854775807 by omega), decide_true, go_sem, entry, joinEsc, if_pos, reduceIte, Nat.reduceAdd, Nat.reduceLeDiff, Nat.reduceLT, Nat.reduceEqDiff]
      exact ih

theorem e_IndexFunc {b : Nat} {c : Option Nat} {ls : List Ld} {g : FuncId} {first cap : List AV} {p : Ld → Bool} (h : cellsAt H b = some (encL ls)) (hn : ls.length ≤ 9223372036854775806)
    (hf : ∀ l ∈ ls, call T pr g (first ++ AV.agg [.int .i64 l.1, .int .i64 l.2] :: cap) ⟨H, none⟩ = some (.bool (p l), ⟨H, none⟩)) :
    ∃ j : Nat, call T pr f_slices_IndexFunc_Si_Load_i_Load [slL b ls.length c, .fn g first cap] ⟨H, e⟩ = some (.int .i64 (if ls.any p = true then j else -1), ⟨H, e⟩) := by
  obtain ⟨j, z3, z5, z6, z7, hl⟩ := loop_IndexFunc (pr := pr) (e := none) (c := c) (r := .int .i64 0) h hn hf ls.length 0 .undef .undef .undef rfl
  refine ⟨j, ?_⟩
  have h0 : ((0 : Nat) : Int) = 0 := rfl
  rw [h0] at hl
  rw [call_eq t_slices_IndexFunc_Si_Load_i_Load]
  simp +contextual only [a_slices_IndexFunc_Si_Load_i_Load, c_slices_IndexFunc_Si_Load_i_Load, hl, go_sem, entry, joinEsc, if_pos, reduceIte, Nat.reduceAdd, Nat.reduceLeDiff, Nat.reduceLT, Nat.reduceEqDiff]
  cases hp : ls.any p <;> simp +contextual only [go_sem, entry, joinEsc, if_pos, reduceIte, Nat.reduceAdd, Nat.reduceLeDiff, Nat.reduceLT, Nat.reduceEqDiff]

theorem e_ContainsFunc {b : Nat} {c : Option Nat} {ls : List Ld} {g : FuncId} {first cap : List AV} {p : Ld → Bool} (h : cellsAt H b = some (encL ls)) (hn : ls.length ≤ 9223372036854775806)
    (hf : ∀ l ∈ ls, call T pr g (first ++ AV.agg [.int .i64 l.1, .int .i64 l.2] :: cap) ⟨H, none⟩ = some (.bool (p l), ⟨H, none⟩)) :
    call T pr f_slices_ContainsFunc_Si_Load_i_Load [slL b ls.length c, .fn g first cap] ⟨H, e⟩ = some (.bool (ls.any p), ⟨H, e⟩) := by
  obtain ⟨j, hl⟩ := e_IndexFunc (pr := pr) (e := none) (c := c) h hn hf
  rw [call_eq t_slices_ContainsFunc_Si_Load_i_Load]
  simp +contextual only [a_slices_ContainsFunc_Si_Load_i_Load, c_slices_ContainsFunc_Si_Load_i_Load, hl, go_sem, entry, joinEsc, if_pos, reduceIte, Nat.reduceAdd, Nat.reduceLeDiff, Nat.reduceLT, Nat.reduceEqDiff]
  cases hp : ls.any p <;> simp +contextual [finish_one', under_bool]

theorem e_i_IsRow {b : Nat} {c : Option Nat} {ls : List Ld} (h : cellsAt H b = some (encL ls)) : call T pr f_i_IsRow [slL b ls.length c] ⟨H, e⟩ = some (.bool (rowOk ls), ⟨H, e⟩) := by
  rw [call_eq t_i_IsRow]
  have hi : (12 : Int) < ((ls.length : Nat) : Int) ↔ 12 < ls.length := by omega
  by_cases h12 : ls.length ≤ 12
  · have hc := e_ContainsFunc (pr := pr) (e := none) (c := c) (g := f_i_IsRow_1) (first := []) (cap := []) (p := fun l => !okL l) h (by omega) (fun l _ => e_i_IsRow_1 l.1 l.2)
    have h12' : ¬ 12 < ls.length := by omega
    have hr : rowOk ls = !(ls.any fun l => !okL l) := by
      unfold rowOk
      rw [List.any_eq_not_all_not]
      simp [h12]
    rw [hr]
    simp +contextual only [a_i_IsRow, c_i_IsRow, hc, hi, h12', decide_false, go_sem, entry, joinEsc, if_pos, reduceIte, Nat.reduceAdd, Nat.reduceLeDiff, Nat.reduceLT, Nat.reduceEqDiff]
  · have h12' : 12 < ls.length := by omega
    have hr : rowOk ls = false := by unfold rowOk; simp [h12]
    rw [hr]
    simp +contextual only [a_i_IsRow, c_i_IsRow, hi, h12', decide_true, go_sem, entry, joinEsc, if_pos, reduceIte, Nat.reduceAdd, Nat.reduceLeDiff, Nat.reduceLT, Nat.reduceEqDiff]

/-- a moment, as both sides sum it up -/
def momStep (p : Int) (a : Int) (l : Ld) : Int := IntKind.i64.wrap (a + IntKind.i64.wrap (l.2 * IntKind.i64.wrap (l.1 - p)))
def momW (ls : List Ld) (p : Int) : Int := ls.foldl (momStep p) 0

/-- the side to which a row tips -/
def sideW (ls : List Ld) (a b : Int) : Int := if momW ls a < 0 then -1 else if 0 < momW ls b then 1 else 0

end Go.Proofs.Ytlcklonakjhoiaa.Slim

/- RestsOn, and its law. -/
namespace Go.Proofs.Ytlcklonakjhoiaa.Slim
open Go
set_option linter.unusedSimpArgs false
set_option linter.unusedVariables false

variable {pr : Prims} {H : List Blk} {e : Option Nat}

theorem ArgL.more {av : AV} {ls : List Ld} (h : ArgL H av ls) (G : List Blk) : ArgL (H ++ G) av ls := by
  obtain ⟨p, sz, c, h1, h2, h3⟩ := h
  refine ⟨p, sz, c, h1, h2, fun hne => ?_⟩
  obtain ⟨h4, b, h5, h6⟩ := h3 hne
  exact ⟨h4, b, h5, cells_mono h6 G⟩

theorem loads_of : ∀ (es : List (List Int)), (∀ e ∈ es, e.length = 2) → ∃ ls : List Ld, es.flatten.map (AV.int .i64) = encL ls ∧ ls.length = es.length
  | [], _ => ⟨[], rfl, rfl⟩
  | e :: es, h => by
    obtain ⟨ls, h1, h2⟩ := loads_of es (fun e' h' => h e' (by simp [h']))
    have h0 := h e (by simp)
    match e, h0 with
    | [x, y], _ => exact ⟨(x, y) :: ls, by simp [encL, h1], by simp [h2]⟩

theorem argL_of {av : AV} {es : List (List Int)} (h : IsArg H av .i64 2 es) : ∃ ls, ArgL H av ls := by
  obtain ⟨h1, h2⟩ := h
  rcases h2 with ⟨rfl, rfl⟩ | ⟨b, cap, rfl, h3, h4, h5⟩
  · exact ⟨[], none, 0, none, rfl, Nat.zero_le _, fun h => absurd rfl h⟩
  · obtain ⟨ls, h6, h7⟩ := loads_of es (fun e he => (h1 e he).1)
    refine ⟨ls, some (b, 0), 2, some cap, by rw [h7], by omega, fun _ => ⟨rfl, b, rfl, ?_⟩⟩
    unfold cellsAt
    rw [h5, h6]

theorem e_l_eqLoadS {b1 b2 : Nat} {c1 c2 : Option Nat} {ls : List Ld} (h1 : cellsAt H b1 = some (encL ls)) (h2 : cellsAt H b2 = some (encL ls)) (hn : ls.length ≤ 9223372036854775806) :
    call T pr f_l_eqLoadS [slL b1 ls.length c1, slL b2 ls.length c2] ⟨H, e⟩ = some (.bool true, ⟨H, e⟩) := by
  obtain ⟨z5, z6, hl⟩ := loop_l_eqLoadS (pr := pr) (e := none) (c1 := c1) (c2 := c2) h1 h2 hn ls.length 0 .undef .undef (.bool false) rfl
  have h0 : ((0 : Nat) : Int) = 0 := rfl
  rw [h0] at hl
  rw [call_eq t_l_eqLoadS]
  simp +contextual only [a_l_eqLoadS, c_l_eqLoadS, hl, decide_true, go_sem, entry, joinEsc, if_pos, reduceIte, Nat.reduceAdd, Nat.reduceLeDiff, Nat.reduceLT, Nat.reduceEqDiff]

end Go.Proofs.Ytlcklonakjhoiaa.Slim

/- Rows that grow. -/
namespace Go.Proofs.Ytlcklonakjhoiaa.Slim
open Go
set_option linter.unusedSimpArgs false
set_option linter.unusedVariables false

variable {pr : Prims} {H : List Blk} {e : Option Nat}

/-- what an append leaves of the blocks before it -/
def killIf (cap : Option Nat) (j : Nat) (G : List Blk) : List Blk := if cap = some 0 then G else G.set j .dead
theorem killIf_length (cap : Option Nat) (j : Nat) (G : List Blk) : (killIf cap j G).length = G.length := by unfold killIf; split <;> simp

theorem appendV_more {G : List Blk} {j k n sz bytes : Nat} {cs new : List AV} {cap : Option Nat} {str : Bool} {x : AV} (hb : G[j]? = some (.cells cs true)) (hx : srcCells str (H ++ G) x = some (k, new)) (hk : 0 < k)
    (hcs : cs.length = n * sz) (hnew : new.length = k * sz) (hmax : (n + k) * bytes ≤ maxBytes) (hcap : cap = some 0 → n = 0) :
    appendV (H ++ G) e str sz bytes (.slice (some (H.length + j, 0)) sz n cap) x = some (.slice (some (H.length + G.length, 0)) sz (n + k) none, ⟨H ++ (killIf cap j G ++ [.cells (cs ++ new) true]), e⟩) := by
  unfold appendV
  simp only [blkAt_newk, hb, hx]
  rw [if_pos ⟨trivial, hmax, hnew, by omega⟩]
  unfold killIf
  by_cases hc : cap = some 0
  · have hn := hcap hc
    subst hn
    have : cs = [] := by simpa using hcs
    subst this
    rw [if_pos ⟨hc, hk⟩, if_pos hc]
    simp
  · rw [if_neg (fun h => hc h.1), if_pos trivial, if_neg hc]
    have h1 : List.take (n * sz) (List.drop 0 cs) = cs := by rw [List.drop_zero, ← hcs, List.take_length]
    rw [h1, set_newk]
    simp

theorem srcCells_new (L : List Blk) (n sz : Nat) (cap : Option Nat) (cs : List AV) (b : Nat) (h : cellsAt L b = some cs) (hl : cs.length = n * sz) : srcCells false L (.slice (some (b, 0)) sz n cap) = some (n, cs) := by
  unfold srcCells
  simp only [Bool.false_eq_true, if_false, h]
  rw [if_pos (by omega), List.drop_zero, ← hl, List.take_length]

/-- one load more -/
theorem append_ld {G : List Blk} {j : Nat} {o : List Ld} {cap : Option Nat} (hG : G[j]? = some (.cells (encL o) true)) (hcap : cap = some 0 → o = []) (hmb : (o.length + 1) * 16 ≤ maxBytes) (a b : Int) :
    appendV (H ++ (G ++ [.cells [.int .i64 a, .int .i64 b] true])) e false 2 16 (slL (H.length + j) o.length cap) (.slice (some (H.length + G.length, 0)) 2 1 (some 1)) =
      some (slL (H.length + (G.length + 1)) (o.length + 1) none, ⟨H ++ (killIf cap j (G ++ [.cells [.int .i64 a, .int .i64 b] true]) ++ [.cells (encL o ++ [.int .i64 a, .int .i64 b]) true]), e⟩) := by
  have hj : j < G.length := (List.getElem?_eq_some_iff.mp hG).1
  rw [appendV_more (k := 1) (cs := encL o) (new := [.int .i64 a, .int .i64 b]) (by rw [List.getElem?_append_left hj]; exact hG)
    (srcCells_new _ 1 2 _ _ _ (by rw [cellsAt_newk, cellsAt_new0, cellsAt_cons0]) rfl) (by omega) (encL_length o) rfl hmb (fun h => by rw [hcap h]; rfl)]
  simp

/-- the loads of a convoy that have come so far -/
def rowAt (x : Int) (ls : List Ld) : List Ld := (ls.filter fun l => decide (l.1 ≤ x)).map fun l => (IntKind.i64.wrap (x - l.1), l.2)

end Go.Proofs.Ytlcklonakjhoiaa.Slim

/- Slices of numbers. -/
namespace Go.Proofs.Ytlcklonakjhoiaa.Slim

open Go

set_option linter.unusedSimpArgs false

set_option linter.unusedVariables false

variable {pr : Prims} {H : List Blk} {e : Option Nat}

abbrev encI (ls : List Int) : List AV := ls.map (AV.int .i64)

abbrev slI (b n : Nat) (c : Option Nat) : AV := .slice (some (b, 0)) 1 n c

theorem part_encI {ls : List Int} {i : Nat} {x : Int} (sz : Nat) (h : ls[i]? = some x) : part false (encI ls) i sz = some (.int .i64 x) := by
  rw [part_false, List.getElem?_map, h]; rfl

theorem under_encI (n : Nat) : ∀ ls : List Int, ((encI ls).all fun c => c.under n) = true
  | [] => rfl
  | l :: ls => by simp [encI, AV.under]

theorem zeros_encI : ∀ n, zeros n [.int .i64 0] = encI (List.replicate n 0)
  | 0 => rfl
  | n + 1 => by
    have := zeros_encI n
    unfold zeros encI at *
    simp only [List.replicate_succ, List.flatten_cons, List.map_cons, List.cons_append, List.nil_append, this]

theorem setRange_encI {X : List Int} {i : Nat} {a : Int} (h : i < X.length) : setRange (encI X) i [.int .i64 a] = encI (X.set i a) := by
  induction X generalizing i with
  | nil => simp at h
  | cons x X ih =>
    cases i with
    | zero => simp [encI, setRange]
    | succ i =>
      have := ih (i := i) (by simpa using h)
      simp only [encI, List.map_cons, List.set_cons_succ] at *
      rw [setRange_k, this]

theorem take_set_succ' {X ls : List Int} {i : Nat} (hi : i < ls.length) (hX : X.length = ls.length) (h : X.take i = ls.take i) : (X.set i ls[i]).take (i + 1) = ls.take (i + 1) := by
  rw [List.take_succ_eq_append_getElem (by rw [List.length_set]; omega), List.take_succ_eq_append_getElem hi]
  rw [List.take_set_of_le (Nat.le_refl _), h]
  simp

/-- a slice of numbers, as a law is handed it -/
def ArgI (H : List Blk) (av : AV) (ls : List Int) : Prop :=
  ∃ p sz c, av = .slice p sz ls.length c ∧ ls.length ≤ maxLen ∧ (ls ≠ [] → sz = 1 ∧ ∃ b, p = some (b, 0) ∧ cellsAt H b = some (encI ls))

theorem ArgI.more {av : AV} {ls : List Int} (h : ArgI H av ls) (G : List Blk) : ArgI (H ++ G) av ls := by
  obtain ⟨p, sz, c, h1, h2, h3⟩ := h
  refine ⟨p, sz, c, h1, h2, fun hne => ?_⟩
  obtain ⟨h4, b, h5, h6⟩ := h3 hne
  exact ⟨h4, b, h5, cells_mono h6 G⟩

theorem ints_of : ∀ (es : List (List Int)), (∀ e ∈ es, e.length = 1) → ∃ ls : List Int, es.flatten = ls ∧ ls.length = es.length
  | [], _ => ⟨[], rfl, rfl⟩
  | e :: es, h => by
    obtain ⟨ls, h1, h2⟩ := ints_of es (fun e' h' => h e' (by simp [h']))
    have h0 := h e (by simp)
    match e, h0 with
    | [x], _ => exact ⟨x :: ls, by simp [h1], by simp [h2]⟩

theorem argI_of {av : AV} {es : List (List Int)} (h : IsArg H av .i64 1 es) : ∃ ls, ArgI H av ls := by
  obtain ⟨h1, h2⟩ := h
  rcases h2 with ⟨rfl, rfl⟩ | ⟨b, cap, rfl, h3, h4, h5⟩
  · exact ⟨[], none, 0, none, rfl, Nat.zero_le _, fun h => absurd rfl h⟩
  · obtain ⟨ls, h6, h7⟩ := ints_of es (fun e he => (h1 e he).1)
    refine ⟨ls, some (b, 0), 1, some cap, by rw [h7], by omega, fun _ => ⟨rfl, b, rfl, ?_⟩⟩
    unfold cellsAt
    rw [h5, h6]

theorem loop_l_toIntS {p : Option (Nat × Nat)} {sz : Nat} {c : Option Nat} {ls : List Int} {r : AV} (ha : ls ≠ [] → sz = 1 ∧ ∃ b, p = some (b, 0) ∧ cellsAt H b = some (encI ls)) (hn : ls.length ≤ 1048576) :
    ∀ (k i : Nat) (X : List Int) (y4 : AV), k + i = ls.length → X.length = ls.length → X.take i = ls.take i → ∃ z4, run T pr (.loop w_l_toIntS_1) ⟨[.slice p sz ls.length c, r, slI H.length ls.length (some ls.length), .int .i64 i, y4], ⟨H ++ [.cells (encI X) true], e⟩⟩ =
      some (Ex.exit 0, ⟨[.slice p sz ls.length c, r, slI H.length ls.length (some ls.length), .int .i64 ls.length, z4], ⟨H ++ [.cells (encI ls) true], e⟩⟩)
  | 0, i, X, y4, hk, hX, ht => by
    have hi : i = ls.length := by omega
    subst hi
    rw [List.take_of_length_le (by omega), List.take_of_length_le (by omega)] at ht
    subst ht
    refine ⟨.bool false, ?_⟩
    rw [run_loop]
    generalize run T pr (.loop w_l_toIntS_1) = R
    simp +contextual only [w_l_toIntS_1, Nat.lt_irrefl, decide_false, go_sem, entry, joinEsc, if_pos, reduceIte, Nat.reduceAdd, Nat.reduceLeDiff, Nat.reduceLT, Nat.reduceEqDiff]
  | k + 1, i, X, y4, hk, hX, ht => by
    have hi : i < ls.length := by omega
    have hl : ls[i]? = some ls[i] := List.getElem?_eq_getElem hi
    obtain ⟨rfl, b, rfl, hb⟩ := ha (by intro h; subst h; simp at hi)
    obtain ⟨z4, ih⟩ := loop_l_toIntS (c := c) (r := r) ha hn k (i + 1) (X.set i ls[i]) (.bool true) (by omega) (by simpa using hX) (take_set_succ' hi hX ht)
    refine ⟨z4, ?_⟩
    rw [run_loop]
    generalize run T pr (.loop w_l_toIntS_1) = R at ih ⊢
    have hle : i + 1 ≤ (encI X).length := by rw [List.length_map]; omega
    simp +contextual only [w_l_toIntS_1, cells_mono hb, hi, hl, part_encI _ hl, hle, setRange_encI (show i < X.length by omega), wrap_succ (show i < 9223372036854775807 by omega), decide_true, go_sem, entry, joinEsc, if_pos, reduceIte, Nat.reduceAdd, Nat.reduceLeDiff, Nat.reduceLT, Nat.reduceEqDiff]
    exact ih

theorem e_l_toIntS {av : AV} {ls : List Int} (ha : ArgI H av ls) (hn : ls.length ≤ 1048576) : call T pr f_l_toIntS [av] ⟨H, e⟩ = some (slI H.length ls.length (some ls.length), ⟨H ++ [.cells (encI ls) true], e⟩) := by
  obtain ⟨p, sz, c, rfl, _, ha⟩ := ha
  obtain ⟨z4, hl⟩ := loop_l_toIntS (pr := pr) (e := none) (c := c) (r := .slice none 0 0 none) ha hn ls.length 0 (List.replicate ls.length 0) .undef (by omega) (by simp) (by simp)
  rw [call_eq t_l_toIntS]
  have h0 : ((0 : Nat) : Int) = 0 := rfl
  have hmb : (ls.length : Int) * ((8 : Nat) : Int) ≤ ((maxBytes : Nat) : Int) := by unfold maxBytes; omega
  rw [h0, ← zeros_encI] at hl
  simp +contextual only [a_l_toIntS, c_l_toIntS, hmb, hl, under_encI, go_sem, entry, joinEsc, if_pos, reduceIte, Nat.reduceAdd, Nat.reduceLeDiff, Nat.reduceLT, Nat.reduceEqDiff]

theorem loop_l_eqIntS {b1 b2 : Nat} {c1 c2 : Option Nat} {ls : List Int} {x4 : AV} (h1 : cellsAt H b1 = some (encI ls)) (h2 : cellsAt H b2 = some (encI ls)) (hn : ls.length ≤ 9223372036854775806) :
    ∀ (k i : Nat) (x5 x6 : AV), k + i = ls.length → ∃ y5 y6, run T pr (.loop w_l_eqIntS_1) ⟨[slI b1 ls.length c1, slI b2 ls.length c2, .bool false, .int .i64 i, x4, x5, x6], ⟨H, e⟩⟩ =
      some (.exit 0, ⟨[slI b1 ls.length c1, slI b2 ls.length c2, .bool false, .int .i64 ls.length, x4, y5, y6], ⟨H, e⟩⟩)
  | 0, i, x5, x6, hk => by
    have hi : i = ls.length := by omega
    subst hi
    refine ⟨.bool false, x6, ?_⟩
    rw [run_loop]
    generalize run T pr (.loop w_l_eqIntS_1) = R
    simp +contextual only [w_l_eqIntS_1, Nat.lt_irrefl, decide_false, go_sem, entry, joinEsc, if_pos, reduceIte, Nat.reduceAdd, Nat.reduceLeDiff, Nat.reduceLT, Nat.reduceEqDiff]
  | k + 1, i, x5, x6, hk => by
    have hi : i < ls.length := by omega
    obtain ⟨y5, y6, ih⟩ := loop_l_eqIntS (c1 := c1) (c2 := c2) (x4 := x4) h1 h2 hn k (i + 1) (.bool true) (.bool false) (by omega)
    refine ⟨y5, y6, ?_⟩
    rw [run_loop]
    have hl : ls[i]? = some ls[i] := List.getElem?_eq_getElem hi
    generalize run T pr (.loop w_l_eqIntS_1) = R at ih ⊢
    simp +contextual only [w_l_eqIntS_1, h1, h2, hi, hl, part_encI _ hl, wrap_succ (show i < 9223372036854775807 by omega), decide_true, Bool.not_true, go_sem, entry, joinEsc, if_pos, reduceIte, Nat.reduceAdd, Nat.reduceLeDiff, Nat.reduceLT, Nat.reduceEqDiff]
    exact ih

theorem e_l_eqIntS {b1 b2 : Nat} {c1 c2 : Option Nat} {ls : List Int} (h1 : cellsAt H b1 = some (encI ls)) (h2 : cellsAt H b2 = some (encI ls)) (hn : ls.length ≤ 9223372036854775806) :
    call T pr f_l_eqIntS [slI b1 ls.length c1, slI b2 ls.length c2] ⟨H, e⟩ = some (.bool true, ⟨H, e⟩) := by
  obtain ⟨z5, z6, hl⟩ := loop_l_eqIntS (pr := pr) (e := none) (c1 := c1) (c2 := c2) (x4 := .bool false) h1 h2 hn ls.length 0 .undef .undef rfl
  have h0 : ((0 : Nat) : Int) = 0 := rfl
  rw [h0] at hl
  rw [call_eq t_l_eqIntS]
  simp +contextual only [a_l_eqIntS, c_l_eqIntS, hl, decide_true, go_sem, entry, joinEsc, if_pos, reduceIte, Nat.reduceAdd, Nat.reduceLeDiff, Nat.reduceLT, Nat.reduceEqDiff]

theorem loop_s_l1Has {q : Nat} {c : Option Nat} {ls : List Int} {x : Int} (h : cellsAt H q = some (encI ls)) (hn : ls.length ≤ 9223372036854775806) :
    ∀ (k i : Nat) (y4 y5 : AV), k + i = ls.length → ∃ (z3 z4 z5 : AV), run T pr (.loop w_s_l1Has_1) ⟨[slI q ls.length c, .int .i64 x, .bool false, .int .i64 i, y4, y5], ⟨H, e⟩⟩ =
      some (if x ∈ ls.drop i then Ex.ret else Ex.exit 0, ⟨[slI q ls.length c, .int .i64 x, .bool (decide (x ∈ ls.drop i)), z3, z4, z5], ⟨H, e⟩⟩)
  | 0, i, y4, y5, hk => by
    have hi : i = ls.length := by omega
    subst hi
    refine ⟨.int .i64 ls.length, .bool false, y5, ?_⟩
    rw [run_loop]
    generalize run T pr (.loop w_s_l1Has_1) = R
    simp +contextual only [w_s_l1Has_1, Nat.lt_irrefl, decide_false, List.drop_length, List.not_mem_nil, go_sem, entry, joinEsc, if_pos, reduceIte, Nat.reduceAdd, Nat.reduceLeDiff, Nat.reduceLT, Nat.reduceEqDiff]
  | k + 1, i, y4, y5, hk => by
    have hi : i < ls.length := by omega
    have hl : ls[i]? = some ls[i] := List.getElem?_eq_getElem hi
    obtain ⟨z3, z4, z5, ih⟩ := loop_s_l1Has (c := c) (x := x) h hn k (i + 1) (.bool true) (.bool false) (by omega)
    rw [run_loop, List.drop_eq_getElem_cons hi]
    generalize run T pr (.loop w_s_l1Has_1) = R at ih ⊢
    by_cases hx : ls[i] = x
    · refine ⟨.int .i64 i, .bool true, .bool true, ?_⟩
      simp +contextual only [w_s_l1Has_1, h, hi, hl, part_encI _ hl, hx, decide_true, List.mem_cons, true_or, go_sem, entry, joinEsc, if_pos, reduceIte, Nat.reduceAdd, Nat.reduceLeDiff, Nat.reduceLT, Nat.reduceEqDiff]
    · refine ⟨z3, z4, z5, ?_⟩
      have hx' : ¬ x = ls[i] := fun h => hx h.symm
      simp +contextual only [w_s_l1Has_1, h, hi, hl, part_encI _ hl, hx, hx', decide_true, decide_false, List.mem_cons, false_or, wrap_succ (show i < 9223372036854775807 by omega), go_sem, entry, joinEsc, if_pos, reduceIte, Nat.reduceAdd, Nat.reduceLeDiff, Nat.reduceLT, Nat.reduceEqDiff]
      exact ih

theorem e_s_l1Has {q : Nat} {c : Option Nat} {ls : List Int} (h : cellsAt H q = some (encI ls)) (hn : ls.length ≤ 9223372036854775806) (x : Int) : call T pr f_s_l1Has [slI q ls.length c, .int .i64 x] ⟨H, e⟩ = some (.bool (decide (x ∈ ls)), ⟨H, e⟩) := by
  obtain ⟨z3, z4, z5, hl⟩ := loop_s_l1Has (pr := pr) (e := none) (c := c) (x := x) h hn ls.length 0 .undef .undef rfl
  have h0 : ((0 : Nat) : Int) = 0 := rfl
  rw [h0, List.drop_zero] at hl
  rw [call_eq t_s_l1Has]
  by_cases hx : x ∈ ls <;> simp only [hx, if_true, if_false, decide_true, decide_false] at hl ⊢ <;> simp +contextual only [a_s_l1Has, c_s_l1Has, hl, go_sem, entry, joinEsc, if_pos, reduceIte, Nat.reduceAdd, Nat.reduceLeDiff, Nat.reduceLT, Nat.reduceEqDiff]

end Go.Proofs.Ytlcklonakjhoiaa.Slim

/- Rafts: what is valid, and the reserves. -/
namespace Go.Proofs.Ytlcklonakjhoiaa.Slim

open Go

set_option linter.unusedSimpArgs false

set_option linter.unusedVariables false

variable {pr : Prims} {H : List Blk} {e : Option Nat}

def baseOk (a b : Int) : Bool := ((decide (0 ≤ a) && decide (a ≤ 60)) && (decide (0 ≤ b) && decide (b ≤ 60))) && decide (a ≤ b)

theorem e_i_isBase (a b : Int) : call T pr f_i_isBase [.int .i64 a, .int .i64 b] ⟨H, e⟩ = some (.bool (baseOk a b), ⟨H, e⟩) := by
  rw [call_eq t_i_isBase]
  simp +contextual only [a_i_isBase, c_i_isBase, e_i_isPlace, go_sem, entry, joinEsc, if_pos, reduceIte, Nat.reduceAdd, Nat.reduceLeDiff, Nat.reduceLT, Nat.reduceEqDiff]
  rfl

theorem e_s_l2Base (a b : Int) : call T pr f_s_l2Base [.int .i64 a, .int .i64 b] ⟨H, e⟩ = some (.bool (baseOk a b), ⟨H, e⟩) := by
  rw [call_eq t_s_l2Base]
  simp +contextual only [a_s_l2Base, c_s_l2Base, e_s_l2In, go_sem, entry, joinEsc, if_pos, reduceIte, Nat.reduceAdd, Nat.reduceLeDiff, Nat.reduceLT, Nat.reduceEqDiff]
  rfl

abbrev rfV (a b o : Int) : AV := .agg [.int .i64 a, .int .i64 b, .int .i64 o]

def raftOk (a b o : Int) : Bool := baseOk a b && (decide (1 ≤ o) && decide (o ≤ 99))

theorem e_i_IsRaft (a b o : Int) : call T pr f_i_IsRaft [rfV a b o] ⟨H, e⟩ = some (.bool (raftOk a b o), ⟨H, e⟩) := by
  rw [call_eq t_i_IsRaft]
  simp +contextual only [a_i_IsRaft, c_i_IsRaft, e_i_isBase, e_i_within, go_sem, entry, joinEsc, if_pos, reduceIte, Nat.reduceAdd, Nat.reduceLeDiff, Nat.reduceLT, Nat.reduceEqDiff]
  rfl

theorem e_s_l10Raft (a b o : Int) : call T pr f_s_l10Raft [rfV a b o] ⟨H, e⟩ = some (.bool (raftOk a b o), ⟨H, e⟩) := by
  rw [call_eq t_s_l10Raft]
  simp +contextual only [a_s_l10Raft, c_s_l10Raft, e_s_l2Base, e_s_l1In, go_sem, entry, joinEsc, if_pos, reduceIte, Nat.reduceAdd, Nat.reduceLeDiff, Nat.reduceLT, Nat.reduceEqDiff]
  rfl

theorem e_l_toRaft (a b o : Int) : call T pr f_l_toRaft [rfV a b o] ⟨H, e⟩ = some (rfV a b o, ⟨H, e⟩) := by
  rw [call_eq t_l_toRaft]
  simp +contextual only [a_l_toRaft, c_l_toRaft, go_sem, entry, joinEsc, if_pos, reduceIte, Nat.reduceAdd, Nat.reduceLeDiff, Nat.reduceLT, Nat.reduceEqDiff]

def cargoOk (a b o : Int) (ls : List Ld) : Bool := (raftOk a b o && rowOk ls) && decide (ls.length ≤ 8)

theorem e_i_areCargo {q : Nat} {c : Option Nat} {ls : List Ld} (h : cellsAt H q = some (encL ls)) (a b o : Int) : call T pr f_i_areCargo [rfV a b o, slL q ls.length c] ⟨H, e⟩ = some (.bool (cargoOk a b o ls), ⟨H, e⟩) := by
  rw [call_eq t_i_areCargo]
  have hi : decide (((ls.length : Nat) : Int) ≤ 8) = decide (ls.length ≤ 8) := decide_eq_decide.mpr (by omega)
  simp +contextual only [a_i_areCargo, c_i_areCargo, e_i_IsRaft, e_i_IsRow (cells_mono h _), hi, go_sem, entry, joinEsc, if_pos, reduceIte, Nat.reduceAdd, Nat.reduceLeDiff, Nat.reduceLT, Nat.reduceEqDiff]
  rfl

theorem e_s_l10Cargo {q : Nat} {c : Option Nat} {ls : List Ld} (h : cellsAt H q = some (encL ls)) (a b o : Int) : call T pr f_s_l10Cargo [rfV a b o, slL q ls.length c] ⟨H, e⟩ = some (.bool (cargoOk a b o ls), ⟨H, e⟩) := by
  rw [call_eq t_s_l10Cargo]
  have hi : decide (((ls.length : Nat) : Int) ≤ 8) = decide (ls.length ≤ 8) := decide_eq_decide.mpr (by omega)
  simp +contextual only [a_s_l10Cargo, c_s_l10Cargo, e_s_l10Raft, e_s_l2Row (cells_mono h _), hi, go_sem, entry, joinEsc, if_pos, reduceIte, Nat.reduceAdd, Nat.reduceLeDiff, Nat.reduceLT, Nat.reduceEqDiff]
  rfl

end Go.Proofs.Ytlcklonakjhoiaa.Slim

/- Rafts: the reserves. -/
namespace Go.Proofs.Ytlcklonakjhoiaa.Slim

open Go

set_option linter.unusedSimpArgs false

set_option linter.unusedVariables false

variable {pr : Prims} {H : List Blk} {e : Option Nat}

abbrev wr (x : Int) : Int := IntKind.i64.wrap x

theorem wr_ex (x : Int) : ∃ k : Int, wr x = x + k * 18446744073709551616 := by
  refine ⟨if x % 18446744073709551616 ≥ 9223372036854775808 then -(x / 18446744073709551616) - 1 else -(x / 18446744073709551616), ?_⟩
  unfold wr IntKind.wrap
  simp [IntKind.signed, IntKind.bits]
  split <;> omega

theorem wr_add_mul (x k : Int) : wr (x + k * 18446744073709551616) = wr x := by
  unfold wr IntKind.wrap
  simp [IntKind.signed, IntKind.bits]

/-- is item i in the set n? -/
def bitW (n : Int) (i : Nat) : Bool := decide (andI .i64 (shrI .i64 n i) 1 = 1)

def resL (a acc : Int) (l : Ld) : Int := wr (acc + wr (wr (2 * l.2) * wr (l.1 - a)))

def resR (b acc : Int) (l : Ld) : Int := wr (acc + wr (wr (2 * l.2) * wr (b - l.1)))

theorem resR_eq (b acc : Int) (l : Ld) : wr (acc - wr (wr (2 * l.2) * wr (l.1 - b))) = resR b acc l := by
  unfold resR
  obtain ⟨k1, h1⟩ := wr_ex (l.1 - b)
  obtain ⟨k2, h2⟩ := wr_ex (b - l.1)
  generalize wr (2 * l.2) = u
  obtain ⟨k3, h3⟩ := wr_ex (u * wr (l.1 - b))
  obtain ⟨k4, h4⟩ := wr_ex (u * wr (b - l.1))
  rw [h3, h4, h1, h2]
  have : acc - (u * (l.1 - b + k1 * 18446744073709551616) + k3 * 18446744073709551616) = acc + (u * (b - l.1 + k2 * 18446744073709551616) + k4 * 18446744073709551616) + (-(u * (k1 + k2)) - k3 - k4) * 18446744073709551616 := by
    have e1 : u * (l.1 - b + k1 * 18446744073709551616) = u * (l.1 - b) + u * k1 * 18446744073709551616 := by rw [Int.mul_add, Int.mul_assoc]
    have e2 : u * (b - l.1 + k2 * 18446744073709551616) = u * (b - l.1) + u * k2 * 18446744073709551616 := by rw [Int.mul_add, Int.mul_assoc]
    have e3 : u * (b - l.1) = -(u * (l.1 - b)) := by rw [← Int.mul_neg]; congr 1; omega
    have e4 : u * (k1 + k2) = u * k1 + u * k2 := Int.mul_add _ _ _
    rw [e1, e2, e3, e4]
    omega
  rw [this, wr_add_mul]

/-- over the items of the set n, from number i on -/
def overBits (f : Int → Ld → Int) (n : Int) : Nat → List Ld → Int → Int
  | _, [], acc => acc
  | i, l :: ls, acc => overBits f n (i + 1) ls (if bitW n i = true then f acc l else acc)

theorem shr_nat (x : Int) (i : Nat) : binop 0 .shr (.int .i64 x) (.int .i64 (i : Int)) = some (.int .i64 (shrI .i64 x i)) := by
  rw [binop_shr, if_neg (by omega)]

theorem loop_s_l10Reserve {q u : Nat} {c : Option Nat} {ls : List Ld} {rv : AV} {n : Int} {a b o : Int} (h : cellsAt H q = some (encL ls)) (hn : ls.length ≤ 9223372036854775806) (hu : cellsAt H u = some [.int .i64 a, .int .i64 b, .int .i64 o]) {y4 y5 : AV} :
    ∀ (k i : Nat) (L R : Int) (y9 y10 : AV), k + i = ls.length → ∃ (z9 z10 : AV), run T pr (.loop w_s_l10Reserve_1) ⟨[rv, slL q ls.length c, .int .i64 n, .ptr (some (u, 0)), y4, y5, .int .i64 L, .int .i64 R, .int .i64 i, y9, y10], ⟨H, e⟩⟩ =
      some (Ex.exit 0, ⟨[rv, slL q ls.length c, .int .i64 n, .ptr (some (u, 0)), y4, y5, .int .i64 (overBits (resL a) n i (ls.drop i) L), .int .i64 (overBits (resR b) n i (ls.drop i) R), .int .i64 ls.length, z9, z10], ⟨H, e⟩⟩)
  | 0, i, L, R, y9, y10, hk => by
    have hi : i = ls.length := by omega
    subst hi
    refine ⟨.bool false, y10, ?_⟩
    rw [run_loop]
    generalize run T pr (.loop w_s_l10Reserve_1) = R'
    simp +contextual only [w_s_l10Reserve_1, Nat.lt_irrefl, decide_false, List.drop_length, overBits, go_sem, entry, joinEsc, if_pos, reduceIte, Nat.reduceAdd, Nat.reduceLeDiff, Nat.reduceLT, Nat.reduceEqDiff]
  | k + 1, i, L, R, y9, y10, hk => by
    have hi : i < ls.length := by omega
    have hl : ls[i]? = some ls[i] := List.getElem?_eq_getElem hi
    rw [run_loop, List.drop_eq_getElem_cons hi, overBits, overBits]
    have hb : decide (andI .i64 (shrI .i64 n i) 1 = 1) = bitW n i := rfl
    cases h1 : bitW n i with
    | false =>
      obtain ⟨z9, z10, ih⟩ := loop_s_l10Reserve (c := c) (rv := rv) (n := n) (y4 := y4) (y5 := y5) h hn hu k (i + 1) L R (.bool true) (.bool false) (by omega)
      refine ⟨z9, z10, ?_⟩
      generalize run T pr (.loop w_s_l10Reserve_1) = R' at ih ⊢
      rw [h1] at hb
      have hb' := of_decide_eq_false hb
      simp +contextual only [w_s_l10Reserve_1, shr_nat, hb', decide_false, h, hu, hi, hl, part_encL0 _ hl, part_encL1 _ hl, wrap_succ (show i < 9223372036854775807 by omega), decide_true, go_sem, entry, joinEsc, if_pos, reduceIte, Nat.reduceAdd, Nat.reduceLeDiff, Nat.reduceLT, Nat.reduceEqDiff]
      exact ih
    | true =>
      obtain ⟨z9, z10, ih⟩ := loop_s_l10Reserve (c := c) (rv := rv) (n := n) (y4 := y4) (y5 := y5) h hn hu k (i + 1) (resL a L ls[i]) (resR b R ls[i]) (.bool true) (.bool true) (by omega)
      refine ⟨z9, z10, ?_⟩
      generalize run T pr (.loop w_s_l10Reserve_1) = R' at ih ⊢
      rw [h1] at hb
      have hb' := of_decide_eq_true hb
      simp +contextual only [w_s_l10Reserve_1, shr_nat, hb', h, hu, hi, hl, part_encL0 _ hl, part_encL1 _ hl, wrap_succ (show i < 9223372036854775807 by omega), decide_true, go_sem, entry, joinEsc, if_pos, reduceIte, Nat.reduceAdd, Nat.reduceLeDiff, Nat.reduceLT, Nat.reduceEqDiff]
      exact ih

end Go.Proofs.Ytlcklonakjhoiaa.Slim

/- Rafts: safe sets. -/
namespace Go.Proofs.Ytlcklonakjhoiaa.Slim

open Go

set_option linter.unusedSimpArgs false

set_option linter.unusedVariables false

variable {pr : Prims} {H : List Blk} {e : Option Nat}

def own0 (a b o : Int) : Int := wr (o * wr (b - a))

theorem e_s_l10Reserve {q : Nat} {c : Option Nat} {ls : List Ld} (h : cellsAt H q = some (encL ls)) (hn : ls.length ≤ 9223372036854775806) (a b o n : Int) : call T pr f_s_l10Reserve [rfV a b o, slL q ls.length c, .int .i64 n] ⟨H, e⟩ =
    some (.tup [.int .i64 (overBits (resL a) n 0 ls (own0 a b o)), .int .i64 (overBits (resR b) n 0 ls (own0 a b o))], ⟨H, e⟩) := by
  have hu : cellsAt (H ++ [Blk.cells [.int .i64 a, .int .i64 b, .int .i64 o] true]) H.length = some [.int .i64 a, .int .i64 b, .int .i64 o] := by simp [cellsAt, List.getElem?_append_right]
  obtain ⟨z9, z10, hl⟩ := loop_s_l10Reserve (pr := pr) (e := none) (c := c) (rv := rfV a b o) (n := n) (cells_mono h [Blk.cells [.int .i64 a, .int .i64 b, .int .i64 o] true]) hn hu (y4 := .int .i64 0) (y5 := .int .i64 0) ls.length 0 (own0 a b o) (own0 a b o) .undef .undef rfl
  have h0 : ((0 : Nat) : Int) = 0 := rfl
  rw [h0, List.drop_zero] at hl
  have ho : IntKind.i64.wrap (o * IntKind.i64.wrap (b - a)) = own0 a b o := rfl
  rw [call_eq t_s_l10Reserve]
  simp +contextual only [a_s_l10Reserve, c_s_l10Reserve, ho, hl, go_sem, entry, joinEsc, if_pos, reduceIte, Nat.reduceAdd, Nat.reduceLeDiff, Nat.reduceLT, Nat.reduceEqDiff]

def safeW (a b o : Int) (ls : List Ld) (n : Int) : Bool := decide (0 ≤ overBits (resL a) n 0 ls (own0 a b o)) && decide (0 ≤ overBits (resR b) n 0 ls (own0 a b o))

theorem e_s_l10Safe {q : Nat} {c : Option Nat} {ls : List Ld} (h : cellsAt H q = some (encL ls)) (hn : ls.length ≤ 9223372036854775806) (a b o n : Int) : call T pr f_s_l10Safe [rfV a b o, slL q ls.length c, .int .i64 n] ⟨H, e⟩ =
    some (.bool (safeW a b o ls n), ⟨H, e⟩) := by
  rw [call_eq t_s_l10Safe]
  simp +contextual only [a_s_l10Safe, c_s_l10Safe, e_s_l10Reserve (cells_mono h _) hn, go_sem, entry, joinEsc, if_pos, reduceIte, Nat.reduceAdd, Nat.reduceLeDiff, Nat.reduceLT, Nat.reduceEqDiff]
  rfl

theorem loop_i_Raft_reserve {q u : Nat} {c : Option Nat} {ls : List Ld} {rv y4 y5 : AV} {n : Int} {a b o : Int} (h : cellsAt H q = some (encL ls)) (hn : ls.length ≤ 9223372036854775806) (hu : cellsAt H u = some [.int .i64 a, .int .i64 b, .int .i64 o]) :
    ∀ (k i : Nat) (L R : Int) (G : List Blk) (y8 y9 y13 y14 : AV), k + i = ls.length → ∃ (G' : List Blk) (z8 z9 z13 z14 : AV), run T pr (.loop w_i_Raft_reserve_1) ⟨[rv, slL q ls.length c, .int .i64 n, .ptr (some (u, 0)), y4, y5, .int .i64 L, .int .i64 R, y8, y9, slL q ls.length c, .int .i64 ls.length, .int .i64 i, y13, y14], ⟨H ++ G, e⟩⟩ =
      some (Ex.exit 0, ⟨[rv, slL q ls.length c, .int .i64 n, .ptr (some (u, 0)), y4, y5, .int .i64 (overBits (resL a) n i (ls.drop i) L), .int .i64 (overBits (resR b) n i (ls.drop i) R), z8, z9, slL q ls.length c, .int .i64 ls.length, .int .i64 ls.length, z13, z14], ⟨H ++ G', e⟩⟩)
  | 0, i, L, R, G, y8, y9, y13, y14, hk => by
    have hi : i = ls.length := by omega
    subst hi
    refine ⟨G, y8, y9, .bool false, y14, ?_⟩
    rw [run_loop]
    generalize run T pr (.loop w_i_Raft_reserve_1) = R'
    simp +contextual only [w_i_Raft_reserve_1, Nat.lt_irrefl, decide_false, List.drop_length, overBits, go_sem, entry, joinEsc, if_pos, reduceIte, Nat.reduceAdd, Nat.reduceLeDiff, Nat.reduceLT, Nat.reduceEqDiff]
  | k + 1, i, L, R, G, y8, y9, y13, y14, hk => by
    have hi : i < ls.length := by omega
    have hl : ls[i]? = some ls[i] := List.getElem?_eq_getElem hi
    rw [run_loop, List.drop_eq_getElem_cons hi, overBits, overBits]
    have hb : decide (andI .i64 (shrI .i64 n i) 1 = 1) = bitW n i := rfl
    have hR := resR_eq b R ls[i]
    cases h1 : bitW n i with
    | false =>
      obtain ⟨G', z8, z9, z13, z14, ih⟩ := loop_i_Raft_reserve (c := c) (rv := rv) (n := n) (y4 := y4) (y5 := y5) h hn hu k (i + 1) L R (G ++ [.cells [.int .i64 ls[i].1, .int .i64 ls[i].2] true]) (.int .i64 i) (.ptr (some (H.length + G.length, 0))) (.bool true) (.bool false) (by omega)
      refine ⟨G', z8, z9, z13, z14, ?_⟩
      generalize run T pr (.loop w_i_Raft_reserve_1) = R' at ih ⊢
      rw [h1] at hb
      have hb' := of_decide_eq_false hb
      simp +contextual only [w_i_Raft_reserve_1, shr_nat, hb', decide_false, cells_mono h, cells_mono hu, hi, hl, part_encL hl, wrap_succ (show i < 9223372036854775807 by omega), decide_true, go_sem, entry, joinEsc, if_pos, reduceIte, Nat.reduceAdd, Nat.reduceLeDiff, Nat.reduceLT, Nat.reduceEqDiff]
      exact ih
    | true =>
      obtain ⟨G', z8, z9, z13, z14, ih⟩ := loop_i_Raft_reserve (c := c) (rv := rv) (n := n) (y4 := y4) (y5 := y5) h hn hu k (i + 1) (resL a L ls[i]) (resR b R ls[i]) (G ++ [.cells [.int .i64 ls[i].1, .int .i64 ls[i].2] true]) (.int .i64 i) (.ptr (some (H.length + G.length, 0))) (.bool true) (.bool true) (by omega)
      refine ⟨G', z8, z9, z13, z14, ?_⟩
      generalize run T pr (.loop w_i_Raft_reserve_1) = R' at ih ⊢
      rw [h1] at hb
      have hb' := of_decide_eq_true hb
      rw [← hR] at ih ⊢
      simp +contextual only [w_i_Raft_reserve_1, shr_nat, hb', cells_mono h, cells_mono hu, hi, hl, part_encL hl, wrap_succ (show i < 9223372036854775807 by omega), decide_true, go_sem, entry, joinEsc, if_pos, reduceIte, Nat.reduceAdd, Nat.reduceLeDiff, Nat.reduceLT, Nat.reduceEqDiff]
      exact ih

theorem e_i_Raft_reserve {q : Nat} {c : Option Nat} {ls : List Ld} (h : cellsAt H q = some (encL ls)) (hn : ls.length ≤ 9223372036854775806) (a b o n : Int) : call T pr f_i_Raft_reserve [rfV a b o, slL q ls.length c, .int .i64 n] ⟨H, e⟩ =
    some (.tup [.int .i64 (overBits (resL a) n 0 ls (own0 a b o)), .int .i64 (overBits (resR b) n 0 ls (own0 a b o))], ⟨H, e⟩) := by
  have hu : cellsAt (H ++ [Blk.cells [.int .i64 a, .int .i64 b, .int .i64 o] true]) H.length = some [.int .i64 a, .int .i64 b, .int .i64 o] := by simp [cellsAt, List.getElem?_append_right]
  obtain ⟨G', z8, z9, z13, z14, hl⟩ := loop_i_Raft_reserve (pr := pr) (e := none) (c := c) (rv := rfV a b o) (n := n) (y4 := .int .i64 0) (y5 := .int .i64 0) (cells_mono h [Blk.cells [.int .i64 a, .int .i64 b, .int .i64 o] true]) hn hu ls.length 0 (own0 a b o) (own0 a b o) [] .undef .undef .undef .undef rfl
  have h0 : ((0 : Nat) : Int) = 0 := rfl
  rw [h0, List.drop_zero, List.append_nil, List.append_assoc] at hl
  have ho : IntKind.i64.wrap (o * IntKind.i64.wrap (b - a)) = own0 a b o := rfl
  rw [call_eq t_i_Raft_reserve]
  simp +contextual only [a_i_Raft_reserve, c_i_Raft_reserve, ho, hl, go_sem, entry, joinEsc, if_pos, reduceIte, Nat.reduceAdd, Nat.reduceLeDiff, Nat.reduceLT, Nat.reduceEqDiff]

theorem e_i_Raft_isSafe {q : Nat} {c : Option Nat} {ls : List Ld} (h : cellsAt H q = some (encL ls)) (hn : ls.length ≤ 9223372036854775806) (a b o n : Int) : call T pr f_i_Raft_isSafe [rfV a b o, slL q ls.length c, .int .i64 n] ⟨H, e⟩ =
    some (.bool (safeW a b o ls n), ⟨H, e⟩) := by
  rw [call_eq t_i_Raft_isSafe]
  simp +contextual only [a_i_Raft_isSafe, c_i_Raft_isSafe, e_i_Raft_reserve (cells_mono h _) hn, go_sem, entry, joinEsc, if_pos, reduceIte, Nat.reduceAdd, Nat.reduceLeDiff, Nat.reduceLT, Nat.reduceEqDiff]
  rfl

end Go.Proofs.Ytlcklonakjhoiaa.Slim

/- Orders of a cargo. -/
namespace Go.Proofs.Ytlcklonakjhoiaa.Slim

open Go

set_option linter.unusedSimpArgs false

set_option linter.unusedVariables false

variable {pr : Prims} {H : List Blk} {e : Option Nat}

theorem length_le_of_sub {r : List Int} : ∀ {l : List Int}, r.Nodup → (∀ x ∈ r, x ∈ l) → r.length ≤ l.length := by
  induction r with
  | nil => intro l _ _; exact Nat.zero_le _
  | cons a r ih =>
    intro l hn hs
    have ha := hs a (by simp)
    obtain ⟨h1, h2⟩ := List.nodup_cons.mp hn
    have h3 := ih (l := l.erase a) h2 (fun x hx => by
      have hne : x ≠ a := fun e => h1 (e ▸ hx)
      exact (List.mem_erase_of_ne hne).mpr (hs x (by simp [hx])))
    have h4 := List.length_erase_of_mem ha
    have h5 := List.length_pos_of_mem ha
    simp only [List.length_cons]
    omega

/-- the numbers below n -/
def nums (n : Nat) : List Int := (List.range n).map fun (i : Nat) => (i : Int)

theorem nums_length (n : Nat) : (nums n).length = n := by simp [nums]

theorem mem_nums {n : Nat} {x : Int} : x ∈ nums n ↔ 0 ≤ x ∧ x < n := by
  unfold nums
  rw [List.mem_map]
  constructor
  · rintro ⟨i, hi, rfl⟩
    rw [List.mem_range] at hi
    omega
  · rintro ⟨h1, h2⟩
    exact ⟨x.toNat, by rw [List.mem_range]; omega, by omega⟩

theorem nums_nodup (n : Nat) : (nums n).Nodup := by
  unfold nums
  refine List.Pairwise.map _ ?_ List.nodup_range
  intro a b h e
  exact h (by omega)

/-- a list of n numbers has all numbers below n exactly if it has none twice, and no other -/
theorem order_iff {l : List Int} {n : Nat} (hl : l.length = n) : (∀ x : Int, 0 ≤ x → x < n → x ∈ l) ↔ (l.Nodup ∧ ∀ x ∈ l, 0 ≤ x ∧ x < n) := by
  constructor
  · intro h
    have key : ∀ (l' : List Int), (∀ x ∈ nums n, x ∈ l') → n ≤ l'.length := fun l' h' => by
      have := length_le_of_sub (nums_nodup n) h'
      rwa [nums_length] at this
    have hin : ∀ x ∈ l, 0 ≤ x ∧ x < n := by
      intro x hx
      refine Classical.byContradiction fun hc => ?_
      have := key (l.erase x) (fun y hy => by
        have hy' := mem_nums.mp hy
        have hne : y ≠ x := fun e => hc (e ▸ hy')
        exact (List.mem_erase_of_ne hne).mpr (h y hy'.1 hy'.2))
      have h4 := List.length_erase_of_mem hx
      have h5 := List.length_pos_of_mem hx
      omega
    refine ⟨?_, hin⟩
    have gen : ∀ (l : List Int), ¬ l.Nodup → ∃ x ∈ l, x ∈ l.erase x := by
      intro l
      induction l with
      | nil => intro h; exact absurd List.nodup_nil h
      | cons a l ih =>
        intro h
        by_cases ha : a ∈ l
        · exact ⟨a, by simp, by simpa using ha⟩
        · have hn : ¬ l.Nodup := fun hn => h (List.nodup_cons.mpr ⟨ha, hn⟩)
          obtain ⟨x, h1, h2⟩ := ih hn
          have hne : ¬ a = x := fun e => ha (e ▸ h1)
          refine ⟨x, by simp [h1], ?_⟩
          rw [List.erase_cons_tail (by simpa using hne)]
          simp [h2]
    refine Classical.byContradiction fun hc => ?_
    obtain ⟨x, h1, h2⟩ := gen l hc
    have := key (l.erase x) (fun y hy => by
      have hy' := mem_nums.mp hy
      by_cases e : y = x
      · rw [e]; exact h2
      · exact (List.mem_erase_of_ne e).mpr (h y hy'.1 hy'.2))
    have h4 := List.length_erase_of_mem h1
    have h5 := List.length_pos_of_mem h1
    omega
  · rintro ⟨h1, h2⟩ x hx0 hx1
    refine Classical.byContradiction fun hc => ?_
    have := length_le_of_sub (r := x :: l) (l := nums n) (List.nodup_cons.mpr ⟨hc, h1⟩) (fun y hy => by
      rcases List.mem_cons.mp hy with rfl | hy
      · exact mem_nums.mpr ⟨hx0, hx1⟩
      · exact mem_nums.mpr (h2 y hy))
    rw [nums_length] at this
    simp at this
    omega

theorem bits_facts : ∀ m : Nat, m < 256 → ∀ x : Nat, x < 8 → (m.testBit x = bitW m x ∧ shlI .i64 1 (x : Int) = ((2 ^ x : Nat) : Int) ∧ (m.testBit x = false → orI .i64 m (shlI .i64 1 (x : Int)) = ((m + 2 ^ x : Nat) : Int) ∧ wr ((m : Int) + shlI .i64 1 (x : Int)) = ((m + 2 ^ x : Nat) : Int) ∧ m + 2 ^ x < 256 ∧ ∀ y : Nat, y < 8 → (m + 2 ^ x).testBit y = (m.testBit y || decide (x = y)))) := by
  decide +kernel

end Go.Proofs.Ytlcklonakjhoiaa.Slim

/- Orders, walked; the first tip. -/
namespace Go.Proofs.Ytlcklonakjhoiaa.Slim

open Go

set_option linter.unusedSimpArgs false

set_option linter.unusedVariables false

variable {pr : Prims} {H : List Blk} {e : Option Nat}

theorem shl_nat (x : Int) (i : Nat) : binop 0 .shl (.int .i64 x) (.int .i64 (i : Int)) = some (.int .i64 (shlI .i64 x i)) := by
  rw [binop_shl, if_neg (by omega)]

/-- none twice, and no other, m being those that were -/
def ordOk (n : Nat) : Nat → List Int → Bool
  | _, [] => true
  | m, x :: xs => ((decide (0 ≤ x) && decide (x ≤ (n : Int) - 1)) && !m.testBit x.toNat) && ordOk n (m + 2 ^ x.toNat) xs

theorem loop_i_isOrder {q q' : Nat} {c c' : Option Nat} {n : Nat} {os : List Int} (hn8 : n ≤ 8) (h : cellsAt H q' = some (encI os)) (hn : os.length ≤ 9223372036854775806) :
    ∀ (k i m : Nat) (y4 y8 y9 : AV), k + i = os.length → m < 256 → ∃ (z3 z4 z7 z8 z9 : AV), run T pr (.loop w_i_isOrder_1) ⟨[slL q n c, slI q' os.length c', .bool false, .int .i64 m, y4, slI q' os.length c', .int .i64 os.length, .int .i64 i, y8, y9], ⟨H, e⟩⟩ =
      some (if ordOk n m (os.drop i) = true then Ex.exit 0 else Ex.ret, ⟨[slL q n c, slI q' os.length c', .bool false, z3, z4, slI q' os.length c', .int .i64 os.length, z7, z8, z9], ⟨H, e⟩⟩)
  | 0, i, m, y4, y8, y9, hk, hm => by
    have hi : i = os.length := by omega
    subst hi
    refine ⟨.int .i64 m, y4, .int .i64 os.length, .bool false, y9, ?_⟩
    rw [run_loop]
    generalize run T pr (.loop w_i_isOrder_1) = R
    simp +contextual only [w_i_isOrder_1, Nat.lt_irrefl, decide_false, List.drop_length, ordOk, go_sem, entry, joinEsc, if_pos, reduceIte, Nat.reduceAdd, Nat.reduceLeDiff, Nat.reduceLT, Nat.reduceEqDiff]
  | k + 1, i, m, y4, y8, y9, hk, hm => by
    have hi : i < os.length := by omega
    have hl : os[i]? = some os[i] := List.getElem?_eq_getElem hi
    have hw : IntKind.i64.wrap ((n : Int) - 1) = (n : Int) - 1 := wrap64 (by omega) (by omega)
    rw [run_loop, List.drop_eq_getElem_cons hi, ordOk]
    generalize hx : os[i] = x at hl ⊢
    cases h1 : (decide (0 ≤ x) && decide (x ≤ (n : Int) - 1)) with
    | false =>
      refine ⟨.int .i64 m, .int .i64 x, .int .i64 i, .bool true, .bool true, ?_⟩
      generalize run T pr (.loop w_i_isOrder_1) = R
      simp +contextual only [w_i_isOrder_1, h, hi, hl, part_encI _ hl, hw, e_i_within, h1, decide_true, go_sem, entry, joinEsc, if_pos, reduceIte, Nat.reduceAdd, Nat.reduceLeDiff, Nat.reduceLT, Nat.reduceEqDiff]
    | true =>
      obtain ⟨y, rfl⟩ : ∃ y : Nat, x = y := ⟨x.toNat, by simp at h1; omega⟩
      have hy8 : y < 8 := by simp at h1; omega
      obtain ⟨f1, f2, f3⟩ := bits_facts m hm y hy8
      have hb : decide (andI .i64 (shrI .i64 m y) 1 = 1) = bitW m y := rfl
      rw [Int.toNat_natCast, ← f1] at *
      cases h2 : m.testBit y with
      | true =>
        rw [h2] at hb
        have hb' := of_decide_eq_true hb
        refine ⟨.int .i64 m, .int .i64 y, .int .i64 i, .bool true, .bool true, ?_⟩
        generalize run T pr (.loop w_i_isOrder_1) = R
        simp +contextual only [w_i_isOrder_1, h, hi, hl, part_encI _ hl, hw, e_i_within, h1, shr_nat, hb', decide_true, go_sem, entry, joinEsc, if_pos, reduceIte, Nat.reduceAdd, Nat.reduceLeDiff, Nat.reduceLT, Nat.reduceEqDiff]
      | false =>
        obtain ⟨g1, g2, g3, g4⟩ := f3 h2
        obtain ⟨z3, z4, z7, z8, z9, ih⟩ := loop_i_isOrder (c := c) (c' := c') (q := q) hn8 h hn k (i + 1) (m + 2 ^ y) (.int .i64 y) (.bool true) (.bool false) (by omega) g3
        refine ⟨z3, z4, z7, z8, z9, ?_⟩
        generalize run T pr (.loop w_i_isOrder_1) = R at ih ⊢
        rw [h2] at hb
        have hb' := of_decide_eq_false hb
        have h1' : decide (0 ≤ (y : Int)) = true := by simp
        have h1'' : decide ((y : Int) ≤ (n : Int) - 1) = true := by simpa using h1
        simp +contextual only [w_i_isOrder_1, h, hi, hl, part_encI _ hl, hw, e_i_within, h1', h1'', Bool.and_self, shr_nat, shl_nat, hb', g1, wrap_succ (show i < 9223372036854775807 by omega), decide_true, decide_false, go_sem, entry, joinEsc, if_pos, reduceIte, Nat.reduceAdd, Nat.reduceLeDiff, Nat.reduceLT, Nat.reduceEqDiff]
        exact ih

end Go.Proofs.Ytlcklonakjhoiaa.Slim

/- Rafts: the first tip, on both sides. -/
namespace Go.Proofs.Ytlcklonakjhoiaa.Slim

open Go

set_option linter.unusedSimpArgs false

set_option linter.unusedVariables false

variable {pr : Prims} {H : List Blk} {e : Option Nat}

theorem e_i_isOrder {q q' : Nat} {c c' : Option Nat} {n : Nat} {os : List Int} (hn8 : n ≤ 8) (h : cellsAt H q' = some (encI os)) (hn : os.length ≤ 9223372036854775806) :
    call T pr f_i_isOrder [slL q n c, slI q' os.length c'] ⟨H, e⟩ = some (.bool (ordOk n 0 os && decide (os.length = n)), ⟨H, e⟩) := by
  obtain ⟨z3, z4, z7, z8, z9, hl⟩ := loop_i_isOrder (pr := pr) (e := none) (c := c) (c' := c') (q := q) hn8 h hn os.length 0 0 .undef .undef .undef rfl (by omega)
  have h0 : ((0 : Nat) : Int) = 0 := rfl
  have hi : decide ((os.length : Int) = (n : Int)) = decide (os.length = n) := decide_eq_decide.mpr (by omega)
  rw [h0, List.drop_zero] at hl
  rw [call_eq t_i_isOrder]
  cases h1 : ordOk n 0 os <;> rw [h1] at hl <;> simp +contextual only [a_i_isOrder, c_i_isOrder, hl, hi, Bool.false_and, Bool.true_and, go_sem, entry, joinEsc, if_pos, reduceIte, Nat.reduceAdd, Nat.reduceLeDiff, Nat.reduceLT, Nat.reduceEqDiff]

theorem ordOk_iff {n : Nat} (hn8 : n ≤ 8) : ∀ (os : List Int) (m : Nat), m < 256 → (ordOk n m os = true ↔ os.Nodup ∧ ∀ x ∈ os, (0 ≤ x ∧ x < n) ∧ m.testBit x.toNat = false)
  | [], m, hm => by simp [ordOk]
  | x :: xs, m, hm => by
    rw [ordOk, Bool.and_eq_true, Bool.and_eq_true, Bool.and_eq_true, decide_eq_true_eq, decide_eq_true_eq, List.nodup_cons]
    constructor
    · rintro ⟨⟨⟨h1, h2⟩, h3⟩, h4⟩
      have h3' : m.testBit x.toNat = false := by simpa using h3
      obtain ⟨_, _, f3⟩ := bits_facts m hm x.toNat (by omega)
      obtain ⟨_, _, g3, g4⟩ := f3 h3'
      obtain ⟨k1, k2⟩ := (ordOk_iff hn8 xs _ g3).mp h4
      refine ⟨⟨fun hx => ?_, k1⟩, fun y hy => ?_⟩
      · have := (k2 x hx).2
        rw [g4 _ (by omega)] at this
        simp at this
      · rcases List.mem_cons.mp hy with rfl | hy
        · exact ⟨⟨h1, by omega⟩, h3'⟩
        · obtain ⟨k3, k4⟩ := k2 y hy
          rw [g4 _ (by omega)] at k4
          exact ⟨k3, (Bool.or_eq_false_iff.mp k4).1⟩
    · rintro ⟨⟨h1, h2⟩, h3⟩
      obtain ⟨h4, h5⟩ := h3 x (by simp)
      obtain ⟨_, _, f3⟩ := bits_facts m hm x.toNat (by omega)
      obtain ⟨_, _, g3, g4⟩ := f3 h5
      refine ⟨⟨⟨h4.1, by omega⟩, by simp [h5]⟩, (ordOk_iff hn8 xs _ g3).mpr ⟨h2, fun y hy => ?_⟩⟩
      obtain ⟨k3, k4⟩ := h3 y (by simp [hy])
      refine ⟨k3, ?_⟩
      rw [g4 _ (by omega), k4]
      have : ¬ x.toNat = y.toNat := fun he => h1 (by rwa [show x = y by omega])
      simp [this]

/-- has the list all of k numbers, from i on? -/
def hasAll (os : List Int) : Nat → Nat → Bool
  | _, 0 => true
  | i, k + 1 => decide ((i : Int) ∈ os) && hasAll os (i + 1) k

theorem hasAll_iff {os : List Int} : ∀ (k i : Nat), hasAll os i k = true ↔ ∀ x : Int, (i : Int) ≤ x → x < i + k → x ∈ os
  | 0, i => by simp [hasAll]; intro x h1 h2; omega
  | k + 1, i => by
    rw [hasAll, Bool.and_eq_true, decide_eq_true_eq, hasAll_iff k (i + 1)]
    constructor
    · rintro ⟨h1, h2⟩ x h3 h4
      by_cases hx : x = i
      · rw [hx]; exact h1
      · exact h2 x (by omega) (by omega)
    · intro h
      exact ⟨h _ (by omega) (by omega), fun x h1 h2 => h x (by omega) (by omega)⟩

theorem hasAll_ord {os : List Int} {n : Nat} (hn8 : n ≤ 8) (hl : os.length = n) : hasAll os 0 n = ordOk n 0 os := by
  rw [Bool.eq_iff_iff, hasAll_iff, ordOk_iff hn8 os 0 (by omega)]
  have h0 : ((0 : Nat) : Int) = 0 := rfl
  rw [h0, Int.zero_add]
  constructor
  · intro h
    obtain ⟨h1, h2⟩ := (order_iff hl).mp (fun x h3 h4 => h x h3 h4)
    exact ⟨h1, fun x hx => ⟨h2 x hx, Nat.zero_testBit _⟩⟩
  · rintro ⟨h1, h2⟩
    have := (order_iff hl).mpr ⟨h1, fun x hx => (h2 x hx).1⟩
    exact fun x h3 h4 => this x h3 h4

theorem loop_s_l10Order {q' n : Nat} {rv p : AV} {c' : Option Nat} {os : List Int} {y6 : AV} (h : cellsAt H q' = some (encI os)) (hn : os.length ≤ 9223372036854775806) {q : Nat} {c : Option Nat} (hn8 : n ≤ 8) :
    ∀ (k i : Nat) (y7 y8 : AV), k + i = n → ∃ (z5 z7 z8 : AV), run T pr (.loop w_s_l10Order_1) ⟨[rv, slL q n c, slI q' os.length c', p, .bool false, .int .i64 i, y6, y7, y8], ⟨H, e⟩⟩ =
      some (if hasAll os i k = true then Ex.exit 0 else Ex.ret, ⟨[rv, slL q n c, slI q' os.length c', p, .bool false, z5, y6, z7, z8], ⟨H, e⟩⟩)
  | 0, i, y7, y8, hk => by
    have hi : i = n := by omega
    subst hi
    refine ⟨.int .i64 i, .bool false, y8, ?_⟩
    rw [run_loop]
    generalize run T pr (.loop w_s_l10Order_1) = R
    simp +contextual only [w_s_l10Order_1, Nat.lt_irrefl, decide_false, hasAll, go_sem, entry, joinEsc, if_pos, reduceIte, Nat.reduceAdd, Nat.reduceLeDiff, Nat.reduceLT, Nat.reduceEqDiff]
  | k + 1, i, y7, y8, hk => by
    have hi : i < n := by omega
    obtain ⟨z5, z7, z8, ih⟩ := loop_s_l10Order (rv := rv) (p := p) (y6 := y6) (c' := c') (c := c) (q := q) h hn hn8 k (i + 1) (.bool true) (.bool false) (by omega)
    rw [run_loop, hasAll]
    generalize run T pr (.loop w_s_l10Order_1) = R at ih ⊢
    cases h1 : decide ((i : Int) ∈ os) with
    | false =>
      refine ⟨.int .i64 i, .bool true, .bool true, ?_⟩
      simp +contextual only [w_s_l10Order_1, hi, e_s_l1Has h hn, h1, decide_true, go_sem, entry, joinEsc, if_pos, reduceIte, Nat.reduceAdd, Nat.reduceLeDiff, Nat.reduceLT, Nat.reduceEqDiff]
    | true =>
      refine ⟨z5, z7, z8, ?_⟩
      simp +contextual only [w_s_l10Order_1, hi, e_s_l1Has h hn, h1, decide_true, Bool.true_and, wrap_succ (show i < 9223372036854775807 by omega), go_sem, entry, joinEsc, if_pos, reduceIte, Nat.reduceAdd, Nat.reduceLeDiff, Nat.reduceLT, Nat.reduceEqDiff]
      exact ih

theorem e_s_l10Order {q q' : Nat} {c c' : Option Nat} {ls : List Ld} {os : List Int} (hq : cellsAt H q = some (encL ls)) (h : cellsAt H q' = some (encI os)) (hn : os.length ≤ 9223372036854775806) (a b o : Int) :
    call T pr f_s_l10Order [rfV a b o, slL q ls.length c, slI q' os.length c'] ⟨H, e⟩ = some (.bool (cargoOk a b o ls && (ordOk ls.length 0 os && decide (os.length = ls.length))), ⟨H, e⟩) := by
  rw [call_eq t_s_l10Order]
  have hi : decide ((os.length : Int) = (ls.length : Int)) = decide (os.length = ls.length) := decide_eq_decide.mpr (by omega)
  cases h1 : cargoOk a b o ls with
  | false => simp +contextual only [a_s_l10Order, c_s_l10Order, e_s_l10Cargo (cells_mono hq _), h1, Bool.false_and, go_sem, entry, joinEsc, if_pos, reduceIte, Nat.reduceAdd, Nat.reduceLeDiff, Nat.reduceLT, Nat.reduceEqDiff]
  | true =>
    by_cases h2 : os.length = ls.length
    · have hn8 : ls.length ≤ 8 := by
        unfold cargoOk at h1
        rw [Bool.and_eq_true, decide_eq_true_eq] at h1
        exact h1.2
      rw [← hasAll_ord hn8 h2]
      obtain ⟨z5, z7, z8, hl⟩ := loop_s_l10Order (pr := pr) (e := none) (rv := rfV a b o) (p := .ptr (some (H.length, 0))) (y6 := .bool false) (c := c) (c' := c') (q := q) (cells_mono h [Blk.cells [.int .i64 a, .int .i64 b, .int .i64 o] true]) hn hn8 ls.length 0 .undef .undef rfl
      have h0 : ((0 : Nat) : Int) = 0 := rfl
      rw [h0] at hl
      have h3 : ((os.length : Nat) : Int) = (ls.length : Nat) := by omega
      have h3' : decide (((ls.length : Nat) : Int) = (ls.length : Nat)) = true := decide_eq_true rfl
      rw [h2] at hl ⊢
      cases h4 : hasAll os 0 ls.length <;> rw [h4] at hl <;> simp +contextual only [a_s_l10Order, c_s_l10Order, e_s_l10Cargo (cells_mono hq _), h1, h2, h3, h3', hl, Bool.false_and, Bool.true_and, decide_true, Bool.not_true, go_sem, entry, joinEsc, if_pos, reduceIte, Nat.reduceAdd, Nat.reduceLeDiff, Nat.reduceLT, Nat.reduceEqDiff]
    · have h3 : ¬ ((os.length : Nat) : Int) = (ls.length : Nat) := by omega
      simp +contextual only [a_s_l10Order, c_s_l10Order, e_s_l10Cargo (cells_mono hq _), h1, h2, h3, decide_false, Bool.not_false, Bool.and_false, go_sem, entry, joinEsc, if_pos, reduceIte, Nat.reduceAdd, Nat.reduceLeDiff, Nat.reduceLT, Nat.reduceEqDiff]

/-- how many are on when it tips, 0 if it does not -/
def tipFrom (a b o : Int) (ls : List Ld) : Nat → Nat → List Int → Nat
  | _, _, [] => 0
  | i, m, x :: xs => if safeW a b o ls ((m + 2 ^ x.toNat : Nat) : Int) = true then tipFrom a b o ls (i + 1) (m + 2 ^ x.toNat) xs else i + 1

theorem loop_s_l10Tip {q q' u n : Nat} {rv : AV} {c c' : Option Nat} {ls : List Ld} {os : List Int} {a b o : Int} (hn8 : n ≤ 8) (hq : cellsAt H q = some (encL ls)) (hnq : ls.length ≤ 9223372036854775806) (h : cellsAt H q' = some (encI os)) (hn : os.length ≤ 9223372036854775806) (hu : cellsAt H u = some [.int .i64 a, .int .i64 b, .int .i64 o]) :
    ∀ (k i m : Nat) (y7 y8 : AV), k + i = os.length → m < 256 → ordOk n m (os.drop i) = true → ∃ (z5 z6 z7 z8 : AV), run T pr (.loop w_s_l10Tip_1) ⟨[rv, slL q ls.length c, slI q' os.length c', .ptr (some (u, 0)), .int .i64 0, .int .i64 m, .int .i64 i, y7, y8], ⟨H, e⟩⟩ =
      some (if tipFrom a b o ls i m (os.drop i) = 0 then Ex.exit 0 else Ex.ret, ⟨[rv, slL q ls.length c, slI q' os.length c', .ptr (some (u, 0)), .int .i64 (tipFrom a b o ls i m (os.drop i)), z5, z6, z7, z8], ⟨H, e⟩⟩)
  | 0, i, m, y7, y8, hk, hm, ho => by
    have hi : i = os.length := by omega
    subst hi
    refine ⟨.int .i64 m, .int .i64 os.length, .bool false, y8, ?_⟩
    have h0 : ((0 : Nat) : Int) = 0 := rfl
    rw [run_loop, List.drop_length, tipFrom, h0]
    generalize run T pr (.loop w_s_l10Tip_1) = R
    simp +contextual only [w_s_l10Tip_1, Nat.lt_irrefl, decide_false, go_sem, entry, joinEsc, if_pos, reduceIte, Nat.reduceAdd, Nat.reduceLeDiff, Nat.reduceLT, Nat.reduceEqDiff]
  | k + 1, i, m, y7, y8, hk, hm, ho => by
    have hi : i < os.length := by omega
    have hl : os[i]? = some os[i] := List.getElem?_eq_getElem hi
    rw [run_loop, List.drop_eq_getElem_cons hi, tipFrom]
    rw [List.drop_eq_getElem_cons hi, ordOk, Bool.and_eq_true, Bool.and_eq_true, Bool.and_eq_true, decide_eq_true_eq, decide_eq_true_eq] at ho
    generalize hx : os[i] = x at hl ho ⊢
    obtain ⟨⟨⟨h1, h2⟩, h3⟩, h4⟩ := ho
    obtain ⟨y, rfl⟩ : ∃ y : Nat, x = y := ⟨x.toNat, by omega⟩
    rw [Int.toNat_natCast] at *
    obtain ⟨_, _, f3⟩ := bits_facts m hm y (by omega)
    obtain ⟨_, g2, g3, g4⟩ := f3 (by simpa using h3)
    have g2' : IntKind.i64.wrap ((m : Int) + shlI .i64 1 (y : Int)) = ((m + 2 ^ y : Nat) : Int) := g2
    obtain ⟨z5, z6, z7, z8, ih⟩ := loop_s_l10Tip (rv := rv) (c := c) (c' := c') hn8 hq hnq h hn hu k (i + 1) (m + 2 ^ y) (.bool true) (.bool false) (by omega) g3 h4
    generalize run T pr (.loop w_s_l10Tip_1) = R at ih ⊢
    cases h5 : safeW a b o ls ((m + 2 ^ y : Nat) : Int) with
    | false =>
      refine ⟨.int .i64 ((m + 2 ^ y : Nat) : Int), .int .i64 i, .bool true, .bool true, ?_⟩
      simp +contextual only [w_s_l10Tip_1, h, hu, hi, hl, part_encI _ hl, shl_nat, g2', e_s_l10Safe hq hnq, h5, wrap_succ (show i < 9223372036854775807 by omega), decide_true, Nat.add_eq_zero_iff, Nat.succ_ne_zero, Nat.one_ne_zero, and_false, go_sem, entry, joinEsc, if_pos, reduceIte, Nat.reduceAdd, Nat.reduceLeDiff, Nat.reduceLT, Nat.reduceEqDiff]
    | true =>
      refine ⟨z5, z6, z7, z8, ?_⟩
      simp +contextual only [w_s_l10Tip_1, h, hu, hi, hl, part_encI _ hl, shl_nat, g2', e_s_l10Safe hq hnq, h5, wrap_succ (show i < 9223372036854775807 by omega), decide_true, go_sem, entry, joinEsc, if_pos, reduceIte, Nat.reduceAdd, Nat.reduceLeDiff, Nat.reduceLT, Nat.reduceEqDiff]
      exact ih

theorem e_s_l10Tip {q q' n : Nat} {c c' : Option Nat} {ls : List Ld} {os : List Int} (hn8 : n ≤ 8) (hq : cellsAt H q = some (encL ls)) (hnq : ls.length ≤ 9223372036854775806) (h : cellsAt H q' = some (encI os)) (hn : os.length ≤ 9223372036854775806) (ho : ordOk n 0 os = true) (a b o : Int) :
    call T pr f_s_l10Tip [rfV a b o, slL q ls.length c, slI q' os.length c'] ⟨H, e⟩ = some (.int .i64 (if tipFrom a b o ls 0 0 os = 0 then -1 else tipFrom a b o ls 0 0 os), ⟨H, e⟩) := by
  have hu : cellsAt (H ++ [Blk.cells [.int .i64 a, .int .i64 b, .int .i64 o] true]) H.length = some [.int .i64 a, .int .i64 b, .int .i64 o] := by simp [cellsAt, List.getElem?_append_right]
  obtain ⟨z5, z6, z7, z8, hl⟩ := loop_s_l10Tip (pr := pr) (e := none) (rv := rfV a b o) (c := c) (c' := c') hn8 (cells_mono hq [Blk.cells [.int .i64 a, .int .i64 b, .int .i64 o] true]) hnq (cells_mono h _) hn hu os.length 0 0 .undef .undef rfl (by omega) (by simpa using ho)
  have h0 : ((0 : Nat) : Int) = 0 := rfl
  rw [h0, List.drop_zero] at hl
  rw [call_eq t_s_l10Tip]
  by_cases h1 : tipFrom a b o ls 0 0 os = 0 <;> simp only [h1, if_true, if_false] at hl ⊢ <;> simp +contextual only [a_s_l10Tip, c_s_l10Tip, hl, go_sem, entry, joinEsc, if_pos, reduceIte, Nat.reduceAdd, Nat.reduceLeDiff, Nat.reduceLT, Nat.reduceEqDiff]

theorem loop_i_Raft_firstTip {q q' u n : Nat} {rv : AV} {c c' : Option Nat} {ls : List Ld} {os : List Int} {a b o : Int} (hn8 : n ≤ 8) (hq : cellsAt H q = some (encL ls)) (hnq : ls.length ≤ 9223372036854775806) (h : cellsAt H q' = some (encI os)) (hn : os.length ≤ 9223372036854775806) (hu : cellsAt H u = some [.int .i64 a, .int .i64 b, .int .i64 o]) :
    ∀ (k i m : Nat) (y6 y7 y11 y12 : AV), k + i = os.length → m < 256 → ordOk n m (os.drop i) = true → ∃ (z5 z6 z7 z10 z11 z12 : AV), run T pr (.loop w_i_Raft_firstTip_1) ⟨[rv, slL q ls.length c, slI q' os.length c', .ptr (some (u, 0)), .int .i64 0, .int .i64 m, y6, y7, slI q' os.length c', .int .i64 os.length, .int .i64 i, y11, y12], ⟨H, e⟩⟩ =
      some (if tipFrom a b o ls i m (os.drop i) = 0 then Ex.exit 0 else Ex.ret, ⟨[rv, slL q ls.length c, slI q' os.length c', .ptr (some (u, 0)), .int .i64 (tipFrom a b o ls i m (os.drop i)), z5, z6, z7, slI q' os.length c', .int .i64 os.length, z10, z11, z12], ⟨H, e⟩⟩)
  | 0, i, m, y6, y7, y11, y12, hk, hm, ho => by
    have hi : i = os.length := by omega
    subst hi
    refine ⟨.int .i64 m, y6, y7, .int .i64 os.length, .bool false, y12, ?_⟩
    have h0 : ((0 : Nat) : Int) = 0 := rfl
    rw [run_loop, List.drop_length, tipFrom, h0]
    generalize run T pr (.loop w_i_Raft_firstTip_1) = R
    simp +contextual only [w_i_Raft_firstTip_1, Nat.lt_irrefl, decide_false, go_sem, entry, joinEsc, if_pos, reduceIte, Nat.reduceAdd, Nat.reduceLeDiff, Nat.reduceLT, Nat.reduceEqDiff]
  | k + 1, i, m, y6, y7, y11, y12, hk, hm, ho => by
    have hi : i < os.length := by omega
    have hl : os[i]? = some os[i] := List.getElem?_eq_getElem hi
    rw [run_loop, List.drop_eq_getElem_cons hi, tipFrom]
    rw [List.drop_eq_getElem_cons hi, ordOk, Bool.and_eq_true, Bool.and_eq_true, Bool.and_eq_true, decide_eq_true_eq, decide_eq_true_eq] at ho
    generalize hx : os[i] = x at hl ho ⊢
    obtain ⟨⟨⟨h1, h2⟩, h3⟩, h4⟩ := ho
    obtain ⟨y, rfl⟩ : ∃ y : Nat, x = y := ⟨x.toNat, by omega⟩
    rw [Int.toNat_natCast] at *
    obtain ⟨_, _, f3⟩ := bits_facts m hm y (by omega)
    obtain ⟨g1, _, g3, g4⟩ := f3 (by simpa using h3)
    obtain ⟨z5, z6, z7, z10, z11, z12, ih⟩ := loop_i_Raft_firstTip (rv := rv) (c := c) (c' := c') hn8 hq hnq h hn hu k (i + 1) (m + 2 ^ y) (.int .i64 i) (.int .i64 y) (.bool true) (.bool false) (by omega) g3 h4
    generalize run T pr (.loop w_i_Raft_firstTip_1) = R at ih ⊢
    cases h5 : safeW a b o ls ((m + 2 ^ y : Nat) : Int) with
    | false =>
      refine ⟨.int .i64 ((m + 2 ^ y : Nat) : Int), .int .i64 i, .int .i64 y, .int .i64 i, .bool true, .bool true, ?_⟩
      simp +contextual only [w_i_Raft_firstTip_1, h, hu, hi, hl, part_encI _ hl, shl_nat, g1, e_i_Raft_isSafe hq hnq, h5, wrap_succ (show i < 9223372036854775807 by omega), decide_true, Nat.add_eq_zero_iff, Nat.succ_ne_zero, Nat.one_ne_zero, and_false, go_sem, entry, joinEsc, if_pos, reduceIte, Nat.reduceAdd, Nat.reduceLeDiff, Nat.reduceLT, Nat.reduceEqDiff]
    | true =>
      refine ⟨z5, z6, z7, z10, z11, z12, ?_⟩
      simp +contextual only [w_i_Raft_firstTip_1, h, hu, hi, hl, part_encI _ hl, shl_nat, g1, e_i_Raft_isSafe hq hnq, h5, wrap_succ (show i < 9223372036854775807 by omega), decide_true, go_sem, entry, joinEsc, if_pos, reduceIte, Nat.reduceAdd, Nat.reduceLeDiff, Nat.reduceLT, Nat.reduceEqDiff]
      exact ih

theorem e_i_Raft_firstTip {q q' n : Nat} {c c' : Option Nat} {ls : List Ld} {os : List Int} (hn8 : n ≤ 8) (hq : cellsAt H q = some (encL ls)) (hnq : ls.length ≤ 9223372036854775806) (h : cellsAt H q' = some (encI os)) (hn : os.length ≤ 9223372036854775806) (ho : ordOk n 0 os = true) (a b o : Int) :
    call T pr f_i_Raft_firstTip [rfV a b o, slL q ls.length c, slI q' os.length c'] ⟨H, e⟩ = some (.int .i64 (tipFrom a b o ls 0 0 os), ⟨H, e⟩) := by
  have hu : cellsAt (H ++ [Blk.cells [.int .i64 a, .int .i64 b, .int .i64 o] true]) H.length = some [.int .i64 a, .int .i64 b, .int .i64 o] := by simp [cellsAt, List.getElem?_append_right]
  obtain ⟨z5, z6, z7, z10, z11, z12, hl⟩ := loop_i_Raft_firstTip (pr := pr) (e := none) (rv := rfV a b o) (c := c) (c' := c') hn8 (cells_mono hq [Blk.cells [.int .i64 a, .int .i64 b, .int .i64 o] true]) hnq (cells_mono h _) hn hu os.length 0 0 .undef .undef .undef .undef rfl (by omega) (by simpa using ho)
  have h0 : ((0 : Nat) : Int) = 0 := rfl
  rw [h0, List.drop_zero] at hl
  rw [call_eq t_i_Raft_firstTip]
  by_cases h1 : tipFrom a b o ls 0 0 os = 0 <;> simp only [h1, if_true, if_false] at hl ⊢ <;> simp +contextual only [a_i_Raft_firstTip, c_i_Raft_firstTip, hl, h0, go_sem, entry, joinEsc, if_pos, reduceIte, Nat.reduceAdd, Nat.reduceLeDiff, Nat.reduceLT, Nat.reduceEqDiff]

/-- what FirstTip returns -/
def tipW (a b o : Int) (ls : List Ld) (os : List Int) : Nat := if (cargoOk a b o ls && (ordOk ls.length 0 os && decide (os.length = ls.length))) = true then tipFrom a b o ls 0 0 os else 0

theorem e_i_FirstTip {q q' : Nat} {c c' : Option Nat} {ls : List Ld} {os : List Int} (hq : cellsAt H q = some (encL ls)) (h : cellsAt H q' = some (encI os)) (hn : os.length ≤ 9223372036854775806) (a b o : Int) :
    call T pr f_i_FirstTip [rfV a b o, slL q ls.length c, slI q' os.length c'] ⟨H, e⟩ = some (.tup [.int .i64 (tipW a b o ls os), .bool (decide (0 < tipW a b o ls os))], ⟨H, e⟩) := by
  rw [call_eq t_i_FirstTip]
  unfold tipW
  cases h1 : cargoOk a b o ls with
  | false => simp +contextual only [a_i_FirstTip, c_i_FirstTip, e_i_areCargo (cells_mono hq _), h1, Bool.false_and, Bool.false_eq_true, if_false, Nat.lt_irrefl, decide_false, go_sem, entry, joinEsc, if_pos, reduceIte, Nat.reduceAdd, Nat.reduceLeDiff, Nat.reduceLT, Nat.reduceEqDiff]; rfl
  | true =>
    have hn8 : ls.length ≤ 8 := by
      unfold cargoOk at h1
      rw [Bool.and_eq_true, decide_eq_true_eq] at h1
      exact h1.2
    cases h2 : (ordOk ls.length 0 os && decide (os.length = ls.length)) with
    | false => simp +contextual only [a_i_FirstTip, c_i_FirstTip, e_i_areCargo (cells_mono hq _), e_i_isOrder hn8 (cells_mono h _) hn, h1, h2, Bool.and_false, Bool.false_eq_true, if_false, Nat.lt_irrefl, decide_false, go_sem, entry, joinEsc, if_pos, reduceIte, Nat.reduceAdd, Nat.reduceLeDiff, Nat.reduceLT, Nat.reduceEqDiff]; rfl
    | true =>
      have ho := (Bool.and_eq_true_iff.mp h2).1
      have hp : decide ((tipFrom a b o ls 0 0 os : Int) > 0) = decide (0 < tipFrom a b o ls 0 0 os) := decide_eq_decide.mpr (by omega)
      have hp' : decide ((0 : Int) < (tipFrom a b o ls 0 0 os : Int)) = decide (0 < tipFrom a b o ls 0 0 os) := decide_eq_decide.mpr (by omega)
      simp +contextual only [a_i_FirstTip, c_i_FirstTip, e_i_areCargo (cells_mono hq _), e_i_isOrder hn8 (cells_mono h _) hn, e_i_Raft_firstTip hn8 (cells_mono hq _) (show ls.length ≤ 9223372036854775806 by omega) (cells_mono h _) hn ho, h1, h2, hp, hp', Bool.and_true, go_sem, entry, joinEsc, if_pos, reduceIte, Nat.reduceAdd, Nat.reduceLeDiff, Nat.reduceLT, Nat.reduceEqDiff]

theorem e_s_FirstTip {q q' : Nat} {c c' : Option Nat} {ls : List Ld} {os : List Int} (hq : cellsAt H q = some (encL ls)) (h : cellsAt H q' = some (encI os)) (hn : os.length ≤ 9223372036854775806) (a b o : Int) :
    call T pr f_s_FirstTip [rfV a b o, slL q ls.length c, slI q' os.length c'] ⟨H, e⟩ = some (.tup [.int .i64 (tipW a b o ls os), .bool (decide (0 < tipW a b o ls os))], ⟨H, e⟩) := by
  rw [call_eq t_s_FirstTip]
  unfold tipW
  cases h1 : (cargoOk a b o ls && (ordOk ls.length 0 os && decide (os.length = ls.length))) with
  | false => simp +contextual only [a_s_FirstTip, c_s_FirstTip, e_s_l10Order (cells_mono hq _) (cells_mono h _) hn, h1, Bool.false_eq_true, if_false, Nat.lt_irrefl, decide_false, go_sem, entry, joinEsc, if_pos, reduceIte, Nat.reduceAdd, Nat.reduceLeDiff, Nat.reduceLT, Nat.reduceEqDiff]; rfl
  | true =>
    have hc := (Bool.and_eq_true_iff.mp h1).1
    have hn8 : ls.length ≤ 8 := by
      unfold cargoOk at hc
      rw [Bool.and_eq_true, decide_eq_true_eq] at hc
      exact hc.2
    have ho := (Bool.and_eq_true_iff.mp (Bool.and_eq_true_iff.mp h1).2).1
    have ht := fun G => e_s_l10Tip (pr := pr) (e := none) (c := c) (c' := c') hn8 (cells_mono hq G) (show ls.length ≤ 9223372036854775806 by omega) (cells_mono h G) hn ho a b o
    rw [if_pos rfl]
    by_cases h2 : tipFrom a b o ls 0 0 os = 0
    · simp only [h2, if_true] at ht ⊢
      simp +contextual only [a_s_FirstTip, c_s_FirstTip, e_s_l10Order (cells_mono hq _) (cells_mono h _) hn, ht, h1, Nat.lt_irrefl, decide_false, show ((-1 : Int) < 0) by omega, decide_true, go_sem, entry, joinEsc, if_pos, reduceIte, Nat.reduceAdd, Nat.reduceLeDiff, Nat.reduceLT, Nat.reduceEqDiff]; rfl
    · simp only [h2, if_false] at ht
      have h3 : ¬ ((tipFrom a b o ls 0 0 os : Int) < 0) := by omega
      have h4 : 0 < tipFrom a b o ls 0 0 os := by omega
      simp +contextual only [a_s_FirstTip, c_s_FirstTip, e_s_l10Order (cells_mono hq _) (cells_mono h _) hn, ht, h1, h3, h4, decide_false, decide_true, go_sem, entry, joinEsc, if_pos, reduceIte, Nat.reduceAdd, Nat.reduceLeDiff, Nat.reduceLT, Nat.reduceEqDiff]

theorem law_FirstTip {av av' : AV} {ls : List Ld} {os : List Int} (ha : ArgL H av ls) (hb : ArgI H av' os) (a b o : Int) : ∃ m', call T pr f_l_FnExactFirstTip [rfV a b o, av, av'] ⟨H, none⟩ = some (.bool true, m') := by
  refine ⟨⟨H, none⟩, ?_⟩
  have hsz : ∀ G e', call T pr f_l_szLoadS [av, .int .i64 1048576] ⟨G, e'⟩ = some (.int .i64 (if ls.length ≤ 1048576 then 1048576 - ls.length else -1), ⟨G, e'⟩) := by
    obtain ⟨p, sz, c, rfl, h2, h3⟩ := ha
    exact fun G e' => e_l_szLoadS ls.length p sz c h2
  have hlen : ∃ p sz c, av' = .slice p sz os.length c := by
    obtain ⟨p, sz, c, h1, _⟩ := hb
    exact ⟨p, sz, c, h1⟩
  rw [call_eq t_l_FnExactFirstTip]
  by_cases hm : os.length ≤ 1048576
  · have hm' : os.length ≤ 9223372036854775806 := by omega
    have hgt : decide ((os.length : Int) > 1048576) = false := decide_eq_false (by omega)
    have hgt' : decide ((1048576 : Int) < (os.length : Int)) = false := decide_eq_false (by omega)
    have hcopyI := fun G => e_l_toIntS (pr := pr) (e := none) (hb.more G) hm
    obtain ⟨p, sz, c, rfl⟩ := hlen
    by_cases hn : ls.length ≤ 1048576
    · have hn' : ls.length ≤ 9223372036854775806 := by omega
      have hneg : ¬ (1048576 - (ls.length : Int) < 0) := by omega
      have hcopy := fun G => e_l_toLoadS (pr := pr) (e := none) (ha.more G) hn
      simp +contextual only [a_l_FnExactFirstTip, c_l_FnExactFirstTip, hsz, hn, hm, hgt, hgt', hneg, decide_false, decide_true, e_l_toRaft, hcopy, hcopyI, e_s_FirstTip, e_i_FirstTip, e_l_eqLoadS, e_l_eqIntS, hn', hm', beq_self_eq_true, go_sem, entry, joinEsc, if_pos, reduceIte, Nat.reduceAdd, Nat.reduceLeDiff, Nat.reduceLT, Nat.reduceEqDiff]
    · simp +contextual only [a_l_FnExactFirstTip, c_l_FnExactFirstTip, hsz, hn, hgt, hgt', decide_true, show ((-1 : Int) < 0) by omega, go_sem, entry, joinEsc, if_pos, reduceIte, Nat.reduceAdd, Nat.reduceLeDiff, Nat.reduceLT, Nat.reduceEqDiff]
  · have hgt : decide ((os.length : Int) > 1048576) = true := decide_eq_true (by omega)
    have hgt' : decide ((1048576 : Int) < (os.length : Int)) = true := decide_eq_true (by omega)
    obtain ⟨p, sz, c, rfl⟩ := hlen
    simp +contextual only [a_l_FnExactFirstTip, c_l_FnExactFirstTip, hgt, hgt', go_sem, entry, joinEsc, if_pos, reduceIte, Nat.reduceAdd, Nat.reduceLeDiff, Nat.reduceLT, Nat.reduceEqDiff]

end Go.Proofs.Ytlcklonakjhoiaa.Slim

/- Rafts: in how many ways the rest can be loaded, on both sides. -/
namespace Go.Proofs.Ytlcklonakjhoiaa.Slim

open Go

set_option linter.unusedSimpArgs false

set_option linter.unusedVariables false

variable {pr : Prims} {H : List Blk} {e : Option Nat}

theorem pow_facts : ∀ n : Nat, n < 9 → (shlI .i64 1 (n : Int) = ((2 ^ n : Nat) : Int) ∧ 2 ^ n ≤ 256 ∧ 0 < 2 ^ n) := by decide +kernel

theorem set_facts : ∀ n : Nat, n < 9 → ∀ c : Nat, c < 2 ^ n → ∀ i : Nat, i < n → (c.testBit i = false → c + 2 ^ i < 2 ^ n) ∧ (c + 1 = 2 ^ n → c.testBit i = true) := by decide +kernel

theorem getD_get {W : List Int} {c : Nat} (h : c < W.length) : W[c]? = some (W.getD c 0) := by
  rw [List.getD_eq_getElem?_getD, List.getElem?_eq_getElem h]; rfl

/-- c's ways, grown by those of the items from i on -/
def waysIn (c : Nat) : Nat → Nat → List Int → List Int
  | 0, _, W => W
  | k + 1, i, W => waysIn c k (i + 1) (if c.testBit i = true then W else W.set c (wr (W.getD c 0 + W.getD (c + 2 ^ i) 0)))

theorem waysIn_length {c : Nat} : ∀ (k i : Nat) (W : List Int), (waysIn c k i W).length = W.length
  | 0, _, W => rfl
  | k + 1, i, W => by
    rw [waysIn, waysIn_length k]
    split <;> simp

theorem waysIn_full {c : Nat} : ∀ (k i : Nat) (W : List Int), (∀ j, i ≤ j → j < i + k → c.testBit j = true) → waysIn c k i W = W
  | 0, _, W, _ => rfl
  | k + 1, i, W, h => by
    rw [waysIn, if_pos (h i (by omega) (by omega)), waysIn_full k _ _ (fun j h1 h2 => h j (by omega) (by omega))]

def waysStep (safe : Nat → Bool) (n c : Nat) (W : List Int) : List Int := if safe c = true then (if c + 1 = 2 ^ n then W.set c 1 else waysIn c n 0 W) else W

theorem waysStep_length (safe : Nat → Bool) (n c : Nat) (W : List Int) : (waysStep safe n c W).length = W.length := by
  unfold waysStep
  split
  · split
    · simp
    · exact waysIn_length _ _ _
  · rfl

/-- the sets below c, from the last one to the first -/
def waysDown (safe : Nat → Bool) (n : Nat) : Nat → List Int → List Int
  | 0, W => W
  | c + 1, W => waysDown safe n c (waysStep safe n c W)

theorem waysDown_length (safe : Nat → Bool) (n : Nat) : ∀ (c : Nat) (W : List Int), (waysDown safe n c W).length = W.length
  | 0, W => rfl
  | c + 1, W => by rw [waysDown, waysDown_length safe n c, waysStep_length]

def waysW (a b o : Int) (ls : List Ld) : List Int := waysDown (fun c => safeW a b o ls (c : Int)) ls.length (2 ^ ls.length) (List.replicate (2 ^ ls.length) 0)

theorem waysW_length (a b o : Int) (ls : List Ld) : (waysW a b o ls).length = 2 ^ ls.length := by
  unfold waysW
  rw [waysDown_length]
  simp

theorem bit_clear {c i : Nat} (hc : c < 256) (hi : i < 8) (h : c.testBit i = false) : andI .i64 (shrI .i64 c (i : Int)) 1 = 0 := by
  have : ∀ c : Nat, c < 256 → ∀ i : Nat, i < 8 → c.testBit i = false → andI .i64 (shrI .i64 c (i : Int)) 1 = 0 := by decide +kernel
  exact this c hc i hi h

theorem bit_set {c i : Nat} (hc : c < 256) (hi : i < 8) (h : c.testBit i = true) : andI .i64 (shrI .i64 c (i : Int)) 1 = 1 := by
  have : ∀ c : Nat, c < 256 → ∀ i : Nat, i < 8 → c.testBit i = true → andI .i64 (shrI .i64 c (i : Int)) 1 = 1 := by decide +kernel
  exact this c hc i hi h

theorem loop_s_l10Ways_1 {rv p y3 y4 y8 y9 y10 : AV} {q : Nat} {c : Option Nat} {n F C : Nat} (hn8 : n ≤ 8) (hF : F = 2 ^ n) (hC : C < F) :
    ∀ (k i : Nat) (W : List Int) (y11 y12 : AV), k + i = n → W.length = F → ∃ (z11 z12 : AV), run T pr (.loop w_s_l10Ways_1) ⟨[rv, slL q n c, p, y3, y4, slI H.length F (some F), .int .i64 C, .int .i64 i, y8, y9, y10, y11, y12], ⟨H ++ [.cells (encI W) true], e⟩⟩ =
      some (Ex.exit 2, ⟨[rv, slL q n c, p, y3, y4, slI H.length F (some F), .int .i64 C, .int .i64 n, y8, y9, y10, z11, z12], ⟨H ++ [.cells (encI (waysIn C k i W)) true], e⟩⟩)
  | 0, i, W, y11, y12, hk, hW => by
    have hi : i = n := by omega
    subst hi
    refine ⟨.bool false, y12, ?_⟩
    rw [run_loop]
    generalize run T pr (.loop w_s_l10Ways_1) = R
    simp +contextual only [w_s_l10Ways_1, Nat.lt_irrefl, decide_false, waysIn, go_sem, entry, joinEsc, if_pos, reduceIte, Nat.reduceAdd, Nat.reduceLeDiff, Nat.reduceLT, Nat.reduceEqDiff]
  | k + 1, i, W, y11, y12, hk, hW => by
    have hi : i < n := by omega
    obtain ⟨p1, p2, p3⟩ := pow_facts n (by omega)
    obtain ⟨s1, s2⟩ := set_facts n (by omega) C (by omega) i hi
    obtain ⟨_, _, f3⟩ := bits_facts C (by omega) i (by omega)
    rw [run_loop, waysIn]
    cases h1 : C.testBit i with
    | true =>
      obtain ⟨z11, z12, ih⟩ := loop_s_l10Ways_1 (rv := rv) (p := p) (y3 := y3) (y4 := y4) (y8 := y8) (y9 := y9) (y10 := y10) (q := q) (c := c) hn8 hF hC k (i + 1) W (.bool true) (.bool false) (by omega) hW
      refine ⟨z11, z12, ?_⟩
      generalize run T pr (.loop w_s_l10Ways_1) = R at ih ⊢
      have hb := bit_set (c := C) (i := i) (by omega) (by omega) h1
      simp +contextual only [w_s_l10Ways_1, hi, shr_nat, hb, show ¬ ((1 : Int) = 0) by omega, decide_false, wrap_succ (show i < 9223372036854775807 by omega), decide_true, go_sem, entry, joinEsc, if_pos, reduceIte, Nat.reduceAdd, Nat.reduceLeDiff, Nat.reduceLT, Nat.reduceEqDiff]
      exact ih
    | false =>
      obtain ⟨_, g2, g3, g4⟩ := f3 h1
      have hlt := s1 h1
      have hb := bit_clear (c := C) (i := i) (by omega) (by omega) h1
      have g2' : IntKind.i64.wrap ((C : Int) + shlI .i64 1 (i : Int)) = ((C + 2 ^ i : Nat) : Int) := g2
      have hlt' : C + 2 ^ i < F := by omega
      have e1 := part_encI (ls := W) 1 (getD_get (W := W) (c := C) (by omega))
      have e2 := part_encI (ls := W) 1 (getD_get (W := W) (c := C + 2 ^ i) (by omega))
      have hle : C + 1 ≤ (encI W).length := by rw [List.length_map]; omega
      obtain ⟨z11, z12, ih⟩ := loop_s_l10Ways_1 (rv := rv) (p := p) (y3 := y3) (y4 := y4) (y8 := y8) (y9 := y9) (y10 := y10) (q := q) (c := c) hn8 hF hC k (i + 1) (W.set C (wr (W.getD C 0 + W.getD (C + 2 ^ i) 0))) (.bool true) (.bool true) (by omega) (by simpa using hW)
      refine ⟨z11, z12, ?_⟩
      generalize run T pr (.loop w_s_l10Ways_1) = R at ih ⊢
      simp +contextual only [w_s_l10Ways_1, hi, hC, hlt', shr_nat, shl_nat, hb, g2', e1, e2, hle, setRange_encI (show C < W.length by omega), wrap_succ (show i < 9223372036854775807 by omega), Nat.mul_one, decide_true, go_sem, entry, joinEsc, if_pos, reduceIte, Nat.reduceAdd, Nat.reduceLeDiff, Nat.reduceLT, Nat.reduceEqDiff]
      exact ih

theorem loop_i_Raft_waysOf_1 {rv p y3 y4 y8 y13 y14 : AV} {q : Nat} {c : Option Nat} {n F C : Nat} (hn8 : n ≤ 8) (hF : F = 2 ^ n) (hC : C < F) :
    ∀ (k i : Nat) (W : List Int) (y7 y11 y12 : AV), k + i = n → W.length = F → ∃ (z7 z11 z12 : AV), run T pr (.loop w_i_Raft_waysOf_1) ⟨[rv, slL q n c, p, y3, y4, slI H.length F (some F), .int .i64 C, y7, y8, .int .i64 n, .int .i64 i, y11, y12, y13, y14], ⟨H ++ [.cells (encI W) true], e⟩⟩ =
      some (Ex.exit 3, ⟨[rv, slL q n c, p, y3, y4, slI H.length F (some F), .int .i64 C, z7, y8, .int .i64 n, .int .i64 n, z11, z12, y13, y14], ⟨H ++ [.cells (encI (waysIn C k i W)) true], e⟩⟩)
  | 0, i, W, y7, y11, y12, hk, hW => by
    have hi : i = n := by omega
    subst hi
    refine ⟨y7, .bool false, y12, ?_⟩
    rw [run_loop]
    generalize run T pr (.loop w_i_Raft_waysOf_1) = R
    simp +contextual only [w_i_Raft_waysOf_1, Nat.lt_irrefl, decide_false, waysIn, go_sem, entry, joinEsc, if_pos, reduceIte, Nat.reduceAdd, Nat.reduceLeDiff, Nat.reduceLT, Nat.reduceEqDiff]
  | k + 1, i, W, y7, y11, y12, hk, hW => by
    have hi : i < n := by omega
    obtain ⟨p1, p2, p3⟩ := pow_facts n (by omega)
    obtain ⟨s1, s2⟩ := set_facts n (by omega) C (by omega) i hi
    obtain ⟨_, _, f3⟩ := bits_facts C (by omega) i (by omega)
    rw [run_loop, waysIn]
    cases h1 : C.testBit i with
    | true =>
      obtain ⟨z7, z11, z12, ih⟩ := loop_i_Raft_waysOf_1 (rv := rv) (p := p) (y3 := y3) (y4 := y4) (y8 := y8) (y13 := y13) (y14 := y14) (q := q) (c := c) hn8 hF hC k (i + 1) W (.int .i64 i) (.bool true) (.bool false) (by omega) hW
      refine ⟨z7, z11, z12, ?_⟩
      generalize run T pr (.loop w_i_Raft_waysOf_1) = R at ih ⊢
      have hb := bit_set (c := C) (i := i) (by omega) (by omega) h1
      simp +contextual only [w_i_Raft_waysOf_1, hi, shr_nat, hb, show ¬ ((1 : Int) = 0) by omega, decide_false, wrap_succ (show i < 9223372036854775807 by omega), decide_true, go_sem, entry, joinEsc, if_pos, reduceIte, Nat.reduceAdd, Nat.reduceLeDiff, Nat.reduceLT, Nat.reduceEqDiff]
      exact ih
    | false =>
      obtain ⟨g1, _, g3, g4⟩ := f3 h1
      have hlt := s1 h1
      have hb := bit_clear (c := C) (i := i) (by omega) (by omega) h1
      have hlt' : C + 2 ^ i < F := by omega
      have e1 := part_encI (ls := W) 1 (getD_get (W := W) (c := C) (by omega))
      have e2 := part_encI (ls := W) 1 (getD_get (W := W) (c := C + 2 ^ i) (by omega))
      have hle : C + 1 ≤ (encI W).length := by rw [List.length_map]; omega
      obtain ⟨z7, z11, z12, ih⟩ := loop_i_Raft_waysOf_1 (rv := rv) (p := p) (y3 := y3) (y4 := y4) (y8 := y8) (y13 := y13) (y14 := y14) (q := q) (c := c) hn8 hF hC k (i + 1) (W.set C (wr (W.getD C 0 + W.getD (C + 2 ^ i) 0))) (.int .i64 i) (.bool true) (.bool true) (by omega) (by simpa using hW)
      refine ⟨z7, z11, z12, ?_⟩
      generalize run T pr (.loop w_i_Raft_waysOf_1) = R at ih ⊢
      simp +contextual only [w_i_Raft_waysOf_1, hi, hC, hlt', shr_nat, shl_nat, hb, g1, e1, e2, hle, setRange_encI (show C < W.length by omega), wrap_succ (show i < 9223372036854775807 by omega), Nat.mul_one, decide_true, go_sem, entry, joinEsc, if_pos, reduceIte, Nat.reduceAdd, Nat.reduceLeDiff, Nat.reduceLT, Nat.reduceEqDiff]
      exact ih

theorem loop_s_l10Ways_2 {rv y3 : AV} {q u : Nat} {c : Option Nat} {ls : List Ld} {n F : Nat} {a b o : Int} (hls : ls.length = n) (hn8 : n ≤ 8) (hF : F = 2 ^ n) (h : cellsAt H q = some (encL ls)) (hu : cellsAt H u = some [.int .i64 a, .int .i64 b, .int .i64 o]) :
    ∀ (C : Nat) (x : Int) (W : List Int) (y7 y8 y9 y10 y11 y12 : AV), x = (C : Int) - 1 → C ≤ F → W.length = F → ∃ (z6 z7 z8 z9 z10 z11 z12 : AV), run T pr (.loop w_s_l10Ways_2) ⟨[rv, slL q n c, .ptr (some (u, 0)), y3, .int .i64 ((F - 1 : Nat) : Int), slI H.length F (some F), .int .i64 x, y7, y8, y9, y10, y11, y12], ⟨H ++ [.cells (encI W) true], none⟩⟩ =
      some (Ex.exit 0, ⟨[rv, slL q n c, .ptr (some (u, 0)), y3, .int .i64 ((F - 1 : Nat) : Int), slI H.length F (some F), z6, z7, z8, z9, z10, z11, z12], ⟨H ++ [.cells (encI (waysDown (fun c => safeW a b o ls (c : Int)) n C W)) true], none⟩⟩)
  | 0, x, W, y7, y8, y9, y10, y11, y12, hx, hC, hW => by
    subst hx
    refine ⟨.int .i64 (((0 : Nat) : Int) - 1), y7, .bool false, y9, y10, y11, y12, ?_⟩
    rw [run_loop]
    generalize run T pr (.loop w_s_l10Ways_2) = R
    simp +contextual only [w_s_l10Ways_2, show ¬ (0 ≤ ((0 : Nat) : Int) - 1) by omega, decide_false, waysDown, go_sem, entry, joinEsc, if_pos, reduceIte, Nat.reduceAdd, Nat.reduceLeDiff, Nat.reduceLT, Nat.reduceEqDiff]
  | C + 1, x, W, y7, y8, y9, y10, y11, y12, hx, hC, hW => by
    obtain rfl : x = (C : Int) := by omega
    obtain ⟨p1, p2, p3⟩ := pow_facts n (by omega)
    have hw : IntKind.i64.wrap ((C : Int) - 1) = (C : Int) - 1 := wrap64 (by omega) (by omega)
    have hsafe := fun G => e_s_l10Safe (pr := pr) (e := none) (c := c) (cells_mono h G) (show ls.length ≤ 9223372036854775806 by omega) a b o (C : Int)
    rw [hls] at hsafe
    rw [run_loop, waysDown, waysStep]
    have h0 : ((0 : Nat) : Int) = 0 := rfl
    cases h1 : safeW a b o ls (C : Int) with
    | false =>
      obtain ⟨z6, z7, z8, z9, z10, z11, z12, ih⟩ := loop_s_l10Ways_2 (rv := rv) (y3 := y3) (c := c) hls hn8 hF h hu C ((C : Int) - 1) W y7 (.bool true) (.bool true) y10 y11 y12 rfl (by omega) hW
      refine ⟨z6, z7, z8, z9, z10, z11, z12, ?_⟩
      generalize run T pr (.loop w_s_l10Ways_2) = R at ih ⊢
      simp +contextual only [w_s_l10Ways_2, cells_mono hu, hsafe, h1, hw, decide_true, go_sem, entry, joinEsc, if_pos, reduceIte, Nat.reduceAdd, Nat.reduceLeDiff, Nat.reduceLT, Nat.reduceEqDiff]
      exact ih
    | true =>
      by_cases hc : C + 1 = F
      · have hfull : waysIn C n 0 (W.set C 1) = W.set C 1 := waysIn_full n 0 _ (fun j h2 h3 => (set_facts n (by omega) C (by omega) j (by omega)).2 (by omega))
        obtain ⟨z11, z12, hl⟩ := loop_s_l10Ways_1 (pr := pr) (e := none) (H := H) (rv := rv) (p := .ptr (some (u, 0))) (y3 := y3) (y4 := .int .i64 ((F - 1 : Nat) : Int)) (y8 := .bool true) (y9 := .bool false) (y10 := .bool true) (q := q) (c := c) hn8 hF (show C < F by omega) n 0 (W.set C 1) y11 y12 rfl (by simpa using hW)
        rw [hfull, h0] at hl
        obtain ⟨w6, w7, w8, w9, w10, w11, w12, ih⟩ := loop_s_l10Ways_2 (rv := rv) (y3 := y3) (c := c) hls hn8 hF h hu C ((C : Int) - 1) (W.set C 1) (.int .i64 n) (.bool true) (.bool false) (.bool true) z11 z12 rfl (by omega) (by simpa using hW)
        refine ⟨w6, w7, w8, w9, w10, w11, w12, ?_⟩
        generalize run T pr (.loop w_s_l10Ways_2) = R at ih ⊢
        have hq : decide ((C : Int) = ((F - 1 : Nat) : Int)) = true := decide_eq_true (by omega)
        have hc' : C + 1 = 2 ^ n := by omega
        have hCF : C < F := by omega
        have hle : 2 ^ n ≤ (encI W).length := by rw [List.length_map]; omega
        simp +contextual only [w_s_l10Ways_2, cells_mono hu, hsafe, h1, hw, hq, hc', hCF, hle, hl, setRange_encI (show C < W.length by omega), Nat.mul_one, decide_true, go_sem, entry, joinEsc, if_pos, reduceIte, Nat.reduceAdd, Nat.reduceLeDiff, Nat.reduceLT, Nat.reduceEqDiff]
        exact ih
      · obtain ⟨z11, z12, hl⟩ := loop_s_l10Ways_1 (pr := pr) (e := none) (H := H) (rv := rv) (p := .ptr (some (u, 0))) (y3 := y3) (y4 := .int .i64 ((F - 1 : Nat) : Int)) (y8 := .bool true) (y9 := .bool false) (y10 := .bool false) (q := q) (c := c) hn8 hF (show C < F by omega) n 0 W y11 y12 rfl hW
        rw [h0] at hl
        obtain ⟨w6, w7, w8, w9, w10, w11, w12, ih⟩ := loop_s_l10Ways_2 (rv := rv) (y3 := y3) (c := c) hls hn8 hF h hu C ((C : Int) - 1) (waysIn C n 0 W) (.int .i64 n) (.bool true) (.bool false) (.bool false) z11 z12 rfl (by omega) (by rw [waysIn_length]; exact hW)
        refine ⟨w6, w7, w8, w9, w10, w11, w12, ?_⟩
        generalize run T pr (.loop w_s_l10Ways_2) = R at ih ⊢
        have hq : decide ((C : Int) = ((F - 1 : Nat) : Int)) = false := decide_eq_false (by omega)
        have hc' : ¬ C + 1 = 2 ^ n := by omega
        simp +contextual only [w_s_l10Ways_2, cells_mono hu, hsafe, h1, hw, hq, hc', hl, decide_true, go_sem, entry, joinEsc, if_pos, reduceIte, Nat.reduceAdd, Nat.reduceLeDiff, Nat.reduceLT, Nat.reduceEqDiff]
        exact ih

theorem loop_i_Raft_waysOf_2 {rv y3 : AV} {q u : Nat} {c : Option Nat} {ls : List Ld} {n F : Nat} {a b o : Int} (hls : ls.length = n) (hn8 : n ≤ 8) (hF : F = 2 ^ n) (h : cellsAt H q = some (encL ls)) (hu : cellsAt H u = some [.int .i64 a, .int .i64 b, .int .i64 o]) :
    ∀ (C : Nat) (x : Int) (W : List Int) (y7 y8 y9 y10 y11 y12 y13 y14 : AV), x = (C : Int) - 1 → C ≤ F → W.length = F → ∃ (z6 z7 z8 z9 z10 z11 z12 z13 z14 : AV), run T pr (.loop w_i_Raft_waysOf_2) ⟨[rv, slL q n c, .ptr (some (u, 0)), y3, .int .i64 ((F - 1 : Nat) : Int), slI H.length F (some F), .int .i64 x, y7, y8, y9, y10, y11, y12, y13, y14], ⟨H ++ [.cells (encI W) true], none⟩⟩ =
      some (Ex.exit 0, ⟨[rv, slL q n c, .ptr (some (u, 0)), y3, .int .i64 ((F - 1 : Nat) : Int), slI H.length F (some F), z6, z7, z8, z9, z10, z11, z12, z13, z14], ⟨H ++ [.cells (encI (waysDown (fun c => safeW a b o ls (c : Int)) n C W)) true], none⟩⟩)
  | 0, x, W, y7, y8, y9, y10, y11, y12, y13, y14, hx, hC, hW => by
    subst hx
    refine ⟨.int .i64 (((0 : Nat) : Int) - 1), y7, .bool false, y9, y10, y11, y12, y13, y14, ?_⟩
    rw [run_loop]
    generalize run T pr (.loop w_i_Raft_waysOf_2) = R
    simp +contextual only [w_i_Raft_waysOf_2, show ¬ (0 ≤ ((0 : Nat) : Int) - 1) by omega, decide_false, waysDown, go_sem, entry, joinEsc, if_pos, reduceIte, Nat.reduceAdd, Nat.reduceLeDiff, Nat.reduceLT, Nat.reduceEqDiff]
  | C + 1, x, W, y7, y8, y9, y10, y11, y12, y13, y14, hx, hC, hW => by
    obtain rfl : x = (C : Int) := by omega
    obtain ⟨p1, p2, p3⟩ := pow_facts n (by omega)
    have hw : IntKind.i64.wrap ((C : Int) - 1) = (C : Int) - 1 := wrap64 (by omega) (by omega)
    have hsafe := fun G => e_i_Raft_isSafe (pr := pr) (e := none) (c := c) (cells_mono h G) (show ls.length ≤ 9223372036854775806 by omega) a b o (C : Int)
    rw [hls] at hsafe
    rw [run_loop, waysDown, waysStep]
    have h0 : ((0 : Nat) : Int) = 0 := rfl
    cases h1 : safeW a b o ls (C : Int) with
    | false =>
      obtain ⟨z6, z7, z8, z9, z10, z11, z12, z13, z14, ih⟩ := loop_i_Raft_waysOf_2 (rv := rv) (y3 := y3) (c := c) hls hn8 hF h hu C ((C : Int) - 1) W y7 (.bool true) y9 y10 y11 y12 (.bool true) y14 rfl (by omega) hW
      refine ⟨z6, z7, z8, z9, z10, z11, z12, z13, z14, ?_⟩
      generalize run T pr (.loop w_i_Raft_waysOf_2) = R at ih ⊢
      simp +contextual only [w_i_Raft_waysOf_2, cells_mono hu, hsafe, h1, hw, decide_true, go_sem, entry, joinEsc, if_pos, reduceIte, Nat.reduceAdd, Nat.reduceLeDiff, Nat.reduceLT, Nat.reduceEqDiff]
      exact ih
    | true =>
      by_cases hc : C + 1 = F
      · obtain ⟨w6, w7, w8, w9, w10, w11, w12, w13, w14, ih⟩ := loop_i_Raft_waysOf_2 (rv := rv) (y3 := y3) (c := c) hls hn8 hF h hu C ((C : Int) - 1) (W.set C 1) y7 (.bool true) y9 y10 y11 y12 (.bool false) (.bool true) rfl (by omega) (by simpa using hW)
        refine ⟨w6, w7, w8, w9, w10, w11, w12, w13, w14, ?_⟩
        generalize run T pr (.loop w_i_Raft_waysOf_2) = R at ih ⊢
        have hq : decide ((C : Int) = ((F - 1 : Nat) : Int)) = true := decide_eq_true (by omega)
        have hc' : C + 1 = 2 ^ n := by omega
        have hCF : C < F := by omega
        have hle : 2 ^ n ≤ (encI W).length := by rw [List.length_map]; omega
        simp +contextual only [w_i_Raft_waysOf_2, cells_mono hu, hsafe, h1, hw, hq, hc', hCF, hle, setRange_encI (show C < W.length by omega), Nat.mul_one, decide_true, go_sem, entry, joinEsc, if_pos, reduceIte, Nat.reduceAdd, Nat.reduceLeDiff, Nat.reduceLT, Nat.reduceEqDiff]
        exact ih
      · obtain ⟨z7, z11, z12, hl⟩ := loop_i_Raft_waysOf_1 (pr := pr) (e := none) (H := H) (rv := rv) (p := .ptr (some (u, 0))) (y3 := y3) (y4 := .int .i64 ((F - 1 : Nat) : Int)) (y8 := .bool true) (y13 := .bool false) (y14 := .bool false) (q := q) (c := c) hn8 hF (show C < F by omega) n 0 W y7 y11 y12 rfl hW
        rw [h0] at hl
        obtain ⟨w6, w7, w8, w9, w10, w11, w12, w13, w14, ih⟩ := loop_i_Raft_waysOf_2 (rv := rv) (y3 := y3) (c := c) hls hn8 hF h hu C ((C : Int) - 1) (waysIn C n 0 W) z7 (.bool true) (.int .i64 n) (.int .i64 n) z11 z12 (.bool false) (.bool false) rfl (by omega) (by rw [waysIn_length]; exact hW)
        refine ⟨w6, w7, w8, w9, w10, w11, w12, w13, w14, ?_⟩
        generalize run T pr (.loop w_i_Raft_waysOf_2) = R at ih ⊢
        have hq : decide ((C : Int) = ((F - 1 : Nat) : Int)) = false := decide_eq_false (by omega)
        have hc' : ¬ C + 1 = 2 ^ n := by omega
        simp +contextual only [w_i_Raft_waysOf_2, cells_mono hu, hsafe, h1, hw, hq, hc', hl, decide_true, go_sem, entry, joinEsc, if_pos, reduceIte, Nat.reduceAdd, Nat.reduceLeDiff, Nat.reduceLT, Nat.reduceEqDiff]
        exact ih

theorem fin_ways (x : Blk) (W : List Int) (n : Nat) (c : Option Nat) (e0 : Option Nat) : finish 2 H.length e0 (slI (H.length + 1) n c) ⟨H ++ [x, Blk.cells (encI W) true], none⟩ = some (slI H.length n c, ⟨H ++ [Blk.cells (encI W) true], e0⟩) :=
  finish_two_at e0 rfl (under_encI _ _)

theorem e_s_l10Ways {q : Nat} {c : Option Nat} {ls : List Ld} (h : cellsAt H q = some (encL ls)) (hn8 : ls.length ≤ 8) (a b o : Int) : call T pr f_s_l10Ways [rfV a b o, slL q ls.length c] ⟨H, e⟩ =
    some (slI H.length (2 ^ ls.length) (some (2 ^ ls.length)), ⟨H ++ [.cells (encI (waysW a b o ls)) true], e⟩) := by
  obtain ⟨p1, p2, p3⟩ := pow_facts ls.length (by omega)
  unfold waysW
  generalize hF : 2 ^ ls.length = F at *
  have hu : cellsAt (H ++ [Blk.cells [.int .i64 a, .int .i64 b, .int .i64 o] true]) H.length = some [.int .i64 a, .int .i64 b, .int .i64 o] := by simp [cellsAt, List.getElem?_append_right]
  have hx : ((F - 1 : Nat) : Int) = (F : Int) - 1 := by omega
  obtain ⟨z6, z7, z8, z9, z10, z11, z12, hl⟩ := loop_s_l10Ways_2 (pr := pr) (c := c) (rv := rfV a b o) (y3 := .slice none 0 0 none) rfl hn8 hF.symm (cells_mono h [Blk.cells [.int .i64 a, .int .i64 b, .int .i64 o] true]) hu F ((F - 1 : Nat) : Int) (List.replicate F 0) .undef .undef .undef .undef .undef .undef hx (Nat.le_refl _) (by simp)
  rw [← zeros_encI, List.append_assoc, List.append_assoc] at hl
  simp only [List.length_append, List.length_cons, List.length_nil, Nat.zero_add, List.cons_append, List.nil_append] at hl
  have w1 : IntKind.i64.wrap ((F : Int) - 1) = ((F - 1 : Nat) : Int) := by rw [hx]; exact wrap64 (by omega) (by omega)
  have w2 : IntKind.i64.wrap (((F - 1 : Nat) : Int) + 1) = (F : Int) := by rw [hx, show (F : Int) - 1 + 1 = F by omega]; exact wrap64 (by omega) (by omega)
  have hmb : (F : Int) * ((8 : Nat) : Int) ≤ ((maxBytes : Nat) : Int) := by unfold maxBytes; omega
  rw [call_eq t_s_l10Ways]
  simp +contextual only [a_s_l10Ways, c_s_l10Ways, shl_nat, p1, w1, w2, hmb, hl, fin_ways, go_sem, entry, joinEsc, if_pos, reduceIte, Nat.reduceAdd, Nat.reduceLeDiff, Nat.reduceLT, Nat.reduceEqDiff]

theorem e_i_Raft_waysOf {q : Nat} {c : Option Nat} {ls : List Ld} (h : cellsAt H q = some (encL ls)) (hn8 : ls.length ≤ 8) (a b o : Int) : call T pr f_i_Raft_waysOf [rfV a b o, slL q ls.length c] ⟨H, e⟩ =
    some (slI H.length (2 ^ ls.length) (some (2 ^ ls.length)), ⟨H ++ [.cells (encI (waysW a b o ls)) true], e⟩) := by
  obtain ⟨p1, p2, p3⟩ := pow_facts ls.length (by omega)
  unfold waysW
  generalize hF : 2 ^ ls.length = F at *
  have hu : cellsAt (H ++ [Blk.cells [.int .i64 a, .int .i64 b, .int .i64 o] true]) H.length = some [.int .i64 a, .int .i64 b, .int .i64 o] := by simp [cellsAt, List.getElem?_append_right]
  have hx : ((F - 1 : Nat) : Int) = (F : Int) - 1 := by omega
  obtain ⟨z6, z7, z8, z9, z10, z11, z12, z13, z14, hl⟩ := loop_i_Raft_waysOf_2 (pr := pr) (c := c) (rv := rfV a b o) (y3 := .slice none 0 0 none) rfl hn8 hF.symm (cells_mono h [Blk.cells [.int .i64 a, .int .i64 b, .int .i64 o] true]) hu F ((F - 1 : Nat) : Int) (List.replicate F 0) .undef .undef .undef .undef .undef .undef .undef .undef hx (Nat.le_refl _) (by simp)
  rw [← zeros_encI, List.append_assoc, List.append_assoc] at hl
  simp only [List.length_append, List.length_cons, List.length_nil, Nat.zero_add, List.cons_append, List.nil_append] at hl
  have w1 : IntKind.i64.wrap ((F : Int) - 1) = ((F - 1 : Nat) : Int) := by rw [hx]; exact wrap64 (by omega) (by omega)
  have w2 : IntKind.i64.wrap (((F - 1 : Nat) : Int) + 1) = (F : Int) := by rw [hx, show (F : Int) - 1 + 1 = F by omega]; exact wrap64 (by omega) (by omega)
  have hmb : (F : Int) * ((8 : Nat) : Int) ≤ ((maxBytes : Nat) : Int) := by unfold maxBytes; omega
  rw [call_eq t_i_Raft_waysOf]
  simp +contextual only [a_i_Raft_waysOf, c_i_Raft_waysOf, shl_nat, p1, w1, w2, hmb, hl, fin_ways, go_sem, entry, joinEsc, if_pos, reduceIte, Nat.reduceAdd, Nat.reduceLeDiff, Nat.reduceLT, Nat.reduceEqDiff]

end Go.Proofs.Ytlcklonakjhoiaa.Slim

/- Rafts: what the ways tell; the next steps. -/
namespace Go.Proofs.Ytlcklonakjhoiaa.Slim

open Go

set_option linter.unusedSimpArgs false

set_option linter.unusedVariables false

variable {pr : Prims} {H : List Blk} {e : Option Nat}

/-- the items that are not in c -/
def mu (n c : Nat) : Nat := ((List.range n).filter fun i => !c.testBit i).length

theorem mu_facts : ∀ n : Nat, n < 9 → ∀ c : Nat, c < 2 ^ n → (mu n c ≤ 8 ∧ (mu n c = 0 ↔ c + 1 = 2 ^ n) ∧ ∀ i : Nat, i < n → c.testBit i = false → mu n c = mu n (c + 2 ^ i) + 1) := by decide +kernel

theorem mu_zero (n : Nat) : mu n 0 = n := by
  unfold mu
  rw [List.filter_eq_self.mpr (by simp)]
  simp

/-- item i can be added to c, and the rest in some way behind it -/
def okStep (W : List Int) (c i : Nat) : Bool := !c.testBit i && decide (0 < W.getD (c + 2 ^ i) 0)

def stepsW (W : List Int) (n c : Nat) : List Int := ((List.range n).filter (okStep W c)).map fun (i : Nat) => (i : Int)

theorem getD_set (W : List Int) (c d : Nat) (x : Int) (h : c < W.length) : (W.set c x).getD d 0 = if c = d then x else W.getD d 0 := by
  rw [List.getD_eq_getElem?_getD, List.getD_eq_getElem?_getD, List.getElem?_set]
  by_cases hd : c = d
  · subst hd; rw [if_pos rfl, if_pos rfl, if_pos h]; rfl
  · rw [if_neg hd, if_neg hd]

theorem waysIn_spec {c n b : Nat} : ∀ (k i : Nat) (W : List Int), k + i = n → c < W.length → (∀ j, j < n → c.testBit j = false → 0 ≤ W.getD (c + 2 ^ j) 0 ∧ W.getD (c + 2 ^ j) 0 ≤ b) → 0 ≤ W.getD c 0 → W.getD c 0 + k * b ≤ 9223372036854775807 →
    (∀ d, d ≠ c → (waysIn c k i W).getD d 0 = W.getD d 0) ∧ W.getD c 0 ≤ (waysIn c k i W).getD c 0 ∧ (waysIn c k i W).getD c 0 ≤ W.getD c 0 + k * b ∧ (W.getD c 0 < (waysIn c k i W).getD c 0 → ∃ j, j < n ∧ okStep W c j = true)
  | 0, i, W, hk, hc, hb, h0, hm => by
    rw [waysIn]
    refine ⟨fun d _ => rfl, Int.le_refl _, by omega, fun h => by omega⟩
  | k + 1, i, W, hk, hc, hb, h0, hm => by
    rw [waysIn]
    have hkb : ((k + 1 : Nat) : Int) * (b : Int) = (k : Int) * b + b := by
      rw [Int.natCast_add, Int.add_mul]; simp
    cases h1 : c.testBit i with
    | true =>
      rw [if_pos rfl]
      obtain ⟨r1, r2, r3, r4⟩ := waysIn_spec (n := n) (b := b) k (i + 1) W (by omega) hc hb h0 (by omega)
      exact ⟨r1, r2, by omega, r4⟩
    | false =>
      rw [if_neg (by simp)]
      obtain ⟨b1, b2⟩ := hb i (by omega) h1
      have hkb0 : (0 : Int) ≤ (k : Int) * b := Int.mul_nonneg (by omega) (by omega)
      have hwr : wr (W.getD c 0 + W.getD (c + 2 ^ i) 0) = W.getD c 0 + W.getD (c + 2 ^ i) 0 := wrap64 (by omega) (by omega)
      rw [hwr]
      generalize hx : W.getD c 0 + W.getD (c + 2 ^ i) 0 = x
      have hne : ∀ j, c + 2 ^ j ≠ c := fun j hj => by have := Nat.two_pow_pos j; omega
      have gs := fun d => getD_set W c d x hc
      obtain ⟨r1, r2, r3, r4⟩ := waysIn_spec (c := c) (n := n) (b := b) k (i + 1) (W.set c x) (by omega) (by simpa using hc)
        (fun j hj hjc => by rw [gs, if_neg (fun h => hne j h.symm)]; exact hb j hj hjc) (by rw [gs, if_pos rfl]; omega) (by rw [gs, if_pos rfl]; omega)
      rw [gs c, if_pos rfl] at r2 r3 r4
      refine ⟨fun d hd => by rw [r1 d hd, gs, if_neg (fun h => hd h.symm)], by omega, by omega, fun hlt => ?_⟩
      by_cases hz : 0 < W.getD (c + 2 ^ i) 0
      · exact ⟨i, by omega, by simp [okStep, h1]; simpa using hz⟩
      · obtain ⟨j, j1, j2⟩ := r4 (by omega)
        refine ⟨j, j1, ?_⟩
        unfold okStep at j2 ⊢
        rw [gs, if_neg (fun h => hne j h.symm)] at j2
        exact j2

/-- what is true of c's ways -/
def goodW (n : Nat) (W : List Int) (c : Nat) : Prop := 0 ≤ W.getD c 0 ∧ W.getD c 0 ≤ ((8 ^ mu n c : Nat) : Int) ∧ (0 < W.getD c 0 → mu n c ≠ 0 → ∃ i, i < n ∧ okStep W c i = true)

theorem goodW_of {n c : Nat} {W W' : List Int} (hs : ∀ d, c ≤ d → W'.getD d 0 = W.getD d 0) (h : goodW n W c) : goodW n W' c := by
  obtain ⟨h1, h2, h3⟩ := h
  refine ⟨by rw [hs c (Nat.le_refl _)]; exact h1, by rw [hs c (Nat.le_refl _)]; exact h2, fun k1 k2 => ?_⟩
  rw [hs c (Nat.le_refl _)] at k1
  obtain ⟨i, i1, i2⟩ := h3 k1 k2
  refine ⟨i, i1, ?_⟩
  unfold okStep at *
  rw [hs _ (Nat.le_add_right _ _)]
  exact i2

theorem waysDown_good {n F : Nat} (safe : Nat → Bool) (hn8 : n ≤ 8) (hF : F = 2 ^ n) : ∀ (C : Nat) (W : List Int), C ≤ F → W.length = F → (∀ c, c < C → W.getD c 0 = 0) → (∀ c, C ≤ c → c < F → goodW n W c) →
    ∀ c, c < F → goodW n (waysDown safe n C W) c
  | 0, W, _, _, _, h => fun c hc => by rw [waysDown]; exact h c (by omega) hc
  | C + 1, W, hC, hW, hz, h => by
    rw [waysDown]
    obtain ⟨m1, m2, m3⟩ := mu_facts n (by omega) C (by omega)
    have hz0 := hz C (by omega)
    have hCW : C < W.length := by omega
    have key : (∀ d, d ≠ C → (waysStep safe n C W).getD d 0 = W.getD d 0) ∧ goodW n (waysStep safe n C W) C := by
      unfold waysStep
      cases hs : safe C with
      | false =>
        rw [if_neg (by simp)]
        refine ⟨fun d _ => rfl, by omega, ?_, fun k1 => by omega⟩
        rw [hz0]; exact Int.natCast_nonneg _
      | true =>
        rw [if_pos rfl]
        by_cases hc : C + 1 = 2 ^ n
        · rw [if_pos hc]
          have gs := fun d => getD_set W C d 1 hCW
          have hm0 := m2.mpr hc
          refine ⟨fun d hd => by rw [gs, if_neg (fun h => hd h.symm)], ?_, ?_, fun _ k2 => absurd hm0 k2⟩
          · rw [gs, if_pos rfl]; omega
          · rw [gs, if_pos rfl, hm0]; simp
        · rw [if_neg hc]
          have hm0 : mu n C ≠ 0 := fun h => hc (m2.mp h)
          obtain ⟨m', hm'⟩ : ∃ m', mu n C = m' + 1 := ⟨mu n C - 1, by omega⟩
          have hp : 8 ^ m' ≤ 8 ^ 7 := Nat.pow_le_pow_right (by omega) (by omega)
          have hnb : (n : Int) * ((8 ^ m' : Nat) : Int) ≤ 8 * ((8 ^ m' : Nat) : Int) := Int.mul_le_mul_of_nonneg_right (by omega) (Int.natCast_nonneg _)
          have h87 : (8 : Nat) ^ 7 = 2097152 := by decide
          obtain ⟨r1, r2, r3, r4⟩ := waysIn_spec (c := C) (n := n) (b := 8 ^ m') n 0 W (by omega) hCW (fun j hj hjc => by
            have hlt := (set_facts n (by omega) C (by omega) j hj).1 hjc
            obtain ⟨g1, g2, _⟩ := h (C + 2 ^ j) (by have := Nat.two_pow_pos j; omega) (by omega)
            have := m3 j hj hjc
            rw [show mu n (C + 2 ^ j) = m' by omega] at g2
            exact ⟨g1, g2⟩) (by omega) (by omega)
          refine ⟨r1, by omega, ?_, fun k1 _ => ?_⟩
          · rw [hm', Nat.pow_succ]
            omega
          · obtain ⟨j, j1, j2⟩ := r4 (by omega)
            refine ⟨j, j1, ?_⟩
            unfold okStep at j2 ⊢
            rw [r1 _ (by have := Nat.two_pow_pos j; omega)]
            exact j2
    obtain ⟨k1, k2⟩ := key
    refine waysDown_good safe hn8 hF C _ (by omega) (by rw [waysStep_length]; exact hW) (fun c hc => by rw [k1 c (by omega)]; exact hz c (by omega)) ?_
    intro c hc1 hc2
    by_cases he : c = C
    · rw [he]; exact k2
    · exact goodW_of (W := W) (fun d hd => k1 d (by omega)) (h c (by omega) hc2)

theorem waysW_good {a b o : Int} {ls : List Ld} (hn8 : ls.length ≤ 8) : ∀ c, c < 2 ^ ls.length → goodW ls.length (waysW a b o ls) c :=
  waysDown_good _ hn8 rfl _ _ (Nat.le_refl _) (by simp) (fun c hc => by rw [List.getD_eq_getElem?_getD, List.getElem?_replicate, if_pos hc]; rfl) (fun c h1 h2 => absurd h1 (by omega))

theorem encI_append (a b : List Int) : encI (a ++ b) = encI a ++ encI b := by simp [encI]

/-- one number more -/
theorem append_in {G : List Blk} {j : Nat} {o : List Int} {cap : Option Nat} (hG : G[j]? = some (.cells (encI o) true)) (hcap : cap = some 0 → o = []) (hmb : (o.length + 1) * 8 ≤ maxBytes) (a : Int) :
    appendV (H ++ (G ++ [.cells [.int .i64 a] true])) e false 1 8 (slI (H.length + j) o.length cap) (.slice (some (H.length + G.length, 0)) 1 1 (some 1)) =
      some (slI (H.length + (G.length + 1)) (o.length + 1) none, ⟨H ++ (killIf cap j (G ++ [.cells [.int .i64 a] true]) ++ [.cells (encI o ++ [.int .i64 a]) true]), e⟩) := by
  have hj : j < G.length := (List.getElem?_eq_some_iff.mp hG).1
  rw [appendV_more (k := 1) (cs := encI o) (new := [.int .i64 a]) (by rw [List.getElem?_append_left hj]; exact hG)
    (srcCells_new _ 1 1 _ _ _ (by rw [cellsAt_newk, cellsAt_new0, cellsAt_cons0]) rfl) (by omega) (by simp) rfl hmb (fun h => by rw [hcap h]; rfl)]
  simp

theorem loop_i_stepsFrom {q w n F C : Nat} {c cw : Option Nat} {W : List Int} {y3 : AV} (hn8 : n ≤ 8) (hF : F = 2 ^ n) (hC : C < F) (hw : cellsAt H w = some (encI W)) (hW : W.length = F) :
    ∀ (k i : Nat) (o : List Int) (j : Nat) (cap : Option Nat) (G : List Blk) (y5 y8 y9 : AV), k + i = n → o.length ≤ i → G[j]? = some (.cells (encI o) true) → (cap = some 0 → o = []) →
      ∃ (j' : Nat) (cap' : Option Nat) (G' : List Blk) (z5 z8 z9 : AV), G'[j']? = some (.cells (encI (o ++ ((List.range' i k).filter (okStep W C)).map fun (i : Nat) => (i : Int))) true) ∧ run T pr (.loop w_i_stepsFrom_1) ⟨[slL q n c, slI w F cw, .int .i64 C, y3, slI (H.length + j) o.length cap, y5, .int .i64 n, .int .i64 i, y8, y9], ⟨H ++ G, e⟩⟩ =
      some (Ex.exit 0, ⟨[slL q n c, slI w F cw, .int .i64 C, y3, slI (H.length + j') (o ++ ((List.range' i k).filter (okStep W C)).map fun (i : Nat) => (i : Int)).length cap', z5, .int .i64 n, .int .i64 n, z8, z9], ⟨H ++ G', e⟩⟩)
  | 0, i, o, j, cap, G, y5, y8, y9, hk, ho, hG, hcap => by
    have hi : i = n := by omega
    subst hi
    refine ⟨j, cap, G, y5, .bool false, y9, ?_, ?_⟩
    · simpa using hG
    rw [run_loop]
    generalize run T pr (.loop w_i_stepsFrom_1) = R
    have h0 : (o ++ ((List.range' i 0).filter (okStep W C)).map fun (i : Nat) => (i : Int)) = o := by simp
    simp +contextual only [w_i_stepsFrom_1, Nat.lt_irrefl, decide_false, h0, go_sem, entry, joinEsc, if_pos, reduceIte, Nat.reduceAdd, Nat.reduceLeDiff, Nat.reduceLT, Nat.reduceEqDiff]
  | k + 1, i, o, j, cap, G, y5, y8, y9, hk, ho, hG, hcap => by
    have hi : i < n := by omega
    obtain ⟨p1, p2, p3⟩ := pow_facts n (by omega)
    obtain ⟨s1, s2⟩ := set_facts n (by omega) C (by omega) i hi
    obtain ⟨_, _, f3⟩ := bits_facts C (by omega) i (by omega)
    rw [run_loop, List.range'_succ, List.filter_cons]
    cases h1 : C.testBit i with
    | true =>
      have hok : okStep W C i = false := by simp [okStep, h1]
      rw [hok, if_neg (by simp)]
      obtain ⟨j', cap', G', z5, z8, z9, h2, ih⟩ := loop_i_stepsFrom (q := q) (c := c) (cw := cw) (y3 := y3) hn8 hF hC hw hW k (i + 1) o j cap G (.int .i64 i) (.bool true) (.bool false) (by omega) (by omega) hG hcap
      refine ⟨j', cap', G', z5, z8, z9, h2, ?_⟩
      generalize run T pr (.loop w_i_stepsFrom_1) = R at ih ⊢
      have hb := bit_set (c := C) (i := i) (by omega) (by omega) h1
      simp +contextual only [w_i_stepsFrom_1, hi, shr_nat, hb, show ¬ ((1 : Int) = 0) by omega, decide_false, wrap_succ (show i < 9223372036854775807 by omega), decide_true, go_sem, entry, joinEsc, if_pos, reduceIte, Nat.reduceAdd, Nat.reduceLeDiff, Nat.reduceLT, Nat.reduceEqDiff]
      simp only [List.length_append] at ih
      exact ih
    | false =>
      obtain ⟨g1, _, g3, g4⟩ := f3 h1
      have hlt := s1 h1
      have hb := bit_clear (c := C) (i := i) (by omega) (by omega) h1
      have hlt' : C + 2 ^ i < F := by omega
      have e2 := part_encI (ls := W) 1 (getD_get (W := W) (c := C + 2 ^ i) (by omega))
      cases h3 : decide (0 < W.getD (C + 2 ^ i) 0) with
      | false =>
        have hok : okStep W C i = false := by unfold okStep; rw [h1, h3]; rfl
        rw [hok, if_neg (by simp)]
        obtain ⟨j', cap', G', z5, z8, z9, h2, ih⟩ := loop_i_stepsFrom (q := q) (c := c) (cw := cw) (y3 := y3) hn8 hF hC hw hW k (i + 1) o j cap G (.int .i64 i) (.bool true) (.bool false) (by omega) (by omega) hG hcap
        refine ⟨j', cap', G', z5, z8, z9, h2, ?_⟩
        generalize run T pr (.loop w_i_stepsFrom_1) = R at ih ⊢
        simp +contextual only [w_i_stepsFrom_1, hi, cells_mono hw, hlt', shr_nat, shl_nat, hb, g1, e2, h3, wrap_succ (show i < 9223372036854775807 by omega), decide_true, go_sem, entry, joinEsc, if_pos, reduceIte, Nat.reduceAdd, Nat.reduceLeDiff, Nat.reduceLT, Nat.reduceEqDiff]
        simp only [List.length_append] at ih
        exact ih
      | true =>
        have hok : okStep W C i = true := by unfold okStep; rw [h1, h3]; rfl
        rw [hok, if_pos rfl]
        have hmb : (o.length + 1) * 8 ≤ maxBytes := by unfold maxBytes; omega
        obtain ⟨j', cap', G', z5, z8, z9, h2, ih⟩ := loop_i_stepsFrom (q := q) (c := c) (cw := cw) (y3 := y3) hn8 hF hC hw hW k (i + 1) (o ++ [(i : Int)]) (G.length + 1) none
          (killIf cap j (G ++ [.cells [.int .i64 i] true]) ++ [.cells (encI (o ++ [(i : Int)])) true]) (.int .i64 i) (.bool true) (.bool true) (by omega) (by simp; omega) (by
            rw [List.getElem?_append_right (by simp [killIf_length])]; simp [killIf_length]) (by simp)
        rw [List.append_assoc, List.singleton_append, ← List.map_cons (f := fun (i : Nat) => (i : Int))] at h2 ih
        refine ⟨j', cap', G', z5, z8, z9, h2, ?_⟩
        generalize run T pr (.loop w_i_stepsFrom_1) = R at ih ⊢
        simp +contextual only [w_i_stepsFrom_1, hi, cells_mono hw, hlt', shr_nat, shl_nat, hb, g1, e2, h3, fillParts, append_in hG hcap hmb, wrap_succ (show i < 9223372036854775807 by omega), decide_true, go_sem, entry, joinEsc, if_pos, reduceIte, Nat.reduceAdd, Nat.reduceLeDiff, Nat.reduceLT, Nat.reduceEqDiff]
        simp only [List.length_append, List.length_cons, List.length_nil, Nat.zero_add, encI_append, List.map_cons, List.map_nil] at ih
        exact ih

theorem e_i_stepsFrom {q w n F C : Nat} {c cw : Option Nat} {W : List Int} (hn8 : n ≤ 8) (hF : F = 2 ^ n) (hC : C < F) (hw : cellsAt H w = some (encI W)) (hW : W.length = F) : ∃ cap, call T pr f_i_stepsFrom [slL q n c, slI w F cw, .int .i64 C] ⟨H, e⟩ =
    some (slI H.length (stepsW W n C).length cap, ⟨H ++ [.cells (encI (stepsW W n C)) true], e⟩) := by
  obtain ⟨j', cap', G', z5, z8, z9, h1, hl⟩ := loop_i_stepsFrom (pr := pr) (e := none) (q := q) (c := c) (cw := cw) (y3 := .slice none 0 0 none) hn8 hF hC hw hW n 0 [] 0 (some 0) [.cells [] true] .undef .undef .undef rfl (Nat.zero_le _) rfl (fun _ => rfl)
  have h0 : ((0 : Nat) : Int) = 0 := rfl
  have hr : (List.map (fun (i : Nat) => (i : Int)) ((List.range' 0 n).filter (okStep W C))) = stepsW W n C := by unfold stepsW; rw [List.range_eq_range']
  rw [h0] at hl
  refine ⟨cap', ?_⟩
  rw [call_eq t_i_stepsFrom]
  simp only [List.nil_append, Nat.add_zero, List.length_nil, hr] at hl h1
  simp +contextual only [a_i_stepsFrom, c_i_stepsFrom, fillParts, hl, finish_two_at _ h1 (under_encI _ _), go_sem, entry, joinEsc, if_pos, reduceIte, Nat.reduceAdd, Nat.reduceLeDiff, Nat.reduceLT, Nat.reduceEqDiff]

end Go.Proofs.Ytlcklonakjhoiaa.Slim

/- Marks on memory that is told apart; results of two. -/
namespace Go.Proofs.Ytlcklonakjhoiaa.Slim

open Go

set_option linter.unusedSimpArgs false

set_option linter.unusedVariables false

variable {pr : Prims} {H : List Blk} {e : Option Nat}

theorem finish_one_set (v : AV) (e0 : Option Nat) (b : Nat) (x : Blk) (h : v.under H.length = true) : finish 1 H.length e0 v ⟨H.set b x, none⟩ = some (v, ⟨H.set b x, e0⟩) := by
  have : (H.set b x).take H.length = H.set b x := List.take_of_length_le (by simp)
  simp [finish, h, clean, this]

theorem finish_two_sb {G : List Blk} {j sz n o : Nat} {c : Option Nat} {cs : List AV} {wr : Bool} (x : Bool) (e0 : Option Nat) (hG : G[j]? = some (.cells cs wr)) (h : (cs.all fun c => c.under H.length) = true) :
    finish 2 H.length e0 (.tup [.slice (some (H.length + j, o)) sz n c, .bool x]) ⟨H ++ G, none⟩ = some (.tup [.slice (some (H.length, o)) sz n c, .bool x], ⟨H ++ [.cells cs wr], e0⟩) := by
  have hlt : ¬ H.length + j < H.length := by omega
  have hr : dedup (AV.roots H.length (.tup [.slice (some (H.length + j, o)) sz n c, .bool x])) = [H.length + j] := by
    unfold AV.roots AV.roots.go AV.roots.go AV.roots.go AV.roots
    rw [if_neg hlt]
    rfl
  have hb : (H ++ G)[H.length + j]? = some (.cells cs wr) := by rw [List.getElem?_append_right (by omega)]; simpa using hG
  unfold finish
  simp only [hr]
  have h2 : ([H.length + j].all fun b => flatBlk H.length (H ++ G)[b]?) = true := by
    simp only [List.all_cons, List.all_nil, Bool.and_true, hb, flatBlk]
    exact h
  simp only [clean, h2, and_self, if_true]
  simp [AV.rename, AV.rename.go, renum, hb, hlt]

theorem finish_two_sb0 (sz n : Nat) (c : Option Nat) (cs : List AV) (wr : Bool) (x : Bool) (e0 : Option Nat) (h : (cs.all fun c => c.under H.length) = true) :
    finish 2 H.length e0 (.tup [.slice (some (H.length, 0)) sz n c, .bool x]) ⟨H ++ [.cells cs wr], none⟩ = some (.tup [.slice (some (H.length, 0)) sz n c, .bool x], ⟨H ++ [.cells cs wr], e0⟩) :=
  finish_two_sb (G := [.cells cs wr]) (j := 0) x e0 rfl h

theorem finish_two_nb {G : List Blk} {sz n : Nat} {c : Option Nat} (x : Bool) (e0 : Option Nat) :
    finish 2 H.length e0 (.tup [.slice none sz n c, .bool x]) ⟨H ++ G, none⟩ = some (.tup [.slice none sz n c, .bool x], ⟨H, e0⟩) := by
  have hr : dedup (AV.roots H.length (.tup [.slice none sz n c, .bool x])) = [] := rfl
  unfold finish
  simp only [hr]
  simp [AV.rename, AV.rename.go, clean]

theorem set_same {L : List Blk} {b : Nat} {x : Blk} (h : L[b]? = some x) : L.set b x = L := by
  apply List.ext_getElem?
  intro i
  rw [List.getElem?_set]
  split
  · rename_i hi
    subst hi
    rw [h]
    rw [if_pos (List.getElem?_eq_some_iff.mp h).1]
  · rfl

def markedI (k : Nat) : Nat → List Int
  | 0 => []
  | n + 1 => (k : Int) :: markedI (k + 1) n

theorem markedI_length (k : Nat) : ∀ n, (markedI k n).length = n
  | 0 => rfl
  | n + 1 => by rw [markedI, List.length_cons, markedI_length (k + 1) n]

theorem markedI_get : ∀ (n k i : Nat), i < n → (markedI k n)[i]? = some ((k + i : Nat) : Int)
  | 0, k, i, h => by omega
  | n + 1, k, 0, h => by simp [markedI]
  | n + 1, k, i + 1, h => by
    rw [markedI, List.getElem?_cons_succ, markedI_get n (k + 1) i (by omega), show k + 1 + i = k + (i + 1) by omega]

theorem setRange_mid (P R : List Int) (r a : Int) : setRange (encI (P ++ r :: R)) P.length [.int .i64 a] = encI ((P ++ [a]) ++ R) := by
  rw [setRange_encI (by simp)]
  simp

theorem loop_l_markIntS {L : List Blk} {b n : Nat} {c : Option Nat} {r : AV} (hb : b < L.length) (hn : n ≤ 4194304) :
    ∀ (R P : List Int) (k : Nat) (y4 : AV), P.length + R.length = n → k + R.length ≤ 8388608 → ∃ z4, run T pr (.loop w_l_markIntS_1) ⟨[slI b n c, .int .i64 k, r, .int .i64 P.length, y4], ⟨L.set b (.cells (encI (P ++ R)) true), e⟩⟩ =
      some (Ex.exit 0, ⟨[slI b n c, .int .i64 ((k + R.length : Nat) : Int), r, .int .i64 n, z4], ⟨L.set b (.cells (encI (P ++ markedI k R.length)) true), e⟩⟩)
  | [], P, k, y4, hP, hk => by
    refine ⟨.bool false, ?_⟩
    obtain rfl : n = P.length := by simp at hP; omega
    rw [run_loop]
    generalize run T pr (.loop w_l_markIntS_1) = R'
    simp +contextual only [w_l_markIntS_1, Nat.lt_irrefl, decide_false, markedI, go_sem, entry, joinEsc, if_pos, reduceIte, Nat.reduceAdd, Nat.reduceLeDiff, Nat.reduceLT, Nat.reduceEqDiff]
  | x :: R, P, k, y4, hP, hk => by
    simp only [List.length_cons] at hP hk
    have hi : P.length < n := by omega
    obtain ⟨z4, ih⟩ := loop_l_markIntS (c := c) (r := r) hb hn R (P ++ [(k : Int)]) (k + 1) (.bool true) (by simp; omega) (by omega)
    refine ⟨z4, ?_⟩
    rw [run_loop]
    generalize run T pr (.loop w_l_markIntS_1) = R' at ih ⊢
    have hg : (L.set b (.cells (encI (P ++ x :: R)) true))[b]? = some (.cells (encI (P ++ x :: R)) true) := List.getElem?_set_self hb
    have hle : P.length + 1 ≤ (encI (P ++ x :: R)).length := by simp
    rw [show k + 1 + R.length = k + (R.length + 1) by omega] at ih
    simp only [List.append_assoc, List.singleton_append, List.length_append, List.length_cons, List.length_nil, Nat.zero_add] at ih
    simp +contextual only [w_l_markIntS_1, hi, hg, hle, setRange_mid, List.set_set, markedI, wrap_succ (show k < 9223372036854775807 by omega), wrap_succ (show P.length < 9223372036854775807 by omega), decide_true, go_sem, entry, joinEsc, if_pos, reduceIte, Nat.reduceAdd, Nat.reduceLeDiff, Nat.reduceLT, Nat.reduceEqDiff]
    exact ih

theorem e_l_markIntS {L : List Blk} {b : Nat} {c : Option Nat} {ls : List Int} (h : L[b]? = some (.cells (encI ls) true)) (hn : ls.length ≤ 4194304) (k : Nat) (hk : k ≤ 4194304) : call T pr f_l_markIntS [slI b ls.length c, .int .i64 k] ⟨L, e⟩ =
    some (.int .i64 ((k + ls.length : Nat) : Int), ⟨L.set b (.cells (encI (markedI k ls.length)) true), e⟩) := by
  have hb := (List.getElem?_eq_some_iff.mp h).1
  obtain ⟨z4, hl⟩ := loop_l_markIntS (pr := pr) (e := none) (c := c) (r := .int .i64 0) hb hn ls [] k .undef (by simp) (by omega)
  have h0 : ((0 : Nat) : Int) = 0 := rfl
  rw [List.length_nil, h0, List.nil_append, List.nil_append, set_same h] at hl
  rw [call_eq t_l_markIntS]
  simp +contextual only [a_l_markIntS, c_l_markIntS, hl, finish_one_set, go_sem, entry, joinEsc, if_pos, reduceIte, Nat.reduceAdd, Nat.reduceLeDiff, Nat.reduceLT, Nat.reduceEqDiff]

theorem loop_l_heldIntS {q n k0 : Nat} {c : Option Nat} {r : AV} (h : cellsAt H q = some (encI (markedI k0 n))) (hn : n ≤ 4194304) (hk0 : k0 ≤ 4194304) :
    ∀ (k i : Nat) (y4 y5 : AV), k + i = n → ∃ z4 z5, run T pr (.loop w_l_heldIntS_1) ⟨[slI q n c, .int .i64 ((k0 + i : Nat) : Int), r, .int .i64 i, y4, y5], ⟨H, e⟩⟩ =
      some (Ex.exit 0, ⟨[slI q n c, .int .i64 ((k0 + n : Nat) : Int), r, .int .i64 n, z4, z5], ⟨H, e⟩⟩)
  | 0, i, y4, y5, hk => by
    have hi : i = n := by omega
    subst hi
    refine ⟨.bool false, y5, ?_⟩
    rw [run_loop]
    generalize run T pr (.loop w_l_heldIntS_1) = R
    simp +contextual only [w_l_heldIntS_1, Nat.lt_irrefl, decide_false, go_sem, entry, joinEsc, if_pos, reduceIte, Nat.reduceAdd, Nat.reduceLeDiff, Nat.reduceLT, Nat.reduceEqDiff]
  | k + 1, i, y4, y5, hk => by
    have hi : i < n := by omega
    have hl := markedI_get n k0 i hi
    obtain ⟨z4, z5, ih⟩ := loop_l_heldIntS (c := c) (r := r) h hn hk0 k (i + 1) (.bool true) (.bool false) (by omega)
    refine ⟨z4, z5, ?_⟩
    rw [run_loop]
    rw [show k0 + (i + 1) = (k0 + i) + 1 by omega] at ih
    generalize hK : k0 + i = K at hl ih ⊢
    generalize run T pr (.loop w_l_heldIntS_1) = R at ih ⊢
    simp +contextual only [w_l_heldIntS_1, h, hi, part_encI _ hl, wrap_succ (show K < 9223372036854775807 by omega), wrap_succ (show i < 9223372036854775807 by omega), decide_true, go_sem, entry, joinEsc, if_pos, reduceIte, Nat.reduceAdd, Nat.reduceLeDiff, Nat.reduceLT, Nat.reduceEqDiff]
    exact ih

theorem e_l_heldIntS {q n k : Nat} {c : Option Nat} (h : cellsAt H q = some (encI (markedI k n))) (hn : n ≤ 4194304) (hk : k ≤ 4194304) : call T pr f_l_heldIntS [slI q n c, .int .i64 k] ⟨H, e⟩ = some (.int .i64 ((k + n : Nat) : Int), ⟨H, e⟩) := by
  obtain ⟨z4, z5, hl⟩ := loop_l_heldIntS (pr := pr) (e := none) (c := c) (r := .int .i64 0) h hn hk n 0 .undef .undef rfl
  have h0 : ((0 : Nat) : Int) = 0 := rfl
  rw [h0, Nat.add_zero] at hl
  rw [call_eq t_l_heldIntS]
  simp +contextual only [a_l_heldIntS, c_l_heldIntS, hl, go_sem, entry, joinEsc, if_pos, reduceIte, Nat.reduceAdd, Nat.reduceLeDiff, Nat.reduceLT, Nat.reduceEqDiff]

def markedL (k : Nat) : Nat → List Ld
  | 0 => []
  | n + 1 => ((k : Int), ((k + 1 : Nat) : Int)) :: markedL (k + 2) n

theorem setRange_midL0 (P R : List Ld) (r : Ld) (a : Int) : setRange (encL (P ++ r :: R)) (P.length * 2) [.int .i64 a] = encL (P ++ (a, r.2) :: R) := by
  induction P with
  | nil => simp [encL, setRange]
  | cons p P ih =>
    simp only [encL, List.cons_append, List.length_cons, Nat.add_mul, Nat.one_mul] at *
    rw [setRange_k, setRange_k, ih]

theorem setRange_midL1 (P R : List Ld) (r : Ld) (a : Int) : setRange (encL (P ++ r :: R)) (P.length * 2 + 1) [.int .i64 a] = encL (P ++ (r.1, a) :: R) := by
  induction P with
  | nil => simp [encL, setRange]
  | cons p P ih =>
    simp only [encL, List.cons_append, List.length_cons, Nat.add_mul, Nat.one_mul] at *
    rw [show P.length * 2 + 2 + 1 = P.length * 2 + 1 + 1 + 1 by omega, setRange_k, setRange_k, ih]

theorem loop_l_markLoadS {L : List Blk} {b n : Nat} {c : Option Nat} {r : AV} (hb : b < L.length) (hn : n ≤ 4194304) :
    ∀ (R P : List Ld) (k : Nat) (y4 : AV), P.length + R.length = n → k + R.length * 2 ≤ 16777216 → ∃ z4, run T pr (.loop w_l_markLoadS_1) ⟨[slL b n c, .int .i64 k, r, .int .i64 P.length, y4], ⟨L.set b (.cells (encL (P ++ R)) true), e⟩⟩ =
      some (Ex.exit 0, ⟨[slL b n c, .int .i64 ((k + R.length * 2 : Nat) : Int), r, .int .i64 n, z4], ⟨L.set b (.cells (encL (P ++ markedL k R.length)) true), e⟩⟩)
  | [], P, k, y4, hP, hk => by
    refine ⟨.bool false, ?_⟩
    obtain rfl : n = P.length := by simp at hP; omega
    rw [run_loop]
    generalize run T pr (.loop w_l_markLoadS_1) = R'
    simp +contextual only [w_l_markLoadS_1, Nat.lt_irrefl, decide_false, markedL, Nat.zero_mul, go_sem, entry, joinEsc, if_pos, reduceIte, Nat.reduceAdd, Nat.reduceLeDiff, Nat.reduceLT, Nat.reduceEqDiff]
  | x :: R, P, k, y4, hP, hk => by
    simp only [List.length_cons] at hP hk
    have hi : P.length < n := by omega
    obtain ⟨z4, ih⟩ := loop_l_markLoadS (c := c) (r := r) hb hn R (P ++ [((k : Int), ((k + 1 : Nat) : Int))]) (k + 2) (.bool true) (by simp; omega) (by omega)
    refine ⟨z4, ?_⟩
    rw [run_loop]
    generalize run T pr (.loop w_l_markLoadS_1) = R' at ih ⊢
    have hg : ∀ y : Ld, (L.set b (.cells (encL (P ++ y :: R)) true))[b]? = some (.cells (encL (P ++ y :: R)) true) := fun y => List.getElem?_set_self hb
    have hle : ∀ y : Ld, P.length * 2 + 1 ≤ (encL (P ++ y :: R)).length := by intro y; rw [encL_length]; simp; omega
    have hle' : ∀ y : Ld, P.length * 2 + 1 + 1 ≤ (encL (P ++ y :: R)).length := by intro y; rw [encL_length]; simp; omega
    have hle2 : ∀ y : Ld, P.length * 2 + 2 ≤ (encL (P ++ y :: R)).length := by intro y; rw [encL_length]; simp; omega
    rw [show k + 2 + R.length * 2 = k + (R.length + 1) * 2 by omega] at ih
    simp only [List.append_assoc, List.singleton_append, List.length_append, List.length_cons, List.length_nil, Nat.zero_add] at ih
    have hw1 : IntKind.i64.wrap ((k : Int) + 1) = ((k + 1 : Nat) : Int) := wrap_succ (show k < 9223372036854775807 by omega)
    have hw2 : IntKind.i64.wrap (((k + 1 : Nat) : Int) + 1) = ((k + 2 : Nat) : Int) := wrap_succ (show k + 1 < 9223372036854775807 by omega)
    simp +contextual only [w_l_markLoadS_1, hi, hg, hle, hle', hle2, setRange_midL0, setRange_midL1, List.set_set, markedL, hw1, hw2, wrap_succ (show P.length < 9223372036854775807 by omega), decide_true, go_sem, entry, joinEsc, if_pos, reduceIte, Nat.reduceAdd, Nat.reduceLeDiff, Nat.reduceLT, Nat.reduceEqDiff]
    exact ih

theorem e_l_markLoadS {L : List Blk} {b : Nat} {c : Option Nat} {ls : List Ld} (h : L[b]? = some (.cells (encL ls) true)) (hn : ls.length ≤ 4194304) (k : Nat) (hk : k ≤ 4194304) : call T pr f_l_markLoadS [slL b ls.length c, .int .i64 k] ⟨L, e⟩ =
    some (.int .i64 ((k + ls.length * 2 : Nat) : Int), ⟨L.set b (.cells (encL (markedL k ls.length)) true), e⟩) := by
  have hb := (List.getElem?_eq_some_iff.mp h).1
  obtain ⟨z4, hl⟩ := loop_l_markLoadS (pr := pr) (e := none) (c := c) (r := .int .i64 0) hb hn ls [] k .undef (by simp) (by omega)
  have h0 : ((0 : Nat) : Int) = 0 := rfl
  rw [List.length_nil, h0, List.nil_append, List.nil_append, set_same h] at hl
  rw [call_eq t_l_markLoadS]
  simp +contextual only [a_l_markLoadS, c_l_markLoadS, hl, finish_one_set, go_sem, entry, joinEsc, if_pos, reduceIte, Nat.reduceAdd, Nat.reduceLeDiff, Nat.reduceLT, Nat.reduceEqDiff]

/-- two slices without elements -/
theorem e_l_eqIntS_none {p1 p2 : Option (Nat × Nat)} {s1 s2 : Nat} {c1 c2 : Option Nat} : call T pr f_l_eqIntS [.slice p1 s1 0 c1, .slice p2 s2 0 c2] ⟨H, e⟩ = some (.bool true, ⟨H, e⟩) := by
  have h0 : ((0 : Nat) : Int) = 0 := rfl
  rw [call_eq t_l_eqIntS]
  have hl : run T pr (.loop w_l_eqIntS_1) ⟨[.slice p1 s1 0 c1, .slice p2 s2 0 c2, .bool false, .int .i64 0, .bool false, .undef, .undef], ⟨H, none⟩⟩ = some (.exit 0, ⟨[.slice p1 s1 0 c1, .slice p2 s2 0 c2, .bool false, .int .i64 0, .bool false, .bool false, .undef], ⟨H, none⟩⟩) := by
    rw [run_loop]
    generalize run T pr (.loop w_l_eqIntS_1) = R
    simp +contextual only [w_l_eqIntS_1, h0, Int.lt_irrefl, decide_false, go_sem, entry, joinEsc, if_pos, reduceIte, Nat.reduceAdd, Nat.reduceLeDiff, Nat.reduceLT, Nat.reduceEqDiff]
  simp +contextual only [a_l_eqIntS, c_l_eqIntS, hl, h0, decide_true, go_sem, entry, joinEsc, if_pos, reduceIte, Nat.reduceAdd, Nat.reduceLeDiff, Nat.reduceLT, Nat.reduceEqDiff]

theorem e_l_markIntS_none {p1 : Option (Nat × Nat)} {s1 : Nat} {c1 : Option Nat} (x : Int) : call T pr f_l_markIntS [.slice p1 s1 0 c1, .int .i64 x] ⟨H, e⟩ = some (.int .i64 x, ⟨H, e⟩) := by
  have h0 : ((0 : Nat) : Int) = 0 := rfl
  rw [call_eq t_l_markIntS]
  have hl : run T pr (.loop w_l_markIntS_1) ⟨[.slice p1 s1 0 c1, .int .i64 x, .int .i64 0, .int .i64 0, .undef], ⟨H, none⟩⟩ = some (.exit 0, ⟨[.slice p1 s1 0 c1, .int .i64 x, .int .i64 0, .int .i64 0, .bool false], ⟨H, none⟩⟩) := by
    rw [run_loop]
    generalize run T pr (.loop w_l_markIntS_1) = R
    simp +contextual only [w_l_markIntS_1, h0, Int.lt_irrefl, decide_false, go_sem, entry, joinEsc, if_pos, reduceIte, Nat.reduceAdd, Nat.reduceLeDiff, Nat.reduceLT, Nat.reduceEqDiff]
  simp +contextual only [a_l_markIntS, c_l_markIntS, hl, h0, decide_true, go_sem, entry, joinEsc, if_pos, reduceIte, Nat.reduceAdd, Nat.reduceLeDiff, Nat.reduceLT, Nat.reduceEqDiff]

theorem e_l_heldIntS_none {p1 : Option (Nat × Nat)} {s1 : Nat} {c1 : Option Nat} (x : Int) : call T pr f_l_heldIntS [.slice p1 s1 0 c1, .int .i64 x] ⟨H, e⟩ = some (.int .i64 x, ⟨H, e⟩) := by
  have h0 : ((0 : Nat) : Int) = 0 := rfl
  rw [call_eq t_l_heldIntS]
  have hl : run T pr (.loop w_l_heldIntS_1) ⟨[.slice p1 s1 0 c1, .int .i64 x, .int .i64 0, .int .i64 0, .undef, .undef], ⟨H, none⟩⟩ = some (.exit 0, ⟨[.slice p1 s1 0 c1, .int .i64 x, .int .i64 0, .int .i64 0, .bool false, .undef], ⟨H, none⟩⟩) := by
    rw [run_loop]
    generalize run T pr (.loop w_l_heldIntS_1) = R
    simp +contextual only [w_l_heldIntS_1, h0, Int.lt_irrefl, decide_false, go_sem, entry, joinEsc, if_pos, reduceIte, Nat.reduceAdd, Nat.reduceLeDiff, Nat.reduceLT, Nat.reduceEqDiff]
  simp +contextual only [a_l_heldIntS, c_l_heldIntS, hl, h0, decide_true, go_sem, entry, joinEsc, if_pos, reduceIte, Nat.reduceAdd, Nat.reduceLeDiff, Nat.reduceLT, Nat.reduceEqDiff]

end Go.Proofs.Ytlcklonakjhoiaa.Slim

/- Rafts: the first safe order, on both sides. -/
namespace Go.Proofs.Ytlcklonakjhoiaa.Slim

open Go

set_option linter.unusedSimpArgs false

set_option linter.unusedVariables false

variable {pr : Prims} {H : List Blk} {e : Option Nat}

/-- a capacity that is not told -/
def capOf : Option (AV × Mem) → Option Nat
  | some (.slice _ _ _ c, _) => c
  | some (.tup (.slice _ _ _ c :: _), _) => c
  | _ => none

noncomputable def hid (pr : Prims) (f : FuncId) (args : List AV) (m : Mem) : Option Nat := capOf (call T pr f args m)

theorem hid_slice {f : FuncId} {args : List AV} {m m' : Mem} {p : Option (Nat × Nat)} {sz n : Nat} (h : ∃ cap, call T pr f args m = some (.slice p sz n cap, m')) : call T pr f args m = some (.slice p sz n (hid pr f args m), m') := by
  obtain ⟨cap, h⟩ := h
  have h2 : hid pr f args m = cap := by unfold hid; rw [h]; rfl
  rw [h2]; exact h

theorem hid_tup {f : FuncId} {args vs : List AV} {m m' : Mem} {p : Option (Nat × Nat)} {sz n : Nat} (h : ∃ cap, call T pr f args m = some (.tup (.slice p sz n cap :: vs), m')) : call T pr f args m = some (.tup (.slice p sz n (hid pr f args m) :: vs), m') := by
  obtain ⟨cap, h⟩ := h
  have h2 : hid pr f args m = cap := by unfold hid; rw [h]; rfl
  rw [h2]; exact h

/-- the first item that can be added -/
def firstW (W : List Int) (n c : Nat) : Nat := ((List.range n).filter (okStep W c)).headD 0

def orderW (W : List Int) (n : Nat) : Nat → Nat → List Int
  | 0, _ => []
  | k + 1, c => ((firstW W n c : Nat) : Int) :: orderW W n k (c + 2 ^ firstW W n c)

theorem orderW_length (W : List Int) (n : Nat) : ∀ k c, (orderW W n k c).length = k
  | 0, _ => rfl
  | k + 1, c => by rw [orderW, List.length_cons, orderW_length]

theorem first_spec {W : List Int} {n c : Nat} (h : goodW n W c) (h1 : 0 < W.getD c 0) (h2 : mu n c ≠ 0) :
    firstW W n c < n ∧ okStep W c (firstW W n c) = true ∧ (∀ i, i < firstW W n c → okStep W c i = false) ∧ ∃ rest, stepsW W n c = ((firstW W n c : Nat) : Int) :: rest := by
  obtain ⟨i, i1, i2⟩ := h.2.2 h1 h2
  cases hf : (List.range n).filter (okStep W c) with
  | nil =>
    have := List.filter_eq_nil_iff.mp hf i (by simpa using i1)
    exact absurd i2 this
  | cons x rest =>
    have hx : firstW W n c = x := by unfold firstW; rw [hf]; rfl
    have hfind : (List.range n).find? (okStep W c) = some x := by rw [← List.head?_filter, hf]; rfl
    rw [List.find?_range_eq_some] at hfind
    obtain ⟨k1, k2, k3⟩ := hfind
    rw [hx]
    refine ⟨by simpa using k2, k1, fun i hi => by simpa using k3 i hi, _, by unfold stepsW; rw [hf]; rfl⟩

theorem append_in2 {G : List Blk} {B : Blk} {j : Nat} {o : List Int} {cap : Option Nat} (hG : G[j]? = some (.cells (encI o) true)) (hcap : cap = some 0 → o = []) (hmb : (o.length + 1) * 8 ≤ maxBytes) (a : Int) :
    appendV (H ++ (G ++ [B, .cells [.int .i64 a] true])) e false 1 8 (slI (H.length + j) o.length cap) (.slice (some (H.length + (G.length + 1), 0)) 1 1 (some 1)) =
      some (slI (H.length + (G.length + 2)) (o.length + 1) none, ⟨H ++ (killIf cap j (G ++ [B, .cells [.int .i64 a] true]) ++ [.cells (encI o ++ [.int .i64 a]) true]), e⟩) := by
  have hj : j < G.length := (List.getElem?_eq_some_iff.mp hG).1
  have h := append_in (H := H) (e := e) (G := G ++ [B]) (j := j) (o := o) (cap := cap) (by rw [List.getElem?_append_left hj]; exact hG) hcap hmb a
  simpa [Nat.add_assoc] using h

theorem loop_i_SafeOrder {rv p y3 y4 y9 y10 : AV} {q w n F : Nat} {c cw : Option Nat} {W : List Int} (hn8 : n ≤ 8) (hF : F = 2 ^ n) (hw : cellsAt H w = some (encI W)) (hW : W.length = F) (hgood : ∀ c, c < F → goodW n W c) :
    ∀ (k C : Nat) (o : List Int) (j : Nat) (cap : Option Nat) (G : List Blk) (y8 y11 : AV), k + o.length = n → mu n C = k → C < F → 0 < W.getD C 0 → G[j]? = some (.cells (encI o) true) → (cap = some 0 → o = []) →
      ∃ (j' : Nat) (cap' : Option Nat) (G' : List Blk) (z7 z8 z11 : AV), G'[j']? = some (.cells (encI (o ++ orderW W n k C)) true) ∧ run T pr (.loop w_i_SafeOrder_1) ⟨[rv, slL q n c, p, y3, y4, slI w F cw, slI (H.length + j) o.length cap, .int .i64 C, y8, y9, y10, y11], ⟨H ++ G, none⟩⟩ =
      some (Ex.exit 0, ⟨[rv, slL q n c, p, y3, y4, slI w F cw, slI (H.length + j') (o ++ orderW W n k C).length cap', z7, z8, y9, y10, z11], ⟨H ++ G', none⟩⟩)
  | 0, C, o, j, cap, G, y8, y11, hk, hmu, hC, hp, hG, hcap => by
    have hi : n = o.length := by omega
    subst hi
    refine ⟨j, cap, G, .int .i64 C, y8, .bool false, ?_, ?_⟩
    · simpa [orderW] using hG
    rw [run_loop]
    generalize run T pr (.loop w_i_SafeOrder_1) = R
    simp +contextual only [w_i_SafeOrder_1, Nat.lt_irrefl, decide_false, orderW, go_sem, entry, joinEsc, if_pos, reduceIte, Nat.reduceAdd, Nat.reduceLeDiff, Nat.reduceLT, Nat.reduceEqDiff]
  | k + 1, C, o, j, cap, G, y8, y11, hk, hmu, hC, hp, hG, hcap => by
    have hi : o.length < n := by omega
    obtain ⟨p1, p2, p3⟩ := pow_facts n (by omega)
    obtain ⟨f1, f2, f3, rest, f4⟩ := first_spec (hgood C hC) hp (by omega)
    rw [run_loop, orderW]
    generalize hx : firstW W n C = x at f1 f2 f3 f4 ⊢
    have f2' : C.testBit x = false ∧ 0 < W.getD (C + 2 ^ x) 0 := by
      unfold okStep at f2
      simp only [Bool.and_eq_true, decide_eq_true_eq] at f2
      exact ⟨by simpa using f2.1, f2.2⟩
    obtain ⟨_, _, b3⟩ := bits_facts C (by omega) x (by omega)
    obtain ⟨g1, _, g3, g4⟩ := b3 f2'.1
    obtain ⟨m1, m2, m3⟩ := mu_facts n (by omega) C (by omega)
    have hlt : C + 2 ^ x < F := by rw [hF]; exact (set_facts n (by omega) C (by omega) x f1).1 f2'.1
    have hsteps := hid_slice (e_i_stepsFrom (pr := pr) (e := none) (q := q) (c := c) (cw := cw) hn8 hF hC (cells_mono hw G) hW)
    rw [f4] at hsteps
    have hmb : (o.length + 1) * 8 ≤ maxBytes := by unfold maxBytes; omega
    have hpos : (0 : Int) < ((rest.length + 1 : Nat) : Int) := by omega
    obtain ⟨j', cap', G', z7, z8, z11, h2, ih⟩ := loop_i_SafeOrder (rv := rv) (p := p) (y3 := y3) (y4 := y4) (y9 := y9) (y10 := y10) (q := q) (c := c) (cw := cw) hn8 hF hw hW hgood k (C + 2 ^ x) (o ++ [(x : Int)]) (G.length + 2) none
      (killIf cap j (G ++ [.cells (encI ((x : Int) :: rest)) true, .cells [.int .i64 x] true]) ++ [.cells (encI (o ++ [(x : Int)])) true]) (.int .i64 x) (.bool true) (by simp; omega) (by have := m3 x f1 f2'.1; omega) hlt f2'.2 (by
        rw [List.getElem?_append_right (by simp [killIf_length])]; simp [killIf_length]) (by simp)
    rw [List.append_assoc, List.singleton_append] at h2 ih
    refine ⟨j', cap', G', z7, z8, z11, h2, ?_⟩
    generalize run T pr (.loop w_i_SafeOrder_1) = R at ih ⊢
    simp +contextual only [w_i_SafeOrder_1, hi, hsteps, hpos, Int.toNat_zero, Int.le_refl, Nat.zero_mul, fillParts, append_in2 hG hcap hmb, shl_nat, g1, decide_true, go_sem, entry, joinEsc, if_pos, reduceIte, Nat.reduceAdd, Nat.reduceLeDiff, Nat.reduceLT, Nat.reduceEqDiff]
    simp only [List.length_append, List.length_cons, List.length_nil, Nat.zero_add, encI_append, List.map_cons, List.map_nil] at ih
    exact ih

theorem loop_s_SafeOrder_1 {rv p y3 y4 out y9 y10 y11 : AV} {q w n F C x : Nat} {c cw : Option Nat} {W : List Int} (hn8 : n ≤ 8) (hF : F = 2 ^ n) (hC : C < F) (hw : cellsAt H w = some (encI W)) (hW : W.length = F) (hpos : ∀ c, c < F → 0 ≤ W.getD c 0)
    (hx : x < n) (h1 : okStep W C x = true) (h2 : ∀ i, i < x → okStep W C i = false) :
    ∀ (k i : Nat) (y12 : AV), k + i = x → ∃ z12, run T pr (.loop w_s_SafeOrder_1) ⟨[rv, slL q n c, p, y3, y4, out, slI w F cw, .int .i64 C, .int .i64 i, y9, y10, y11, y12], ⟨H, e⟩⟩ =
      some (Ex.exit 2, ⟨[rv, slL q n c, p, y3, y4, out, slI w F cw, .int .i64 C, .int .i64 x, y9, y10, y11, z12], ⟨H, e⟩⟩)
  | 0, i, y12, hk => by
    obtain rfl : i = x := by omega
    have f2' : C.testBit i = false ∧ 0 < W.getD (C + 2 ^ i) 0 := by
      unfold okStep at h1
      simp only [Bool.and_eq_true, decide_eq_true_eq] at h1
      exact ⟨by simpa using h1.1, h1.2⟩
    obtain ⟨p1, p2, p3⟩ := pow_facts n (by omega)
    obtain ⟨_, _, b3⟩ := bits_facts C (by omega) i (by omega)
    obtain ⟨_, g2, g3, g4⟩ := b3 f2'.1
    have g2' : IntKind.i64.wrap ((C : Int) + shlI .i64 1 (i : Int)) = ((C + 2 ^ i : Nat) : Int) := g2
    have hlt : C + 2 ^ i < F := by rw [hF]; exact (set_facts n (by omega) C (by omega) i hx).1 f2'.1
    have hb := bit_clear (c := C) (i := i) (by omega) (by omega) f2'.1
    have e2 := part_encI (ls := W) 1 (getD_get (W := W) (c := C + 2 ^ i) (by omega))
    have hne : ¬ W.getD (C + 2 ^ i) 0 = 0 := by omega
    refine ⟨.bool false, ?_⟩
    rw [run_loop]
    generalize run T pr (.loop w_s_SafeOrder_1) = R
    simp +contextual only [w_s_SafeOrder_1, hw, hlt, shr_nat, shl_nat, hb, g2', e2, hne, show ¬ ((0 : Int) = 1) by omega, decide_true, decide_false, go_sem, entry, joinEsc, if_pos, reduceIte, Nat.reduceAdd, Nat.reduceLeDiff, Nat.reduceLT, Nat.reduceEqDiff]
  | k + 1, i, y12, hk => by
    have hno := h2 i (by omega)
    obtain ⟨p1, p2, p3⟩ := pow_facts n (by omega)
    obtain ⟨z12, ih⟩ := loop_s_SafeOrder_1 (rv := rv) (p := p) (y3 := y3) (y4 := y4) (out := out) (y9 := y9) (y10 := y10) (y11 := y11) (q := q) (c := c) (cw := cw) hn8 hF hC hw hW hpos hx h1 h2 k (i + 1) (.bool true) (by omega)
    refine ⟨z12, ?_⟩
    rw [run_loop]
    generalize run T pr (.loop w_s_SafeOrder_1) = R at ih ⊢
    cases hbit : C.testBit i with
    | true =>
      have hb := bit_set (c := C) (i := i) (by omega) (by omega) hbit
      simp +contextual only [w_s_SafeOrder_1, shr_nat, hb, wrap_succ (show i < 9223372036854775807 by omega), decide_true, go_sem, entry, joinEsc, if_pos, reduceIte, Nat.reduceAdd, Nat.reduceLeDiff, Nat.reduceLT, Nat.reduceEqDiff]
      exact ih
    | false =>
      obtain ⟨_, _, b3⟩ := bits_facts C (by omega) i (by omega)
      obtain ⟨_, g2, g3, g4⟩ := b3 hbit
      have g2' : IntKind.i64.wrap ((C : Int) + shlI .i64 1 (i : Int)) = ((C + 2 ^ i : Nat) : Int) := g2
      have hlt : C + 2 ^ i < F := by rw [hF]; exact (set_facts n (by omega) C (by omega) i (by omega)).1 hbit
      have hb := bit_clear (c := C) (i := i) (by omega) (by omega) hbit
      have e2 := part_encI (ls := W) 1 (getD_get (W := W) (c := C + 2 ^ i) (by omega))
      have hz : W.getD (C + 2 ^ i) 0 = 0 := by
        unfold okStep at hno
        rw [hbit] at hno
        simp only [Bool.not_false, Bool.true_and, decide_eq_false_iff_not] at hno
        have := hpos _ hlt
        omega
      rw [hz] at e2
      simp +contextual only [w_s_SafeOrder_1, hw, hlt, shr_nat, shl_nat, hb, g2', e2, show ¬ ((0 : Int) = 1) by omega, wrap_succ (show i < 9223372036854775807 by omega), decide_true, decide_false, go_sem, entry, joinEsc, if_pos, reduceIte, Nat.reduceAdd, Nat.reduceLeDiff, Nat.reduceLT, Nat.reduceEqDiff]
      exact ih

theorem cells_kill {G E F : List Blk} {cap : Option Nat} {j w : Nat} {cs : List AV} (h : cellsAt (H ++ G) w = some cs) (hne : w ≠ H.length + j) : cellsAt (H ++ (killIf cap j (G ++ E) ++ F)) w = some cs := by
  have hlt : w < (H ++ G).length := by
    unfold cellsAt at h
    cases hb : (H ++ G)[w]? with
    | none => rw [hb] at h; cases h
    | some x => exact (List.getElem?_eq_some_iff.mp hb).1
  have h2 : (H ++ (killIf cap j (G ++ E) ++ F))[w]? = (H ++ G)[w]? := by
    by_cases hw : w < H.length
    · rw [List.getElem?_append_left hw, List.getElem?_append_left hw]
    · have e1 : ∀ X : List Blk, (H ++ X)[w]? = X[w - H.length]? := fun X => List.getElem?_append_right (by omega)
      have hl : w - H.length < G.length := by simp at hlt; omega
      have e2 : (killIf cap j (G ++ E) ++ F)[w - H.length]? = (killIf cap j (G ++ E))[w - H.length]? := List.getElem?_append_left (by rw [killIf_length]; simp; omega)
      rw [e1, e1, e2]
      unfold killIf
      split
      · rw [List.getElem?_append_left hl]
      · rw [List.getElem?_set_ne (by omega), List.getElem?_append_left hl]
  unfold cellsAt at *
  rw [h2]
  exact h

theorem cells_lt {L : List Blk} {w : Nat} {cs : List AV} (h : cellsAt L w = some cs) : w < L.length := by
  unfold cellsAt at h
  cases hb : L[w]? with
  | none => rw [hb] at h; cases h
  | some x => exact (List.getElem?_eq_some_iff.mp hb).1

theorem loop_s_SafeOrder_2 {rv p y3 y4 y9 y10 : AV} {q w n F : Nat} {c cw : Option Nat} {W : List Int} (hn8 : n ≤ 8) (hF : F = 2 ^ n) (hW : W.length = F) (hgood : ∀ c, c < F → goodW n W c) :
    ∀ (k C : Nat) (o : List Int) (j : Nat) (cap : Option Nat) (G : List Blk) (y8 y11 y12 : AV), cellsAt (H ++ G) w = some (encI W) → w ≠ H.length + j → k + o.length = n → mu n C = k → C < F → 0 < W.getD C 0 → G[j]? = some (.cells (encI o) true) → (cap = some 0 → o = []) →
      ∃ (j' : Nat) (cap' : Option Nat) (G' : List Blk) (z7 z8 z11 z12 : AV), G'[j']? = some (.cells (encI (o ++ orderW W n k C)) true) ∧ run T pr (.loop w_s_SafeOrder_2) ⟨[rv, slL q n c, p, y3, y4, slI (H.length + j) o.length cap, slI w F cw, .int .i64 C, y8, y9, y10, y11, y12], ⟨H ++ G, none⟩⟩ =
      some (Ex.exit 0, ⟨[rv, slL q n c, p, y3, y4, slI (H.length + j') (o ++ orderW W n k C).length cap', slI w F cw, z7, z8, y9, y10, z11, z12], ⟨H ++ G', none⟩⟩)
  | 0, C, o, j, cap, G, y8, y11, y12, hw, hne, hk, hmu, hC, hp, hG, hcap => by
    have hi : n = o.length := by omega
    subst hi
    refine ⟨j, cap, G, .int .i64 C, y8, .bool false, y12, ?_, ?_⟩
    · simpa [orderW] using hG
    rw [run_loop]
    generalize run T pr (.loop w_s_SafeOrder_2) = R
    simp +contextual only [w_s_SafeOrder_2, Nat.lt_irrefl, decide_false, orderW, go_sem, entry, joinEsc, if_pos, reduceIte, Nat.reduceAdd, Nat.reduceLeDiff, Nat.reduceLT, Nat.reduceEqDiff]
  | k + 1, C, o, j, cap, G, y8, y11, y12, hw, hne, hk, hmu, hC, hp, hG, hcap => by
    have hi : o.length < n := by omega
    obtain ⟨p1, p2, p3⟩ := pow_facts n (by omega)
    obtain ⟨f1, f2, f3, rest, f4⟩ := first_spec (hgood C hC) hp (by omega)
    rw [run_loop, orderW]
    generalize hx : firstW W n C = x at f1 f2 f3 f4 ⊢
    have f2' : C.testBit x = false ∧ 0 < W.getD (C + 2 ^ x) 0 := by
      unfold okStep at f2
      simp only [Bool.and_eq_true, decide_eq_true_eq] at f2
      exact ⟨by simpa using f2.1, f2.2⟩
    obtain ⟨_, _, b3⟩ := bits_facts C (by omega) x (by omega)
    obtain ⟨_, g2, g3, g4⟩ := b3 f2'.1
    have g2' : IntKind.i64.wrap ((C : Int) + shlI .i64 1 (x : Int)) = ((C + 2 ^ x : Nat) : Int) := g2
    obtain ⟨m1, m2, m3⟩ := mu_facts n (by omega) C (by omega)
    have hlt : C + 2 ^ x < F := by rw [hF]; exact (set_facts n (by omega) C (by omega) x f1).1 f2'.1
    have hmb : (o.length + 1) * 8 ≤ maxBytes := by unfold maxBytes; omega
    have hwl := cells_lt hw
    rw [List.length_append] at hwl
    obtain ⟨u12, hfind⟩ := loop_s_SafeOrder_1 (pr := pr) (e := none) (rv := rv) (p := p) (y3 := y3) (y4 := y4) (out := slI (H.length + j) o.length cap) (y9 := y9) (y10 := y10) (y11 := .bool true) (q := q) (c := c) (cw := cw) hn8 hF hC hw hW (fun c hc => (hgood c hc).1) f1 f2 f3 x 0 y12 rfl
    have h0 : ((0 : Nat) : Int) = 0 := rfl
    rw [h0] at hfind
    obtain ⟨j', cap', G', z7, z8, z11, z12, h2, ih⟩ := loop_s_SafeOrder_2 (rv := rv) (p := p) (y3 := y3) (y4 := y4) (y9 := y9) (y10 := y10) (q := q) (c := c) (cw := cw) hn8 hF hW hgood k (C + 2 ^ x) (o ++ [(x : Int)]) (G.length + 1) none
      (killIf cap j (G ++ [.cells [.int .i64 x] true]) ++ [.cells (encI (o ++ [(x : Int)])) true]) (.int .i64 x) (.bool true) u12 (cells_kill hw hne) (by omega) (by simp; omega) (by have := m3 x f1 f2'.1; omega) hlt f2'.2 (by
        rw [List.getElem?_append_right (by simp [killIf_length])]; simp [killIf_length]) (by simp)
    rw [List.append_assoc, List.singleton_append] at h2 ih
    refine ⟨j', cap', G', z7, z8, z11, z12, h2, ?_⟩
    generalize run T pr (.loop w_s_SafeOrder_2) = R at ih ⊢
    simp +contextual only [w_s_SafeOrder_2, hi, hfind, fillParts, append_in hG hcap hmb, shl_nat, g2', decide_true, go_sem, entry, joinEsc, if_pos, reduceIte, Nat.reduceAdd, Nat.reduceLeDiff, Nat.reduceLT, Nat.reduceEqDiff]
    simp only [List.length_append, List.length_cons, List.length_nil, Nat.zero_add, encI_append, List.map_cons, List.map_nil] at ih
    exact ih

/-- is there a safe order? -/
def canW (a b o : Int) (ls : List Ld) : Bool := cargoOk a b o ls && !decide ((waysW a b o ls).getD 0 0 = 0)

/-- the first safe order -/
def soW (a b o : Int) (ls : List Ld) : List Int := orderW (waysW a b o ls) ls.length ls.length 0

theorem cargo_le {a b o : Int} {ls : List Ld} (h : cargoOk a b o ls = true) : ls.length ≤ 8 := by
  unfold cargoOk at h
  rw [Bool.and_eq_true, decide_eq_true_eq] at h
  exact h.2

theorem ways0 {a b o : Int} {ls : List Ld} : (encI (waysW a b o ls))[0]? = some (.int .i64 ((waysW a b o ls).getD 0 0)) := by
  rw [List.getElem?_map, getD_get (by rw [waysW_length]; exact Nat.two_pow_pos _)]; rfl

theorem e_i_SafeOrder_no {q : Nat} {c : Option Nat} {ls : List Ld} (hq : cellsAt H q = some (encL ls)) (a b o : Int) (h : canW a b o ls = false) : call T pr f_i_SafeOrder [rfV a b o, slL q ls.length c] ⟨H, e⟩ =
    some (.tup [.slice none 0 0 none, .bool false], ⟨H, e⟩) := by
  rw [call_eq t_i_SafeOrder]
  cases h1 : cargoOk a b o ls with
  | false => simp +contextual only [a_i_SafeOrder, c_i_SafeOrder, e_i_areCargo (cells_mono hq _), h1, finish_two_nb, go_sem, entry, joinEsc, if_pos, reduceIte, Nat.reduceAdd, Nat.reduceLeDiff, Nat.reduceLT, Nat.reduceEqDiff]
  | true =>
    have hn8 := cargo_le h1
    unfold canW at h
    rw [h1, Bool.true_and] at h
    have hz : (waysW a b o ls).getD 0 0 = 0 := by simpa using h
    have h00 := ways0 (a := a) (b := b) (o := o) (ls := ls)
    rw [hz] at h00
    have hF : (0 : Int) < ((2 ^ ls.length : Nat) : Int) := by have := Nat.two_pow_pos ls.length; omega
    simp +contextual only [a_i_SafeOrder, c_i_SafeOrder, e_i_areCargo (cells_mono hq _), h1, e_i_Raft_waysOf (cells_mono hq _) hn8, fillParts, hF, part_false, h00, Int.toNat_zero, Int.le_refl, Nat.zero_mul, decide_true, finish_two_nb, go_sem, entry, joinEsc, if_pos, reduceIte, Nat.reduceAdd, Nat.reduceLeDiff, Nat.reduceLT, Nat.reduceEqDiff]

theorem e_s_SafeOrder_no {q : Nat} {c : Option Nat} {ls : List Ld} (hq : cellsAt H q = some (encL ls)) (a b o : Int) (h : canW a b o ls = false) : call T pr f_s_SafeOrder [rfV a b o, slL q ls.length c] ⟨H, e⟩ =
    some (.tup [slI H.length 0 (some 0), .bool false], ⟨H ++ [.cells [] true], e⟩) := by
  rw [call_eq t_s_SafeOrder]
  have hf1 : ∀ (B : Blk) (e0 : Option Nat), finish 2 H.length e0 (.tup [slI (H.length + 1) 0 (some 0), .bool false]) ⟨H ++ [B, .cells [] true], none⟩ = some (.tup [slI H.length 0 (some 0), .bool false], ⟨H ++ [.cells [] true], e0⟩) := fun B e0 => finish_two_sb false e0 rfl rfl
  have hf2 : ∀ (B B' : Blk) (e0 : Option Nat), finish 2 H.length e0 (.tup [slI (H.length + 1) 0 (some 0), .bool false]) ⟨H ++ [B, .cells [] true, B'], none⟩ = some (.tup [slI H.length 0 (some 0), .bool false], ⟨H ++ [.cells [] true], e0⟩) := fun B B' e0 => finish_two_sb false e0 rfl rfl
  cases h1 : cargoOk a b o ls with
  | false => simp +contextual only [a_s_SafeOrder, c_s_SafeOrder, e_s_l10Cargo (cells_mono hq _), h1, fillParts, hf1, go_sem, entry, joinEsc, if_pos, reduceIte, Nat.reduceAdd, Nat.reduceLeDiff, Nat.reduceLT, Nat.reduceEqDiff]
  | true =>
    have hn8 := cargo_le h1
    unfold canW at h
    rw [h1, Bool.true_and] at h
    have hz : (waysW a b o ls).getD 0 0 = 0 := by simpa using h
    have h00 := ways0 (a := a) (b := b) (o := o) (ls := ls)
    rw [hz] at h00
    have hF : (0 : Int) < ((2 ^ ls.length : Nat) : Int) := by have := Nat.two_pow_pos ls.length; omega
    simp +contextual only [a_s_SafeOrder, c_s_SafeOrder, e_s_l10Cargo (cells_mono hq _), h1, e_s_l10Ways (cells_mono hq _) hn8, fillParts, hF, part_false, h00, Int.toNat_zero, Int.le_refl, Nat.zero_mul, decide_true, hf2, go_sem, entry, joinEsc, if_pos, reduceIte, Nat.reduceAdd, Nat.reduceLeDiff, Nat.reduceLT, Nat.reduceEqDiff]

theorem e_i_SafeOrder {q : Nat} {c : Option Nat} {ls : List Ld} (hq : cellsAt H q = some (encL ls)) (a b o : Int) (h : canW a b o ls = true) : ∃ cap, call T pr f_i_SafeOrder [rfV a b o, slL q ls.length c] ⟨H, e⟩ =
    some (.tup [slI H.length (soW a b o ls).length cap, .bool true], ⟨H ++ [.cells (encI (soW a b o ls)) true], e⟩) := by
  unfold canW at h
  obtain ⟨h1, h2⟩ := Bool.and_eq_true_iff.mp h
  have hn8 := cargo_le h1
  have hz : ¬ (waysW a b o ls).getD 0 0 = 0 := by simpa using h2
  have h00 := ways0 (a := a) (b := b) (o := o) (ls := ls)
  have hF0 := Nat.two_pow_pos ls.length
  have hF : (0 : Int) < ((2 ^ ls.length : Nat) : Int) := by omega
  have hg := fun c hc => waysW_good (a := a) (b := b) (o := o) hn8 c hc
  have hp : 0 < (waysW a b o ls).getD 0 0 := by have := (hg 0 hF0).1; omega
  obtain ⟨j', cap', G', z7, z8, z11, k1, hl⟩ := loop_i_SafeOrder (pr := pr) (H := H ++ [Blk.cells [.int .i64 a, .int .i64 b, .int .i64 o] true, .cells (encI (waysW a b o ls)) true]) (rv := rfV a b o) (p := .ptr (some (H.length, 0))) (y3 := .slice none 0 0 none) (y4 := .bool false) (y9 := .bool false) (y10 := .bool false) (q := q) (w := H.length + 1) (c := c) (cw := some (2 ^ ls.length)) hn8 rfl
    (by simp [cellsAt, List.getElem?_append_right]) (waysW_length a b o ls) hg ls.length 0 [] 0 (some 0) [.cells [] true] .undef .undef rfl (mu_zero _) hF0 hp rfl (fun _ => rfl)
  have h0 : ((0 : Nat) : Int) = 0 := rfl
  rw [h0, List.nil_append] at hl
  rw [List.nil_append] at k1
  refine ⟨cap', ?_⟩
  have hs : orderW (waysW a b o ls) ls.length ls.length 0 = soW a b o ls := rfl
  rw [hs] at hl k1
  simp only [List.length_append, List.length_cons, List.length_nil, Nat.zero_add, Nat.add_zero, List.append_assoc, List.cons_append, List.nil_append, Nat.reduceAdd, Nat.add_assoc] at hl
  have hf : ∀ (B B' : Blk) (e0 : Option Nat), finish 2 H.length e0 (.tup [slI (H.length + (2 + j')) (soW a b o ls).length cap', .bool true]) ⟨H ++ (B :: B' :: G'), none⟩ = some (.tup [slI H.length (soW a b o ls).length cap', .bool true], ⟨H ++ [.cells (encI (soW a b o ls)) true], e0⟩) :=
    fun B B' e0 => finish_two_sb true e0 (by rw [show 2 + j' = j' + 1 + 1 by omega]; exact k1) (under_encI _ _)
  rw [call_eq t_i_SafeOrder]
  simp +contextual only [a_i_SafeOrder, c_i_SafeOrder, e_i_areCargo (cells_mono hq _), h1, e_i_Raft_waysOf (cells_mono hq _) hn8, fillParts, hF, part_false, h00, hz, hl, hf, Int.toNat_zero, Int.le_refl, Nat.zero_mul, decide_true, decide_false, go_sem, entry, joinEsc, if_pos, reduceIte, Nat.reduceAdd, Nat.reduceLeDiff, Nat.reduceLT, Nat.reduceEqDiff]

theorem e_s_SafeOrder {q : Nat} {c : Option Nat} {ls : List Ld} (hq : cellsAt H q = some (encL ls)) (a b o : Int) (h : canW a b o ls = true) : ∃ cap, call T pr f_s_SafeOrder [rfV a b o, slL q ls.length c] ⟨H, e⟩ =
    some (.tup [slI H.length (soW a b o ls).length cap, .bool true], ⟨H ++ [.cells (encI (soW a b o ls)) true], e⟩) := by
  unfold canW at h
  obtain ⟨h1, h2⟩ := Bool.and_eq_true_iff.mp h
  have hn8 := cargo_le h1
  have hz : ¬ (waysW a b o ls).getD 0 0 = 0 := by simpa using h2
  have h00 := ways0 (a := a) (b := b) (o := o) (ls := ls)
  have hF0 := Nat.two_pow_pos ls.length
  have hF : (0 : Int) < ((2 ^ ls.length : Nat) : Int) := by omega
  have hg := fun c hc => waysW_good (a := a) (b := b) (o := o) hn8 c hc
  have hp : 0 < (waysW a b o ls).getD 0 0 := by have := (hg 0 hF0).1; omega
  obtain ⟨j', cap', G', z7, z8, z11, z12, k1, hl⟩ := loop_s_SafeOrder_2 (pr := pr) (H := H ++ [Blk.cells [.int .i64 a, .int .i64 b, .int .i64 o] true]) (rv := rfV a b o) (p := .ptr (some (H.length, 0))) (y3 := .slice none 0 0 none) (y4 := .bool false) (y9 := .bool false) (y10 := .bool false) (q := q) (w := H.length + 2) (c := c) (cw := some (2 ^ ls.length)) hn8 rfl
    (waysW_length a b o ls) hg ls.length 0 [] 0 (some 0) [.cells [] true, .cells (encI (waysW a b o ls)) true] .undef .undef .undef (by simp [cellsAt, List.getElem?_append_right]) (by simp) rfl (mu_zero _) hF0 hp rfl (fun _ => rfl)
  have h0 : ((0 : Nat) : Int) = 0 := rfl
  rw [h0, List.nil_append] at hl
  rw [List.nil_append] at k1
  refine ⟨cap', ?_⟩
  have hs : orderW (waysW a b o ls) ls.length ls.length 0 = soW a b o ls := rfl
  rw [hs] at hl k1
  simp only [List.length_append, List.length_cons, List.length_nil, Nat.zero_add, Nat.add_zero, List.append_assoc, List.cons_append, List.nil_append, Nat.reduceAdd, Nat.add_assoc] at hl
  have hf : ∀ (B : Blk) (e0 : Option Nat), finish 2 H.length e0 (.tup [slI (H.length + (1 + j')) (soW a b o ls).length cap', .bool true]) ⟨H ++ (B :: G'), none⟩ = some (.tup [slI H.length (soW a b o ls).length cap', .bool true], ⟨H ++ [.cells (encI (soW a b o ls)) true], e0⟩) :=
    fun B e0 => finish_two_sb true e0 (by rw [show 1 + j' = j' + 1 by omega]; exact k1) (under_encI _ _)
  rw [call_eq t_s_SafeOrder]
  simp +contextual only [a_s_SafeOrder, c_s_SafeOrder, e_s_l10Cargo (cells_mono hq _), h1, e_s_l10Ways (cells_mono hq _) hn8, fillParts, hF, part_false, h00, hz, hl, hf, Int.toNat_zero, Int.le_refl, Nat.zero_mul, decide_true, decide_false, go_sem, entry, joinEsc, if_pos, reduceIte, Nat.reduceAdd, Nat.reduceLeDiff, Nat.reduceLT, Nat.reduceEqDiff]

end Go.Proofs.Ytlcklonakjhoiaa.Slim

/- Rafts: the law of the first safe order. -/
namespace Go.Proofs.Ytlcklonakjhoiaa.Slim

open Go

set_option linter.unusedSimpArgs false

set_option linter.unusedVariables false

variable {pr : Prims} {H : List Blk} {e : Option Nat}

theorem soW_length (a b o : Int) (ls : List Ld) : (soW a b o ls).length = ls.length := orderW_length _ _ _ _

theorem law_SafeOrder {av : AV} {ls : List Ld} (ha : ArgL H av ls) (a b o : Int) : ∃ m', call T pr f_l_FnExactSafeOrder [rfV a b o, av] ⟨H, none⟩ = some (.bool true, m') := by
  refine ⟨⟨H, none⟩, ?_⟩
  have hsz : ∀ G e', call T pr f_l_szLoadS [av, .int .i64 1048576] ⟨G, e'⟩ = some (.int .i64 (if ls.length ≤ 1048576 then 1048576 - ls.length else -1), ⟨G, e'⟩) := by
    obtain ⟨p, sz, c, rfl, h2, h3⟩ := ha
    exact fun G e' => e_l_szLoadS ls.length p sz c h2
  rw [call_eq t_l_FnExactSafeOrder]
  by_cases hn : ls.length ≤ 1048576
  · have hn' : ls.length ≤ 9223372036854775806 := by omega
    have hneg : ¬ (1048576 - (ls.length : Int) < 0) := by omega
    have hcopy := fun G => e_l_toLoadS (pr := pr) (e := none) (ha.more G) hn
    have hmark : ∀ L b c, L[b]? = some (.cells (encL ls) true) → call T pr f_l_markLoadS [slL b ls.length c, .int .i64 1] ⟨L, none⟩ = some (.int .i64 ((1 + ls.length * 2 : Nat) : Int), ⟨L.set b (.cells (encL (markedL 1 ls.length)) true), none⟩) :=
      fun L b c h => e_l_markLoadS h (by omega) 1 (by omega)
    have hk0 : ¬ (((1 + ls.length * 2 : Nat) : Int) < 0) := by omega
    have h10 : ¬ ((1 : Int) < 0) := by omega
    cases hcan : canW a b o ls with
    | false =>
      have hs := fun L q c hq => e_s_SafeOrder_no (pr := pr) (H := L) (e := none) (q := q) (c := c) (ls := ls) hq a b o hcan
      have hi := fun L q c hq => e_i_SafeOrder_no (pr := pr) (H := L) (e := none) (q := q) (c := c) (ls := ls) hq a b o hcan
      simp +contextual only [a_l_FnExactSafeOrder, c_l_FnExactSafeOrder, hsz, hn, hneg, decide_false, decide_true, e_l_toRaft, hcopy, hs, hi, e_l_eqIntS_none, e_l_markIntS_none, e_l_heldIntS_none, hmark, hk0, h10, e_l_eqLoadS, hn', beq_self_eq_true, go_sem, entry, joinEsc, if_pos, reduceIte, Nat.reduceAdd, Nat.reduceLeDiff, Nat.reduceLT, Nat.reduceEqDiff]
    | true =>
      have hl := soW_length a b o ls
      have hc8 := cargo_le (Bool.and_eq_true_iff.mp hcan).1
      have hs := fun L q c hq => hid_tup (e_s_SafeOrder (pr := pr) (H := L) (e := none) (q := q) (c := c) (ls := ls) hq a b o hcan)
      have hi := fun L q c hq => hid_tup (e_i_SafeOrder (pr := pr) (H := L) (e := none) (q := q) (c := c) (ls := ls) hq a b o hcan)
      generalize soW a b o ls = os at *
      have ho' : os.length ≤ 9223372036854775806 := by omega
      have hmi : ∀ L b c, L[b]? = some (.cells (encI os) true) → call T pr f_l_markIntS [slI b os.length c, .int .i64 1] ⟨L, none⟩ = some (.int .i64 ((1 + os.length : Nat) : Int), ⟨L.set b (.cells (encI (markedI 1 os.length)) true), none⟩) :=
        fun L b c h => e_l_markIntS h (by omega) 1 (by omega)
      have hhe : ∀ L b c, cellsAt L b = some (encI (markedI 1 os.length)) → call T pr f_l_heldIntS [slI b os.length c, .int .i64 1] ⟨L, none⟩ = some (.int .i64 ((1 + os.length : Nat) : Int), ⟨L, none⟩) :=
        fun L b c h => e_l_heldIntS (k := 1) h (by omega) (by omega)
      have hk1 : ¬ (((1 + os.length : Nat) : Int) < 0) := by omega
      simp +contextual only [a_l_FnExactSafeOrder, c_l_FnExactSafeOrder, hsz, hn, hneg, decide_false, decide_true, e_l_toRaft, hcopy, hs, hi, e_l_eqIntS, ho', hmi, hhe, hk1, hmark, hk0, h10, e_l_eqLoadS, hn', beq_self_eq_true, go_sem, entry, joinEsc, if_pos, reduceIte, Nat.reduceAdd, Nat.reduceLeDiff, Nat.reduceLT, Nat.reduceEqDiff]
  · simp +contextual only [a_l_FnExactSafeOrder, c_l_FnExactSafeOrder, hsz, hn, decide_true, show ((-1 : Int) < 0) by omega, go_sem, entry, joinEsc, if_pos, reduceIte, Nat.reduceAdd, Nat.reduceLeDiff, Nat.reduceLT, Nat.reduceEqDiff]

end Go.Proofs.Ytlcklonakjhoiaa.Slim

/- Rafts: from which sets all can be taken, on both sides. -/
namespace Go.Proofs.Ytlcklonakjhoiaa.Slim

open Go

set_option linter.unusedSimpArgs false

set_option linter.unusedVariables false

variable {pr : Prims} {H : List Blk} {e : Option Nat}

theorem bits_down : ∀ m : Nat, m < 256 → ∀ x : Nat, x < 8 → m.testBit x = true → (andNotI .i64 m (shlI .i64 1 (x : Int)) = ((m - 2 ^ x : Nat) : Int) ∧ wr ((m : Int) - shlI .i64 1 (x : Int)) = ((m - 2 ^ x : Nat) : Int) ∧ 2 ^ x ≤ m) := by decide +kernel

/-- the items that are in c -/
def nu (n c : Nat) : Nat := ((List.range n).filter fun i => c.testBit i).length

theorem nu_facts : ∀ n : Nat, n < 9 → ∀ c : Nat, c < 2 ^ n → ((nu n c = 0 ↔ c = 0) ∧ (c + 1 = 2 ^ n → nu n c = n) ∧ ∀ i : Nat, i < n → c.testBit i = true → nu n c = nu n (c - 2 ^ i) + 1) := by decide +kernel

abbrev encB (ls : List Bool) : List AV := ls.map AV.bool

theorem getB {B : List Bool} {c : Nat} (h : c < B.length) : B[c]? = some (B.getD c false) := by
  rw [List.getD_eq_getElem?_getD, List.getElem?_eq_getElem h]; rfl

theorem part_encB {B : List Bool} {i : Nat} (sz : Nat) (h : i < B.length) : part false (encB B) i sz = some (.bool (B.getD i false)) := by
  rw [part_false, List.getElem?_map, getB h]; rfl

theorem under_encB (n : Nat) : ∀ ls : List Bool, ((encB ls).all fun c => c.under n) = true
  | [] => rfl
  | l :: ls => by simp [encB, AV.under]

theorem zeros_encB : ∀ n, zeros n [.bool false] = encB (List.replicate n false)
  | 0 => rfl
  | n + 1 => by
    have := zeros_encB n
    unfold zeros encB at *
    simp only [List.replicate_succ, List.flatten_cons, List.map_cons, List.cons_append, List.nil_append, this]

theorem setRange_midB (P R : List Bool) (r a : Bool) : setRange (encB (P ++ r :: R)) P.length [.bool a] = encB (P ++ a :: R) := by
  induction P with
  | nil => simp [encB, setRange]
  | cons p P ih =>
    simp only [encB, List.cons_append, List.length_cons, List.map_cons] at *
    rw [setRange_k, ih]

theorem getD_pre {P R : List Bool} {d : Nat} (h : d < P.length) : (P ++ R).getD d false = P.getD d false := by
  rw [List.getD_eq_getElem?_getD, List.getD_eq_getElem?_getD, List.getElem?_append_left h]

/-- item i can be taken from c, and the rest in some way behind it -/
def okDown (W : List Bool) (c i : Nat) : Bool := c.testBit i && W.getD (c - 2 ^ i) false

def backV (safe : Nat → Bool) (n c : Nat) (B : List Bool) : Bool := safe c && (decide (c = 0) || (List.range n).any (okDown B c))

/-- the sets below c: can all be taken from them? -/
def backL (safe : Nat → Bool) (n : Nat) : Nat → List Bool
  | 0 => []
  | c + 1 => backL safe n c ++ [backV safe n c (backL safe n c)]

theorem backL_length (safe : Nat → Bool) (n : Nat) : ∀ c, (backL safe n c).length = c
  | 0 => rfl
  | c + 1 => by rw [backL, List.length_append, backL_length]; rfl

theorem backL_getD (safe : Nat → Bool) (n : Nat) {c d : Nat} : ∀ F, c < F → d < c → (backL safe n F).getD d false = (backL safe n c).getD d false
  | 0, h, _ => by omega
  | F + 1, h, hd => by
    rw [backL]
    by_cases hc : c = F
    · subst hc; exact getD_pre (by rw [backL_length]; exact hd)
    · rw [getD_pre (by rw [backL_length]; omega)]
      exact backL_getD safe n F (by omega) hd

theorem backL_val (safe : Nat → Bool) (n : Nat) {c : Nat} : ∀ F, c < F → (backL safe n F).getD c false = backV safe n c (backL safe n c)
  | 0, h => by omega
  | F + 1, h => by
    rw [backL]
    by_cases hc : c = F
    · subst hc
      rw [List.getD_eq_getElem?_getD, List.getElem?_append_right (by rw [backL_length]; exact Nat.le_refl _), backL_length, Nat.sub_self]
      rfl
    · rw [getD_pre (by rw [backL_length]; omega)]
      exact backL_val safe n F (by omega)

theorem back_good {safe : Nat → Bool} {n F c : Nat} (hF : F = 2 ^ n) (hn8 : n ≤ 8) (hc : c < F) (h : (backL safe n F).getD c false = true) (h0 : c ≠ 0) : ∃ i, i < n ∧ okDown (backL safe n F) c i = true := by
  rw [backL_val safe n F hc] at h
  unfold backV at h
  simp only [Bool.and_eq_true, Bool.or_eq_true, decide_eq_true_eq, List.any_eq_true, List.mem_range] at h
  rcases h.2 with h | ⟨i, i1, i2⟩
  · exact absurd h h0
  · refine ⟨i, i1, ?_⟩
    unfold okDown at i2 ⊢
    rw [Bool.and_eq_true] at i2 ⊢
    have := Nat.two_pow_pos i
    rw [backL_getD safe n F hc (by omega)]
    exact i2

def backW (a b o : Int) (ls : List Ld) : List Bool := backL (fun c => safeW a b o ls (c : Int)) ls.length (2 ^ ls.length)

theorem loop_s_l10Back_1 {rv p y3 y8 : AV} {q w n F C : Nat} {c cw : Option Nat} {B R : List Bool} (hn8 : n ≤ 8) (hF : F = 2 ^ n) (hC : C < F) (hw : cellsAt H w = some (encB (B ++ R))) (hB : B.length = C) (hR : B.length + R.length = F) :
    ∀ (k i : Nat) (g : Bool) (y9 : AV), k + i = n → ∃ (z9 : AV), run T pr (.loop w_s_l10Back_1) ⟨[rv, slL q n c, p, y3, slI w F cw, .int .i64 C, .bool g, .int .i64 i, y8, y9], ⟨H, e⟩⟩ =
      some (Ex.exit 2, ⟨[rv, slL q n c, p, y3, slI w F cw, .int .i64 C, .bool (g || (List.range' i k).any (okDown B C)), .int .i64 n, y8, z9], ⟨H, e⟩⟩)
  | 0, i, g, y9, hk => by
    have hi : i = n := by omega
    subst hi
    refine ⟨.bool false, ?_⟩
    have h0 : (g || (List.range' i 0).any (okDown B C)) = g := by simp
    rw [run_loop, h0]
    generalize run T pr (.loop w_s_l10Back_1) = R'
    simp +contextual only [w_s_l10Back_1, Nat.lt_irrefl, decide_false, go_sem, entry, joinEsc, if_pos, reduceIte, Nat.reduceAdd, Nat.reduceLeDiff, Nat.reduceLT, Nat.reduceEqDiff]
  | k + 1, i, g, y9, hk => by
    have hi : i < n := by omega
    obtain ⟨p1, p2, p3⟩ := pow_facts n (by omega)
    rw [run_loop, List.range'_succ, List.any_cons]
    cases g with
    | true =>
      obtain ⟨z9, ih⟩ := loop_s_l10Back_1 (rv := rv) (p := p) (y3 := y3) (y8 := y8) (q := q) (c := c) (cw := cw) hn8 hF hC hw hB hR k (i + 1) true (.bool true) (by omega)
      refine ⟨z9, ?_⟩
      generalize run T pr (.loop w_s_l10Back_1) = R' at ih ⊢
      rw [Bool.true_or] at ih ⊢
      simp +contextual only [w_s_l10Back_1, hi, wrap_succ (show i < 9223372036854775807 by omega), decide_true, go_sem, entry, joinEsc, if_pos, reduceIte, Nat.reduceAdd, Nat.reduceLeDiff, Nat.reduceLT, Nat.reduceEqDiff]
      exact ih
    | false =>
      rw [Bool.false_or]
      obtain ⟨z9, ih⟩ := loop_s_l10Back_1 (rv := rv) (p := p) (y3 := y3) (y8 := y8) (q := q) (c := c) (cw := cw) hn8 hF hC hw hB hR k (i + 1) (okDown B C i) (.bool true) (by omega)
      refine ⟨z9, ?_⟩
      generalize run T pr (.loop w_s_l10Back_1) = R' at ih ⊢
      unfold okDown at ih ⊢
      cases h1 : C.testBit i with
      | false =>
        have hb := bit_clear (c := C) (i := i) (by omega) (by omega) h1
        rw [h1, Bool.false_and] at ih
        rw [Bool.false_and]
        simp +contextual only [w_s_l10Back_1, hi, shr_nat, hb, show ¬ ((0 : Int) = 1) by omega, wrap_succ (show i < 9223372036854775807 by omega), decide_true, decide_false, go_sem, entry, joinEsc, if_pos, reduceIte, Nat.reduceAdd, Nat.reduceLeDiff, Nat.reduceLT, Nat.reduceEqDiff]
        exact ih
      | true =>
        have hb := bit_set (c := C) (i := i) (by omega) (by omega) h1
        obtain ⟨d1, d2, d3⟩ := bits_down C (by omega) i (by omega) h1
        have d2' : IntKind.i64.wrap ((C : Int) - shlI .i64 1 (i : Int)) = ((C - 2 ^ i : Nat) : Int) := d2
        have hp := Nat.two_pow_pos i
        have hlt : C - 2 ^ i < F := by omega
        have hg : part false (encB (B ++ R)) (C - 2 ^ i) 1 = some (.bool (B.getD (C - 2 ^ i) false)) := by rw [part_encB _ (by simp; omega), getD_pre (by omega)]
        rw [h1, Bool.true_and] at ih
        rw [Bool.true_and]
        simp +contextual only [w_s_l10Back_1, hw, hi, hlt, shr_nat, shl_nat, hb, d2', hg, wrap_succ (show i < 9223372036854775807 by omega), decide_true, go_sem, entry, joinEsc, if_pos, reduceIte, Nat.reduceAdd, Nat.reduceLeDiff, Nat.reduceLT, Nat.reduceEqDiff]
        exact ih

theorem loop_s_l10Back_2 {rv y3 : AV} {q u : Nat} {c : Option Nat} {ls : List Ld} {n F : Nat} {a b o : Int} (hls : ls.length = n) (hn8 : n ≤ 8) (hF : F = 2 ^ n) (h : cellsAt H q = some (encL ls)) (hu : cellsAt H u = some [.int .i64 a, .int .i64 b, .int .i64 o]) :
    ∀ (k C : Nat) (y6 y7 y8 y9 : AV), k + C = F → ∃ (z6 z7 z8 z9 : AV), run T pr (.loop w_s_l10Back_2) ⟨[rv, slL q n c, .ptr (some (u, 0)), y3, slI H.length F (some F), .int .i64 C, y6, y7, y8, y9], ⟨H ++ [.cells (encB (backL (fun c => safeW a b o ls (c : Int)) n C ++ List.replicate k false)) true], none⟩⟩ =
      some (Ex.exit 0, ⟨[rv, slL q n c, .ptr (some (u, 0)), y3, slI H.length F (some F), .int .i64 F, z6, z7, z8, z9], ⟨H ++ [.cells (encB (backL (fun c => safeW a b o ls (c : Int)) n F)) true], none⟩⟩)
  | 0, C, y6, y7, y8, y9, hk => by
    have hi : C = F := by omega
    subst hi
    refine ⟨y6, y7, .bool false, y9, ?_⟩
    rw [run_loop, List.replicate_zero, List.append_nil]
    generalize run T pr (.loop w_s_l10Back_2) = R
    simp +contextual only [w_s_l10Back_2, Nat.lt_irrefl, decide_false, go_sem, entry, joinEsc, if_pos, reduceIte, Nat.reduceAdd, Nat.reduceLeDiff, Nat.reduceLT, Nat.reduceEqDiff]
  | k + 1, C, y6, y7, y8, y9, hk => by
    have hC : C < F := by omega
    obtain ⟨p1, p2, p3⟩ := pow_facts n (by omega)
    have hsafe := fun G => e_s_l10Safe (pr := pr) (e := none) (c := c) (cells_mono h G) (show ls.length ≤ 9223372036854775806 by omega) a b o (C : Int)
    rw [hls] at hsafe
    have h0 : ((0 : Nat) : Int) = 0 := rfl
    have hz : decide ((C : Int) = 0) = decide (C = 0) := decide_eq_decide.mpr (by omega)
    rw [run_loop, List.replicate_succ]
    obtain ⟨z9, hl⟩ := loop_s_l10Back_1 (pr := pr) (e := none) (H := H ++ [.cells (encB (backL (fun c => safeW a b o ls (c : Int)) n C ++ (false :: List.replicate k false))) true]) (rv := rv) (p := .ptr (some (u, 0))) (y3 := y3) (y8 := .bool true) (q := q) (w := H.length) (c := c) (cw := some F) (B := backL (fun c => safeW a b o ls (c : Int)) n C) (R := false :: List.replicate k false) hn8 hF hC (by simp [cellsAt, List.getElem?_append_right]) (backL_length _ _ _) (by rw [backL_length]; simp; omega) n 0 (decide (C = 0)) y9 rfl
    rw [h0, ← List.range_eq_range'] at hl
    obtain ⟨w6, w7, w8, w9, ih⟩ := loop_s_l10Back_2 (rv := rv) (y3 := y3) (c := c) hls hn8 hF h hu k (C + 1) (.bool (decide (C = 0) || (List.range n).any (okDown (backL (fun c => safeW a b o ls (c : Int)) n C) C))) (.int .i64 n) (.bool true) z9 (by omega)
    refine ⟨w6, w7, w8, w9, ?_⟩
    generalize run T pr (.loop w_s_l10Back_2) = R at ih ⊢
    rw [backL, backV, List.append_assoc, List.singleton_append] at ih
    have hlen := backL_length (fun c => safeW a b o ls (c : Int)) n C
    generalize backL (fun c => safeW a b o ls (c : Int)) n C = B at *
    have hset : ∀ x, setRange (encB (B ++ false :: List.replicate k false)) C [.bool x] = encB (B ++ x :: List.replicate k false) := fun x => by
      conv => lhs; rw [← hlen]
      exact setRange_midB B _ false x
    have hle : C + 1 ≤ (encB (B ++ false :: List.replicate k false)).length := by simp; omega
    generalize (decide (C = 0) || (List.range n).any (okDown B C)) = g at *
    cases g with
    | false =>
      rw [Bool.and_false] at ih
      simp +contextual only [w_s_l10Back_2, cells_mono hu, hsafe, hz, hl, hC, hle, hset, wrap_succ (show C < 9223372036854775807 by omega), Nat.mul_one, decide_true, go_sem, entry, joinEsc, if_pos, reduceIte, Nat.reduceAdd, Nat.reduceLeDiff, Nat.reduceLT, Nat.reduceEqDiff]
      exact ih
    | true =>
      rw [Bool.and_true] at ih
      simp +contextual only [w_s_l10Back_2, cells_mono hu, hsafe, hz, hl, hC, hle, hset, wrap_succ (show C < 9223372036854775807 by omega), Nat.mul_one, decide_true, go_sem, entry, joinEsc, if_pos, reduceIte, Nat.reduceAdd, Nat.reduceLeDiff, Nat.reduceLT, Nat.reduceEqDiff]
      exact ih

theorem fin_back (x : Blk) (W : List Bool) (n : Nat) (c : Option Nat) (e0 : Option Nat) : finish 2 H.length e0 (slI (H.length + 1) n c) ⟨H ++ [x, Blk.cells (encB W) true], none⟩ = some (slI H.length n c, ⟨H ++ [Blk.cells (encB W) true], e0⟩) :=
  finish_two_at e0 rfl (under_encB _ _)

theorem e_s_l10Back {q : Nat} {c : Option Nat} {ls : List Ld} (h : cellsAt H q = some (encL ls)) (hn8 : ls.length ≤ 8) (a b o : Int) : call T pr f_s_l10Back [rfV a b o, slL q ls.length c] ⟨H, e⟩ =
    some (slI H.length (2 ^ ls.length) (some (2 ^ ls.length)), ⟨H ++ [.cells (encB (backW a b o ls)) true], e⟩) := by
  obtain ⟨p1, p2, p3⟩ := pow_facts ls.length (by omega)
  unfold backW
  generalize hF : 2 ^ ls.length = F at *
  have hu : cellsAt (H ++ [Blk.cells [.int .i64 a, .int .i64 b, .int .i64 o] true]) H.length = some [.int .i64 a, .int .i64 b, .int .i64 o] := by simp [cellsAt, List.getElem?_append_right]
  obtain ⟨z6, z7, z8, z9, hl⟩ := loop_s_l10Back_2 (pr := pr) (c := c) (rv := rfV a b o) (y3 := .slice none 0 0 none) rfl hn8 hF.symm (cells_mono h [Blk.cells [.int .i64 a, .int .i64 b, .int .i64 o] true]) hu F 0 .undef .undef .undef .undef (by omega)
  have h0 : ((0 : Nat) : Int) = 0 := rfl
  rw [backL, List.nil_append, ← zeros_encB, List.append_assoc, List.append_assoc, h0] at hl
  simp only [List.length_append, List.length_cons, List.length_nil, Nat.zero_add, List.cons_append, List.nil_append] at hl
  have hmb : (F : Int) * ((1 : Nat) : Int) ≤ ((maxBytes : Nat) : Int) := by unfold maxBytes; omega
  rw [call_eq t_s_l10Back]
  simp +contextual only [a_s_l10Back, c_s_l10Back, shl_nat, p1, hmb, hl, fin_back, go_sem, entry, joinEsc, if_pos, reduceIte, Nat.reduceAdd, Nat.reduceLeDiff, Nat.reduceLT, Nat.reduceEqDiff]

end Go.Proofs.Ytlcklonakjhoiaa.Slim
