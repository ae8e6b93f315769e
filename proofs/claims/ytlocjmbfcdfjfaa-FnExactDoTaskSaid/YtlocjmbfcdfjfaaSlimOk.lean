/- The slim functions are the program's. -/
import Derived.Test.YtlocjmbfcdfjfaaSlimFns
import Derived.Test.YtlocjmbfcdfjfaaChecked
namespace Go.Proofs.Ytlocjmbfcdfjfaa.Slim
open Go
theorem ok_gosem_cut_init : compileFn Try.prog [] 1 [] Try.f2 = some a_gosem_cut_init := by kernel_rfl
theorem ok_l_FnExactNewStand : compileFn Try.prog [0, 1, 4, 5, 6, 7, 8, 9, 10, 11, 12, 33, 41, 44, 59, 64, 67] 1 [] Try.f3 = some a_l_FnExactNewStand := by kernel_rfl
theorem ok_l_FnExactIsStand : compileFn Try.prog [0, 1, 2, 3, 4, 5, 6, 11, 21, 26] 1 [(10, [0, 1, 2, 3, 4])] Try.f4 = some a_l_FnExactIsStand := by kernel_rfl
theorem ok_l_FnExactRowPull : compileFn Try.prog [0, 1, 2, 3, 4, 5, 6, 7, 8, 13, 34, 39] 1 [(10, [0, 1, 2, 3, 4])] Try.f5 = some a_l_FnExactRowPull := by kernel_rfl
theorem ok_l_FnExactNewConsole : compileFn Try.prog [0, 1, 2, 3, 4, 5, 6, 7, 8, 9, 10, 11, 12, 13, 18, 40, 45, 61, 69, 72, 87, 92, 95] 1 [(10, [0, 1, 2, 3, 4])] Try.f6 = some a_l_FnExactNewConsole := by kernel_rfl
theorem ok_l_FnExactDoTask : compileFn Try.prog [0, 1, 2, 3, 4, 5, 6, 7, 8, 9, 10, 11, 12, 13, 14, 15, 20, 46, 51, 67, 75, 78, 95, 100, 103] 1 [(5, [0, 2, 1, 3, 4, 5, 6, 7, 8, 9, 10]), (7, [0, 1, 2, 3, 4, 5, 6, 7, 8, 9]), (10, [0, 1, 2, 3, 4]), (24, [0, 2, 1, 3, 4, 5, 6, 7, 8, 9, 10])] Try.f7 = some a_l_FnExactDoTask := by kernel_rfl
theorem ok_l_FnStands : compileFn Try.prog [0, 2, 3, 4, 5, 6, 7, 8, 9, 10, 11, 12, 13, 14, 15, 16, 17, 18, 19, 20, 21, 22, 23, 24, 25, 26, 27, 28, 30, 128, 134, 136, 150, 173, 186, 193] 1 [(12, [0, 1, 2, 3, 4, 5, 6, 7, 8, 9, 10, 11, 12, 13, 14, 15, 16, 17, 18, 19, 20, 21, 22, 23, 24, 25, 26, 27, 28, 29, 30, 31, 32, 33, 34, 35, 36, 37, 39, 38, 40, 41, 42])] Try.f8 = some a_l_FnStands := by kernel_rfl
theorem ok_l_FnRowPulls : compileFn Try.prog [0, 2, 3, 4, 5, 6, 7, 8, 9, 10, 11, 12, 13, 14, 15, 16, 17, 19, 39, 41, 89, 97] 1 [] Try.f9 = some a_l_FnRowPulls := by kernel_rfl
theorem ok_l_FnExactDoTasks : compileFn Try.prog [0, 1, 2, 4, 5, 6, 7, 8, 9, 10, 11, 12, 13, 14, 15, 16, 17, 18, 19, 24, 29, 63, 68, 73, 97, 105, 108, 131, 136, 139] 1 [(14, [0, 1, 2, 3, 4])] Try.f10 = some a_l_FnExactDoTasks := by kernel_rfl
theorem ok_s_NewStand : compileFn Try.prog [0, 1, 4, 5, 9] 2 [] Try.f11 = some a_s_NewStand := by kernel_rfl
theorem ok_i_NewStand : compileFn Try.prog [0, 1, 4, 5, 6, 12] 2 [] Try.f12 = some a_i_NewStand := by kernel_rfl
theorem ok_l_eqStand : compileFn Try.prog [0, 1, 2, 3, 4, 10, 15, 20, 26, 31, 36] 1 [] Try.f13 = some a_l_eqStand := by kernel_rfl
theorem ok_l_markStand : compileFn Try.prog [0, 1, 2, 4] 1 [] Try.f14 = some a_l_markStand := by kernel_rfl
theorem ok_l_heldStand : compileFn Try.prog [0, 1, 2, 4, 10, 16] 1 [] Try.f15 = some a_l_heldStand := by kernel_rfl
theorem ok_l_szStand : compileFn Try.prog [0, 1, 2, 4, 10, 16] 1 [] Try.f16 = some a_l_szStand := by kernel_rfl
theorem ok_s_IsStand : compileFn Try.prog [0, 1, 2] 1 [] Try.f17 = some a_s_IsStand := by kernel_rfl
theorem ok_l_toStand : compileFn Try.prog [0, 1, 2, 3] 2 [] Try.f18 = some a_l_toStand := by kernel_rfl
theorem ok_i_IsStand : compileFn Try.prog [0, 1, 2] 1 [] Try.f19 = some a_i_IsStand := by kernel_rfl
theorem ok_s_RowPull : compileFn Try.prog [0, 1, 2, 3, 6] 1 [(3, [0, 1, 2, 3, 4, 5, 6, 7, 8, 9])] Try.f20 = some a_s_RowPull := by kernel_rfl
theorem ok_i_RowPull : compileFn Try.prog [0, 1, 2, 3, 6] 1 [(3, [0, 1, 2, 3, 4, 5, 6, 7, 8, 9])] Try.f21 = some a_i_RowPull := by kernel_rfl
theorem ok_s_NewConsole : compileFn Try.prog [0, 1, 2, 3, 6] 2 [] Try.f22 = some a_s_NewConsole := by kernel_rfl
theorem ok_i_NewConsole : compileFn Try.prog [0, 1, 2, 3, 6] 2 [] Try.f23 = some a_i_NewConsole := by kernel_rfl
theorem ok_l_eqConsole : compileFn Try.prog [0, 1, 2, 3, 4, 10, 16] 1 [] Try.f24 = some a_l_eqConsole := by kernel_rfl
theorem ok_l_markConsole : compileFn Try.prog [0, 1, 2, 4] 1 [] Try.f25 = some a_l_markConsole := by kernel_rfl
theorem ok_l_heldConsole : compileFn Try.prog [0, 1, 2, 4, 10] 1 [] Try.f26 = some a_l_heldConsole := by kernel_rfl
theorem ok_s_DoTask : compileFn Try.prog [0, 1, 2, 3, 4, 5, 8] 2 [] Try.f27 = some a_s_DoTask := by kernel_rfl
theorem ok_l_toTask : compileFn Try.prog [0, 1, 2, 3] 1 [] Try.f28 = some a_l_toTask := by kernel_rfl
theorem ok_i_DoTask : compileFn Try.prog [0, 1, 2, 3, 4, 5, 6, 7, 8, 9, 12, 31, 32, 47, 49, 67, 69, 81, 92, 106, 108, 136, 145] 2 [(4, [0, 1, 2, 3, 4, 5, 7, 8, 9, 10, 11, 12, 6, 13, 14, 15]), (7, [0, 1, 2, 3, 4, 5, 6, 9, 10, 11, 7, 8, 12, 13, 14]), (10, [0, 1, 2, 3, 4, 5, 6, 8, 9, 10, 7, 11, 12, 13, 14, 15, 16, 17, 18]), (13, [0, 1, 2, 3, 4, 5, 6, 7, 8, 9, 10, 11, 12]), (15, [0, 1, 2, 3, 4, 5, 6, 7, 8, 9, 10, 11]), (20, [0, 1, 2, 3, 4, 5, 6, 8, 9, 10, 7, 11, 12, 13, 14, 15, 16, 17, 18])] Try.f29 = some a_i_DoTask := by kernel_rfl
theorem ok_l_vBig : compileFn Try.prog [0, 2] 1 [] Try.f30 = some a_l_vBig := by kernel_rfl
theorem ok_s_DrawNewStand : compileFn Try.prog [0, 2, 3, 4, 5] 1 [] Try.f31 = some a_s_DrawNewStand := by kernel_rfl
theorem ok_s_DrawDoTask : compileFn Try.prog [0, 2, 3, 4, 5] 2 [(3, [0, 1, 2, 3, 4, 5])] Try.f32 = some a_s_DrawDoTask := by kernel_rfl
theorem ok_l_vCut : compileFn Try.prog [0, 1, 4, 8] 2 [] Try.f33 = some a_l_vCut := by kernel_rfl
theorem ok_s_DrawDoTasks : compileFn Try.prog [0, 2, 3, 4, 5, 6, 7, 8, 9, 10, 11, 26, 42] 2 [] Try.f34 = some a_s_DrawDoTasks := by kernel_rfl
theorem ok_i_DoTasks : compileFn Try.prog [0, 1, 2, 4, 5, 6, 7, 8, 9, 10, 11, 14, 18, 19, 20, 21, 32] 2 [] Try.f35 = some a_i_DoTasks := by kernel_rfl
theorem ok_s_DoTasks : compileFn Try.prog [0, 1, 2, 4, 5, 6, 7, 8, 9, 10, 13, 20, 33] 2 [(7, [0, 1, 2, 3, 4, 5, 6, 7, 8, 9, 10, 11])] Try.f36 = some a_s_DoTasks := by kernel_rfl
theorem ok_l_vStand : compileFn Try.prog [0, 1, 2, 3, 4] 1 [] Try.f37 = some a_l_vStand := by kernel_rfl
theorem ok_i_TipSide : compileFn Try.prog [0, 1, 2, 6, 7, 16] 1 [] Try.f38 = some a_i_TipSide := by kernel_rfl
theorem ok_l_vRow : compileFn Try.prog [0, 1, 4, 5, 10, 14, 25] 1 [(6, [0, 1, 2, 3, 4, 5, 6, 7, 8])] Try.f39 = some a_l_vRow := by kernel_rfl
theorem ok_l_vChain : compileFn Try.prog [0, 1, 4, 5, 10, 14, 25] 1 [(6, [0, 1, 2, 3, 4, 5, 6, 7, 8])] Try.f40 = some a_l_vChain := by kernel_rfl
theorem ok_s_DrawRowPull : compileFn Try.prog [0, 2] 2 [] Try.f41 = some a_s_DrawRowPull := by kernel_rfl
theorem ok_i_WeightOf : compileFn Try.prog [0, 2, 3, 6] 1 [] Try.f42 = some a_i_WeightOf := by kernel_rfl
theorem ok_i_LeastPull : compileFn Try.prog [0, 1, 4, 5, 6, 7, 15] 1 [] Try.f43 = some a_i_LeastPull := by kernel_rfl
theorem ok_i_ChainGain : compileFn Try.prog [0, 2, 3, 6] 1 [] Try.f44 = some a_i_ChainGain := by kernel_rfl
theorem ok_l_szTaskS : compileFn Try.prog [0, 1, 4, 10] 1 [] Try.f45 = some a_l_szTaskS := by kernel_rfl
theorem ok_l_toTaskS : compileFn Try.prog [0, 2, 3, 4, 11] 2 [] Try.f46 = some a_l_toTaskS := by kernel_rfl
theorem ok_l_eqTaskS : compileFn Try.prog [0, 1, 4, 5, 10, 14, 26] 1 [(6, [0, 1, 2, 3, 4, 5, 6, 7, 8, 9])] Try.f47 = some a_l_eqTaskS := by kernel_rfl
theorem ok_l_markTaskS : compileFn Try.prog [0, 1, 4, 5, 9] 1 [] Try.f48 = some a_l_markTaskS := by kernel_rfl
theorem ok_s_l2Base : compileFn Try.prog [0, 1, 4] 1 [] Try.f49 = some a_s_l2Base := by kernel_rfl
theorem ok_s_l12Own : compileFn Try.prog [0, 1, 2, 3] 2 [] Try.f50 = some a_s_l12Own := by kernel_rfl
theorem ok_l_eqLoadS : compileFn Try.prog [0, 1, 4, 5, 10, 14, 26] 1 [(6, [0, 1, 2, 3, 4, 5, 6, 7, 8, 9])] Try.f51 = some a_l_eqLoadS := by kernel_rfl
theorem ok_l_eqStageS : compileFn Try.prog [0, 1, 4, 5, 10, 14, 26] 1 [(6, [0, 1, 2, 3, 4, 5, 6, 7, 8, 9])] Try.f52 = some a_l_eqStageS := by kernel_rfl
theorem ok_l_markLoadS : compileFn Try.prog [0, 1, 4, 5, 9] 1 [] Try.f53 = some a_l_markLoadS := by kernel_rfl
theorem ok_l_markStageS : compileFn Try.prog [0, 1, 4, 5, 9] 1 [] Try.f54 = some a_l_markStageS := by kernel_rfl
theorem ok_l_heldLoadS : compileFn Try.prog [0, 1, 4, 5, 9, 18, 27] 1 [] Try.f55 = some a_l_heldLoadS := by kernel_rfl
theorem ok_l_heldStageS : compileFn Try.prog [0, 1, 4, 5, 9, 18, 27, 36] 1 [] Try.f56 = some a_l_heldStageS := by kernel_rfl
theorem ok_l_szLoadS : compileFn Try.prog [0, 1, 4, 10] 1 [] Try.f57 = some a_l_szLoadS := by kernel_rfl
theorem ok_l_szStageS : compileFn Try.prog [0, 1, 4, 10] 1 [] Try.f58 = some a_l_szStageS := by kernel_rfl
theorem ok_s_l12Good : compileFn Try.prog [0, 1, 2, 16] 1 [] Try.f59 = some a_s_l12Good := by kernel_rfl
theorem ok_l_toLoadS : compileFn Try.prog [0, 2, 3, 4, 11] 2 [] Try.f60 = some a_l_toLoadS := by kernel_rfl
theorem ok_l_toStageS : compileFn Try.prog [0, 2, 3, 4, 11] 2 [] Try.f61 = some a_l_toStageS := by kernel_rfl
theorem ok_i_IsRow : compileFn Try.prog [0, 2, 5] 1 [] Try.f62 = some a_i_IsRow := by kernel_rfl
theorem ok_i_isBase : compileFn Try.prog [0, 1, 4] 1 [] Try.f63 = some a_i_isBase := by kernel_rfl
theorem ok_i_isChain : compileFn Try.prog [0, 2, 4, 5, 6, 7, 8, 13] 1 [] Try.f64 = some a_i_isChain := by kernel_rfl
theorem ok_i_within : compileFn Try.prog [0, 1, 2, 6] 1 [] Try.f65 = some a_i_within := by kernel_rfl
theorem ok_s_LeastPull : compileFn Try.prog [0, 1, 4, 5, 6, 10] 1 [] Try.f66 = some a_s_LeastPull := by kernel_rfl
theorem ok_s_l2Weight : compileFn Try.prog [0, 2, 3, 4, 8] 1 [] Try.f67 = some a_s_l2Weight := by kernel_rfl
theorem ok_i_weightOf : compileFn Try.prog [0, 2, 3, 5, 6, 7, 8, 9] 1 [] Try.f68 = some a_i_weightOf := by kernel_rfl
theorem ok_i_copyStand : compileFn Try.prog [0, 1, 2] 2 [(1, [0, 1, 3, 4, 2, 6, 5, 7, 8, 9])] Try.f69 = some a_i_copyStand := by kernel_rfl
theorem ok_l_eqLog : compileFn Try.prog [0, 1, 2, 3, 4, 9, 14, 19] 1 [] Try.f70 = some a_l_eqLog := by kernel_rfl
theorem ok_s_l12Do : compileFn Try.prog [0, 1, 2, 3, 4, 5, 6, 10, 21, 30] 2 [] Try.f71 = some a_s_l12Do := by kernel_rfl
theorem ok_i_tipSide : compileFn Try.prog [0, 1, 2, 6, 7, 12] 1 [] Try.f74 = some a_i_tipSide := by kernel_rfl
theorem ok_s_l1Cur_placeIn : compileFn Try.prog [0, 2, 4] 1 [] Try.f75 = some a_s_l1Cur_placeIn := by kernel_rfl
theorem ok_s_l1Cur_stand : compileFn Try.prog [0, 2, 3, 4, 5, 6, 7, 8, 28, 39, 42, 43, 49, 58, 64] 2 [(6, [0, 1, 2, 3, 4, 5, 6, 7, 8, 9, 10])] Try.f76 = some a_s_l1Cur_stand := by kernel_rfl
theorem ok_s_l1Cur_task12 : compileFn Try.prog [0, 1, 3, 4, 5, 6, 7, 18, 19, 29, 35, 45, 57, 70, 81, 82, 88, 94, 100] 1 [(14, [0, 1, 2, 3, 4, 5, 6])] Try.f77 = some a_s_l1Cur_task12 := by kernel_rfl
theorem ok_s_l1Cur_pick : compileFn Try.prog [0, 1, 4, 5, 7, 11] 1 [] Try.f78 = some a_s_l1Cur_pick := by kernel_rfl
theorem ok_s_DrawIsStand : compileFn Try.prog [0, 2, 3] 2 [] Try.f79 = some a_s_DrawIsStand := by kernel_rfl
theorem ok_i_PullFor : compileFn Try.prog [0, 1, 4, 5, 6, 14] 1 [] Try.f80 = some a_i_PullFor := by kernel_rfl
theorem ok_i_chainGain : compileFn Try.prog [0, 2, 3, 5, 6, 8, 9, 10, 11] 1 [] Try.f81 = some a_i_chainGain := by kernel_rfl
theorem ok_l_eqTask : compileFn Try.prog [0, 1, 2, 3, 4, 9, 14, 19, 24] 1 [] Try.f82 = some a_l_eqTask := by kernel_rfl
theorem ok_s_l2In : compileFn Try.prog [0, 2] 1 [] Try.f83 = some a_s_l2In := by kernel_rfl
theorem ok_l_eqLoad : compileFn Try.prog [0, 1, 2, 3, 4, 9, 14] 1 [] Try.f84 = some a_l_eqLoad := by kernel_rfl
theorem ok_l_eqStage : compileFn Try.prog [0, 1, 2, 3, 4, 9, 14, 19] 1 [] Try.f85 = some a_l_eqStage := by kernel_rfl
theorem ok_s_l2On : compileFn Try.prog [0, 1, 2, 6] 1 [] Try.f86 = some a_s_l2On := by kernel_rfl
theorem ok_s_l7Stages : compileFn Try.prog [0, 1, 4, 5, 9, 17] 1 [] Try.f87 = some a_s_l7Stages := by kernel_rfl
theorem ok_s_l1In : compileFn Try.prog [0, 1, 2, 6] 1 [] Try.f88 = some a_s_l1In := by kernel_rfl
theorem ok_l_toLoad : compileFn Try.prog [0, 1, 2, 3] 1 [] Try.f89 = some a_l_toLoad := by kernel_rfl
theorem ok_l_toStage : compileFn Try.prog [0, 1, 2, 3] 1 [] Try.f90 = some a_l_toStage := by kernel_rfl
theorem ok_slices_ContainsFunc_Si_Load_i_Load : compileFn Try.prog [0, 1, 4] 1 [] Try.f91 = some a_slices_ContainsFunc_Si_Load_i_Load := by kernel_rfl
theorem ok_i_IsRow_1 : compileFn Try.prog [0, 1, 2] 1 [] Try.f92 = some a_i_IsRow_1 := by kernel_rfl
theorem ok_i_isPlace : compileFn Try.prog [0, 2] 1 [] Try.f93 = some a_i_isPlace := by kernel_rfl
theorem ok_i_isWeight : compileFn Try.prog [0, 2] 1 [] Try.f94 = some a_i_isWeight := by kernel_rfl
theorem ok_i_IsStage : compileFn Try.prog [0, 1, 2, 4, 5, 16, 26, 43] 1 [] Try.f95 = some a_i_IsStage := by kernel_rfl
theorem ok_s_l7Ask : compileFn Try.prog [0, 1, 4] 1 [] Try.f96 = some a_s_l7Ask := by kernel_rfl
theorem ok_s_l7Chain : compileFn Try.prog [0, 2, 3, 4, 5, 10] 1 [] Try.f97 = some a_s_l7Chain := by kernel_rfl
theorem ok_slices_Clone_Si_Load_i_Load : compileFn Try.prog [0, 2, 4] 2 [] Try.f98 = some a_slices_Clone_Si_Load_i_Load := by kernel_rfl
theorem ok_slices_Clone_Si_Stage_i_Stage : compileFn Try.prog [0, 2, 4] 2 [] Try.f99 = some a_slices_Clone_Si_Stage_i_Stage := by kernel_rfl
theorem ok_s_l12May : compileFn Try.prog [0, 1, 2, 3, 4, 6, 7, 13, 32, 46] 1 [] Try.f100 = some a_s_l12May := by kernel_rfl
theorem ok_s_l12Make : compileFn Try.prog [0, 1, 2, 3, 4, 5, 9, 10, 22, 37, 47, 55, 69] 2 [(6, [0, 1, 2, 3, 4, 5, 6, 7, 8, 9, 10, 11, 12, 13]), (15, [0, 1, 2, 3, 4, 5, 6, 7, 8, 9, 10, 11, 12, 13])] Try.f101 = some a_s_l12Make := by kernel_rfl
theorem ok_s_l2Side : compileFn Try.prog [0, 1, 2, 6, 10, 14] 1 [] Try.f102 = some a_s_l2Side := by kernel_rfl
theorem ok_i_momentAbout : compileFn Try.prog [0, 1, 4, 5, 7, 8, 9, 10, 11] 1 [] Try.f103 = some a_i_momentAbout := by kernel_rfl
theorem ok_s_l1Cur_one : compileFn Try.prog [0, 1, 4] 1 [] Try.f104 = some a_s_l1Cur_one := by kernel_rfl
theorem ok_s_l1Cur_among : compileFn Try.prog [0, 1, 4] 1 [] Try.f105 = some a_s_l1Cur_among := by kernel_rfl
theorem ok_s_l1Most : compileFn Try.prog [0, 1, 4, 7] 1 [] Try.f106 = some a_s_l1Most := by kernel_rfl
theorem ok_s_l1Least : compileFn Try.prog [0, 1, 4, 7] 1 [] Try.f107 = some a_s_l1Least := by kernel_rfl
theorem ok_s_l1Cur_stage7 : compileFn Try.prog [0, 2, 3, 15, 16, 19, 27, 36, 37, 43, 49] 1 [] Try.f108 = some a_s_l1Cur_stage7 := by kernel_rfl
theorem ok_s_l1Cur_next : compileFn Try.prog [0, 2, 3, 13, 53] 1 [(2, [0, 1, 2, 3, 4, 5, 6, 7, 8, 9]), (3, [0, 1, 2, 3, 4, 5, 6, 7, 8, 9, 10, 11]), (6, [0, 1, 2, 3, 4, 5, 6, 7, 8, 9])] Try.f109 = some a_s_l1Cur_next := by kernel_rfl
theorem ok_i_isHaul : compileFn Try.prog [0, 2] 1 [] Try.f110 = some a_i_isHaul := by kernel_rfl
theorem ok_i_fraction : compileFn Try.prog [0, 1, 4, 5] 1 [(2, [0, 1, 2, 3, 4, 5, 6, 7])] Try.f111 = some a_i_fraction := by kernel_rfl
theorem ok_i_stageGain : compileFn Try.prog [0, 1, 2, 4, 5, 10] 1 [] Try.f112 = some a_i_stageGain := by kernel_rfl
theorem ok_s_l2Row : compileFn Try.prog [0, 2, 3, 11, 29] 1 [] Try.f113 = some a_s_l2Row := by kernel_rfl
theorem ok_s_l7Stage : compileFn Try.prog [0, 1, 2, 4, 5, 13, 23, 37] 1 [] Try.f114 = some a_s_l7Stage := by kernel_rfl
theorem ok_slices_IndexFunc_Si_Load_i_Load : compileFn Try.prog [0, 1, 4, 5, 7, 8, 9, 16] 1 [] Try.f115 = some a_slices_IndexFunc_Si_Load_i_Load := by kernel_rfl
theorem ok_i_isRatio : compileFn Try.prog [0, 2] 1 [] Try.f116 = some a_i_isRatio := by kernel_rfl
theorem ok_s_l7Gain : compileFn Try.prog [0, 1, 2, 4, 5, 10] 1 [] Try.f117 = some a_s_l7Gain := by kernel_rfl
theorem ok_s_l2Cut : compileFn Try.prog [0, 1, 4, 5] 1 [(2, [0, 1, 2, 3, 4, 5, 6, 7])] Try.f118 = some a_s_l2Cut := by kernel_rfl
theorem ok_s_l2Moment : compileFn Try.prog [0, 1, 4, 5, 6, 10] 1 [(5, [0, 1, 2, 3, 4, 5, 6, 7, 8, 9, 10, 11, 12, 13, 14, 15])] Try.f119 = some a_s_l2Moment := by kernel_rfl
theorem ok_i_divisor : compileFn Try.prog [0, 1, 4, 6] 1 [(2, [0, 1, 2, 3, 4, 5])] Try.f120 = some a_i_divisor := by kernel_rfl
theorem ok_s_l7Two : compileFn Try.prog [0, 1, 4] 1 [] Try.f121 = some a_s_l7Two := by kernel_rfl
theorem ok_s_l2Gcd : compileFn Try.prog [0, 1, 4, 6] 1 [(2, [0, 1, 2, 3, 4, 5])] Try.f122 = some a_s_l2Gcd := by kernel_rfl
theorem tabOk : TableOk Try.prog T := tableOk_of (by
  unfold tab
  exact allCons ⟨_, _, _, _, Try.func2, ok_gosem_cut_init⟩ <|
    allCons ⟨_, _, _, _, Try.func3, ok_l_FnExactNewStand⟩ <|
    allCons ⟨_, _, _, _, Try.func4, ok_l_FnExactIsStand⟩ <|
    allCons ⟨_, _, _, _, Try.func5, ok_l_FnExactRowPull⟩ <|
    allCons ⟨_, _, _, _, Try.func6, ok_l_FnExactNewConsole⟩ <|
    allCons ⟨_, _, _, _, Try.func7, ok_l_FnExactDoTask⟩ <|
    allCons ⟨_, _, _, _, Try.func8, ok_l_FnStands⟩ <|
    allCons ⟨_, _, _, _, Try.func9, ok_l_FnRowPulls⟩ <|
    allCons ⟨_, _, _, _, Try.func10, ok_l_FnExactDoTasks⟩ <|
    allCons ⟨_, _, _, _, Try.func11, ok_s_NewStand⟩ <|
    allCons ⟨_, _, _, _, Try.func12, ok_i_NewStand⟩ <|
    allCons ⟨_, _, _, _, Try.func13, ok_l_eqStand⟩ <|
    allCons ⟨_, _, _, _, Try.func14, ok_l_markStand⟩ <|
    allCons ⟨_, _, _, _, Try.func15, ok_l_heldStand⟩ <|
    allCons ⟨_, _, _, _, Try.func16, ok_l_szStand⟩ <|
    allCons ⟨_, _, _, _, Try.func17, ok_s_IsStand⟩ <|
    allCons ⟨_, _, _, _, Try.func18, ok_l_toStand⟩ <|
    allCons ⟨_, _, _, _, Try.func19, ok_i_IsStand⟩ <|
    allCons ⟨_, _, _, _, Try.func20, ok_s_RowPull⟩ <|
    allCons ⟨_, _, _, _, Try.func21, ok_i_RowPull⟩ <|
    allCons ⟨_, _, _, _, Try.func22, ok_s_NewConsole⟩ <|
    allCons ⟨_, _, _, _, Try.func23, ok_i_NewConsole⟩ <|
    allCons ⟨_, _, _, _, Try.func24, ok_l_eqConsole⟩ <|
    allCons ⟨_, _, _, _, Try.func25, ok_l_markConsole⟩ <|
    allCons ⟨_, _, _, _, Try.func26, ok_l_heldConsole⟩ <|
    allCons ⟨_, _, _, _, Try.func27, ok_s_DoTask⟩ <|
    allCons ⟨_, _, _, _, Try.func28, ok_l_toTask⟩ <|
    allCons ⟨_, _, _, _, Try.func29, ok_i_DoTask⟩ <|
    allCons ⟨_, _, _, _, Try.func30, ok_l_vBig⟩ <|
    allCons ⟨_, _, _, _, Try.func31, ok_s_DrawNewStand⟩ <|
    allCons ⟨_, _, _, _, Try.func32, ok_s_DrawDoTask⟩ <|
    allCons ⟨_, _, _, _, Try.func33, ok_l_vCut⟩ <|
    allCons ⟨_, _, _, _, Try.func34, ok_s_DrawDoTasks⟩ <|
    allCons ⟨_, _, _, _, Try.func35, ok_i_DoTasks⟩ <|
    allCons ⟨_, _, _, _, Try.func36, ok_s_DoTasks⟩ <|
    allCons ⟨_, _, _, _, Try.func37, ok_l_vStand⟩ <|
    allCons ⟨_, _, _, _, Try.func38, ok_i_TipSide⟩ <|
    allCons ⟨_, _, _, _, Try.func39, ok_l_vRow⟩ <|
    allCons ⟨_, _, _, _, Try.func40, ok_l_vChain⟩ <|
    allCons ⟨_, _, _, _, Try.func41, ok_s_DrawRowPull⟩ <|
    allCons ⟨_, _, _, _, Try.func42, ok_i_WeightOf⟩ <|
    allCons ⟨_, _, _, _, Try.func43, ok_i_LeastPull⟩ <|
    allCons ⟨_, _, _, _, Try.func44, ok_i_ChainGain⟩ <|
    allCons ⟨_, _, _, _, Try.func45, ok_l_szTaskS⟩ <|
    allCons ⟨_, _, _, _, Try.func46, ok_l_toTaskS⟩ <|
    allCons ⟨_, _, _, _, Try.func47, ok_l_eqTaskS⟩ <|
    allCons ⟨_, _, _, _, Try.func48, ok_l_markTaskS⟩ <|
    allCons ⟨_, _, _, _, Try.func49, ok_s_l2Base⟩ <|
    allCons ⟨_, _, _, _, Try.func50, ok_s_l12Own⟩ <|
    allCons ⟨_, _, _, _, Try.func51, ok_l_eqLoadS⟩ <|
    allCons ⟨_, _, _, _, Try.func52, ok_l_eqStageS⟩ <|
    allCons ⟨_, _, _, _, Try.func53, ok_l_markLoadS⟩ <|
    allCons ⟨_, _, _, _, Try.func54, ok_l_markStageS⟩ <|
    allCons ⟨_, _, _, _, Try.func55, ok_l_heldLoadS⟩ <|
    allCons ⟨_, _, _, _, Try.func56, ok_l_heldStageS⟩ <|
    allCons ⟨_, _, _, _, Try.func57, ok_l_szLoadS⟩ <|
    allCons ⟨_, _, _, _, Try.func58, ok_l_szStageS⟩ <|
    allCons ⟨_, _, _, _, Try.func59, ok_s_l12Good⟩ <|
    allCons ⟨_, _, _, _, Try.func60, ok_l_toLoadS⟩ <|
    allCons ⟨_, _, _, _, Try.func61, ok_l_toStageS⟩ <|
    allCons ⟨_, _, _, _, Try.func62, ok_i_IsRow⟩ <|
    allCons ⟨_, _, _, _, Try.func63, ok_i_isBase⟩ <|
    allCons ⟨_, _, _, _, Try.func64, ok_i_isChain⟩ <|
    allCons ⟨_, _, _, _, Try.func65, ok_i_within⟩ <|
    allCons ⟨_, _, _, _, Try.func66, ok_s_LeastPull⟩ <|
    allCons ⟨_, _, _, _, Try.func67, ok_s_l2Weight⟩ <|
    allCons ⟨_, _, _, _, Try.func68, ok_i_weightOf⟩ <|
    allCons ⟨_, _, _, _, Try.func69, ok_i_copyStand⟩ <|
    allCons ⟨_, _, _, _, Try.func70, ok_l_eqLog⟩ <|
    allCons ⟨_, _, _, _, Try.func71, ok_s_l12Do⟩ <|
    allCons ⟨_, _, _, _, Try.func74, ok_i_tipSide⟩ <|
    allCons ⟨_, _, _, _, Try.func75, ok_s_l1Cur_placeIn⟩ <|
    allCons ⟨_, _, _, _, Try.func76, ok_s_l1Cur_stand⟩ <|
    allCons ⟨_, _, _, _, Try.func77, ok_s_l1Cur_task12⟩ <|
    allCons ⟨_, _, _, _, Try.func78, ok_s_l1Cur_pick⟩ <|
    allCons ⟨_, _, _, _, Try.func79, ok_s_DrawIsStand⟩ <|
    allCons ⟨_, _, _, _, Try.func80, ok_i_PullFor⟩ <|
    allCons ⟨_, _, _, _, Try.func81, ok_i_chainGain⟩ <|
    allCons ⟨_, _, _, _, Try.func82, ok_l_eqTask⟩ <|
    allCons ⟨_, _, _, _, Try.func83, ok_s_l2In⟩ <|
    allCons ⟨_, _, _, _, Try.func84, ok_l_eqLoad⟩ <|
    allCons ⟨_, _, _, _, Try.func85, ok_l_eqStage⟩ <|
    allCons ⟨_, _, _, _, Try.func86, ok_s_l2On⟩ <|
    allCons ⟨_, _, _, _, Try.func87, ok_s_l7Stages⟩ <|
    allCons ⟨_, _, _, _, Try.func88, ok_s_l1In⟩ <|
    allCons ⟨_, _, _, _, Try.func89, ok_l_toLoad⟩ <|
    allCons ⟨_, _, _, _, Try.func90, ok_l_toStage⟩ <|
    allCons ⟨_, _, _, _, Try.func91, ok_slices_ContainsFunc_Si_Load_i_Load⟩ <|
    allCons ⟨_, _, _, _, Try.func92, ok_i_IsRow_1⟩ <|
    allCons ⟨_, _, _, _, Try.func93, ok_i_isPlace⟩ <|
    allCons ⟨_, _, _, _, Try.func94, ok_i_isWeight⟩ <|
    allCons ⟨_, _, _, _, Try.func95, ok_i_IsStage⟩ <|
    allCons ⟨_, _, _, _, Try.func96, ok_s_l7Ask⟩ <|
    allCons ⟨_, _, _, _, Try.func97, ok_s_l7Chain⟩ <|
    allCons ⟨_, _, _, _, Try.func98, ok_slices_Clone_Si_Load_i_Load⟩ <|
    allCons ⟨_, _, _, _, Try.func99, ok_slices_Clone_Si_Stage_i_Stage⟩ <|
    allCons ⟨_, _, _, _, Try.func100, ok_s_l12May⟩ <|
    allCons ⟨_, _, _, _, Try.func101, ok_s_l12Make⟩ <|
    allCons ⟨_, _, _, _, Try.func102, ok_s_l2Side⟩ <|
    allCons ⟨_, _, _, _, Try.func103, ok_i_momentAbout⟩ <|
    allCons ⟨_, _, _, _, Try.func104, ok_s_l1Cur_one⟩ <|
    allCons ⟨_, _, _, _, Try.func105, ok_s_l1Cur_among⟩ <|
    allCons ⟨_, _, _, _, Try.func106, ok_s_l1Most⟩ <|
    allCons ⟨_, _, _, _, Try.func107, ok_s_l1Least⟩ <|
    allCons ⟨_, _, _, _, Try.func108, ok_s_l1Cur_stage7⟩ <|
    allCons ⟨_, _, _, _, Try.func109, ok_s_l1Cur_next⟩ <|
    allCons ⟨_, _, _, _, Try.func110, ok_i_isHaul⟩ <|
    allCons ⟨_, _, _, _, Try.func111, ok_i_fraction⟩ <|
    allCons ⟨_, _, _, _, Try.func112, ok_i_stageGain⟩ <|
    allCons ⟨_, _, _, _, Try.func113, ok_s_l2Row⟩ <|
    allCons ⟨_, _, _, _, Try.func114, ok_s_l7Stage⟩ <|
    allCons ⟨_, _, _, _, Try.func115, ok_slices_IndexFunc_Si_Load_i_Load⟩ <|
    allCons ⟨_, _, _, _, Try.func116, ok_i_isRatio⟩ <|
    allCons ⟨_, _, _, _, Try.func117, ok_s_l7Gain⟩ <|
    allCons ⟨_, _, _, _, Try.func118, ok_s_l2Cut⟩ <|
    allCons ⟨_, _, _, _, Try.func119, ok_s_l2Moment⟩ <|
    allCons ⟨_, _, _, _, Try.func120, ok_i_divisor⟩ <|
    allCons ⟨_, _, _, _, Try.func121, ok_s_l7Two⟩ <|
    allCons ⟨_, _, _, _, Try.func122, ok_s_l2Gcd⟩ <|
    allNil)
end Go.Proofs.Ytlocjmbfcdfjfaa.Slim
