/- The slim functions are the program's. -/
import Derived.Test.YtlocjmbfcdfjfaaSlimZ8
import Derived.Test.YtlocjmbfcdfjfaaChecked
/- The slim functions are the program's. -/
namespace Go.Proofs.Ytlocjmbfcdfjfaa.Slim
open Go
theorem ok_gosem_cut_init : compileFn Try.prog [] 1 [] Try.f2 = some a_gosem_cut_init := by kernel_rfl
theorem ok_l_FnExactNewStand : compileFn Try.prog [0, 1, 4, 5, 6, 7, 8, 9, 10, 11, 12, 33, 41, 44, 59, 64, 67] 1 [] Try.f3 = some a_l_FnExactNewStand := by kernel_rfl
theorem ok_l_FnExactIsStand : compileFn Try.prog [0, 1, 2, 3, 4, 5, 6, 11, 21, 26] 1 [(10, [0, 1, 2, 3, 4])] Try.f4 = some a_l_FnExactIsStand := by kernel_rfl
theorem ok_l_FnExactRowPull : compileFn Try.prog [0, 1, 2, 3, 4, 5, 6, 7, 8, 13, 34, 39] 1 [(10, [0, 1, 2, 3, 4])] Try.f5 = some a_l_FnExactRowPull := by kernel_rfl
theorem ok_l_FnExactNewConsole : compileFn Try.prog [0, 1, 2, 3, 4, 5, 6, 7, 8, 9, 10, 11, 12, 13, 18, 40, 45, 61, 69, 72, 87, 92, 95] 1 [(10, [0, 1, 2, 3, 4])] Try.f6 = some a_l_FnExactNewConsole := by kernel_rfl
theorem ok_l_FnExactDoTask : compileFn Try.prog [0, 1, 2, 3, 4, 5, 6, 7, 8, 9, 10, 11, 12, 13, 14, 15, 20, 46, 51, 67, 75, 78, 95, 100, 103] 1 [(5, [0, 2, 1, 3, 4, 5, 6, 7, 8, 9, 10]), (7, [0, 1, 2, 3, 4, 5, 6, 7, 8, 9]), (10, [0, 1, 2, 3, 4]), (24, [0, 2, 1, 3, 4, 5, 6, 7, 8, 9, 10])] Try.f7 = some a_l_FnExactDoTask := by kernel_rfl
theorem ok_l_FnStands : compileFn Try.prog [0, 2, 3, 4, 5, 6, 7, 8, 9, 10, 11, 12, 13, 14, 15, 16, 17, 18, 19, 20, 21, 22, 23, 24, 25, 26, 27, 28, 30, 128, 134, 136, 150, 173, 186, 193] 1 [(12, [0, 1, 2, 3, 4, 5, 6, 7, 8, 9, 10, 11, 12, 13, 14, 15, 16, 17, 18, 19, 20, 21, 22, 23, 24, 25, 26, 27, 28, 29, 30, 31, 32, 33, 34, 35, 36, 37, 39, 38, 40, 41, 42])] Try.f8 = some a_l_FnStands := by kernel_rfl
theorem ok_l_FnRowPulls : compileFn Try.prog [0, 2, 3, 4, 5, 6, 7, 8, 9, 10, 11, 12, 13, 14, 15, 16, 17, 19, 39, 41, 89, 97] 1 [] Try.f9 = some a_l_FnRowPulls := by kernel_rfl
theorem ok_l_FnExactDoTasks : compileFn Try.prog [0, 1, 2, 4, 5, 6, 7, 8, 9, 10, 11, 12, 13, 14, 15, 16, 17, 18, 19, 24, 29, 63, 68, 73, 97, 105, 108, 131, 136, 139] 1 [(14, [0, 1, 2, 3, 4])] Try.f10 = some a_l_FnExactDoTasks := by kernel_rfl
theorem ok_s_NewStand : compileFn Try.prog [0, 1, 4, 5, 9] 2 [] Try.f11 = some a_s_NewStand := by kernel_rfl
theorem ok_i_NewStand : compileFn Try.prog [0, 1, 4, 5, 6, 12] 2 [] Try.f12 = some a_i_NewStand := by kernel_rfl
theorem ok_l_eqStand : compileFn Try.prog [0, 1, 2, 3, 4, 10, 15, 20, 26, 31, 36] 1 [] Try.f13 = some a_l_eqStand := by kernel_rfl
theorem ok_l_markStand : compileFn Try.prog [0, 1, 2, 4] 1 [] Try.f14 = some a_l_markStand := by kernel_rfl
theorem ok_l_heldStand : compileFn Try.prog [0, 1, 2, 4, 10, 16] 1 [] Try.f15 = some a_l_heldStand := by kernel_rfl
theorem ok_l_szStand : compileFn Try.prog [0, 1, 2, 4, 10, 16] 1 [] Try.f16 = some a_l_szStand := by kernel_rfl
theorem ok_s_IsStand : compileFn Try.prog [0, 1, 2] 1 [] Try.f17 = some a_s_IsStand := by kernel_rfl
theorem ok_l_toStand : compileFn Try.prog [0, 1, 2, 3] 2 [] Try.f18 = some a_l_toStand := by kernel_rfl
theorem ok_i_IsStand : compileFn Try.prog [0, 1, 2] 1 [] Try.f19 = some a_i_IsStand := by kernel_rfl
theorem ok_s_RowPull : compileFn Try.prog [0, 1, 2, 3, 6] 1 [(3, [0, 1, 2, 3, 4, 5, 6, 7, 8, 9])] Try.f20 = some a_s_RowPull := by kernel_rfl
theorem ok_i_RowPull : compileFn Try.prog [0, 1, 2, 3, 6] 1 [(3, [0, 1, 2, 3, 4, 5, 6, 7, 8, 9])] Try.f21 = some a_i_RowPull := by kernel_rfl
theorem ok_s_NewConsole : compileFn Try.prog [0, 1, 2, 3, 6] 2 [] Try.f22 = some a_s_NewConsole := by kernel_rfl
theorem ok_i_NewConsole : compileFn Try.prog [0, 1, 2, 3, 6] 2 [] Try.f23 = some a_i_NewConsole := by kernel_rfl
theorem ok_l_eqConsole : compileFn Try.prog [0, 1, 2, 3, 4, 10, 16] 1 [] Try.f24 = some a_l_eqConsole := by kernel_rfl
theorem ok_l_markConsole : compileFn Try.prog [0, 1, 2, 4] 1 [] Try.f25 = some a_l_markConsole := by kernel_rfl
theorem ok_l_heldConsole : compileFn Try.prog [0, 1, 2, 4, 10] 1 [] Try.f26 = some a_l_heldConsole := by kernel_rfl
theorem ok_s_DoTask : compileFn Try.prog [0, 1, 2, 3, 4, 5, 8] 2 [] Try.f27 = some a_s_DoTask := by kernel_rfl
theorem ok_l_toTask : compileFn Try.prog [0, 1, 2, 3] 1 [] Try.f28 = some a_l_toTask := by kernel_rfl
theorem ok_i_DoTask : compileFn Try.prog [0, 1, 2, 3, 4, 5, 6, 7, 8, 9, 12, 31, 32, 47, 49, 67, 69, 81, 92, 106, 108, 136, 145] 2 [(4, [0, 1, 2, 3, 4, 5, 7, 8, 9, 10, 11, 12, 6, 13, 14, 15]), (7, [0, 1, 2, 3, 4, 5, 6, 9, 10, 11, 7, 8, 12, 13, 14]), (10, [0, 1, 2, 3, 4, 5, 6, 8, 9, 10, 7, 11, 12, 13, 14, 15, 16, 17, 18]), (13, [0, 1, 2, 3, 4, 5, 6, 7, 8, 9, 10, 11, 12]), (15, [0, 1, 2, 3, 4, 5, 6, 7, 8, 9, 10, 11]), (20, [0, 1, 2, 3, 4, 5, 6, 8, 9, 10, 7, 11, 12, 13, 14, 15, 16, 17, 18])] Try.f29 = some a_i_DoTask := by kernel_rfl
theorem ok_l_vBig : compileFn Try.prog [0, 2] 1 [] Try.f30 = some a_l_vBig := by kernel_rfl
theorem ok_s_DrawNewStand : compileFn Try.prog [0, 2, 3, 4, 5] 1 [] Try.f31 = some a_s_DrawNewStand := by kernel_rfl
theorem ok_s_DrawDoTask : compileFn Try.prog [0, 2, 3, 4, 5] 2 [(3, [0, 1, 2, 3, 4, 5])] Try.f32 = some a_s_DrawDoTask := by kernel_rfl
theorem ok_l_vCut : compileFn Try.prog [0, 1, 4, 8] 2 [] Try.f33 = some a_l_vCut := by kernel_rfl
theorem ok_s_DrawDoTasks : compileFn Try.prog [0, 2, 3, 4, 5, 6, 7, 8, 9, 10, 11, 26, 42] 2 [] Try.f34 = some a_s_DrawDoTasks := by kernel_rfl
theorem ok_i_DoTasks : compileFn Try.prog [0, 1, 2, 4, 5, 6, 7, 8, 9, 10, 11, 14, 18, 19, 20, 21, 32] 2 [] Try.f35 = some a_i_DoTasks := by kernel_rfl
theorem ok_s_DoTasks : compileFn Try.prog [0, 1, 2, 4, 5, 6, 7, 8, 9, 10, 13, 20, 33] 2 [(7, [0, 1, 2, 3, 4, 5, 6, 7, 8, 9, 10, 11])] Try.f36 = some a_s_DoTasks := by kernel_rfl
theorem ok_l_vStand : compileFn Try.prog [0, 1, 2, 3, 4] 1 [] Try.f37 = some a_l_vStand := by kernel_rfl
theorem ok_i_TipSide : compileFn Try.prog [0, 1, 2, 6, 7, 16] 1 [] Try.f38 = some a_i_TipSide := by kernel_rfl
theorem ok_l_vRow : compileFn Try.prog [0, 1, 4, 5, 10, 14, 25] 1 [(6, [0, 1, 2, 3, 4, 5, 6, 7, 8])] Try.f39 = some a_l_vRow := by kernel_rfl
theorem ok_l_vChain : compileFn Try.prog [0, 1, 4, 5, 10, 14, 25] 1 [(6, [0, 1, 2, 3, 4, 5, 6, 7, 8])] Try.f40 = some a_l_vChain := by kernel_rfl
theorem ok_s_DrawRowPull : compileFn Try.prog [0, 2] 2 [] Try.f41 = some a_s_DrawRowPull := by kernel_rfl
theorem ok_i_WeightOf : compileFn Try.prog [0, 2, 3, 6] 1 [] Try.f42 = some a_i_WeightOf := by kernel_rfl
theorem ok_i_LeastPull : compileFn Try.prog [0, 1, 4, 5, 6, 7, 15] 1 [] Try.f43 = some a_i_LeastPull := by kernel_rfl
theorem ok_i_ChainGain : compileFn Try.prog [0, 2, 3, 6] 1 [] Try.f44 = some a_i_ChainGain := by kernel_rfl
theorem ok_l_szTaskS : compileFn Try.prog [0, 1, 4, 10] 1 [] Try.f45 = some a_l_szTaskS := by kernel_rfl
theorem ok_l_toTaskS : compileFn Try.prog [0, 2, 3, 4, 11] 2 [] Try.f46 = some a_l_toTaskS := by kernel_rfl
theorem ok_l_eqTaskS : compileFn Try.prog [0, 1, 4, 5, 10, 14, 26] 1 [(6, [0, 1, 2, 3, 4, 5, 6, 7, 8, 9])] Try.f47 = some a_l_eqTaskS := by kernel_rfl
theorem ok_l_markTaskS : compileFn Try.prog [0, 1, 4, 5, 9] 1 [] Try.f48 = some a_l_markTaskS := by kernel_rfl
theorem ok_s_l2Base : compileFn Try.prog [0, 1, 4] 1 [] Try.f49 = some a_s_l2Base := by kernel_rfl
theorem ok_s_l12Own : compileFn Try.prog [0, 1, 2, 3] 2 [] Try.f50 = some a_s_l12Own := by kernel_rfl
theorem ok_l_eqLoadS : compileFn Try.prog [0, 1, 4, 5, 10, 14, 26] 1 [(6, [0, 1, 2, 3, 4, 5, 6, 7, 8, 9])] Try.f51 = some a_l_eqLoadS := by kernel_rfl
theorem ok_l_eqStageS : compileFn Try.prog [0, 1, 4, 5, 10, 14, 26] 1 [(6, [0, 1, 2, 3, 4, 5, 6, 7, 8, 9])] Try.f52 = some a_l_eqStageS := by kernel_rfl
theorem ok_l_markLoadS : compileFn Try.prog [0, 1, 4, 5, 9] 1 [] Try.f53 = some a_l_markLoadS := by kernel_rfl
theorem ok_l_markStageS : compileFn Try.prog [0, 1, 4, 5, 9] 1 [] Try.f54 = some a_l_markStageS := by kernel_rfl
theorem ok_l_heldLoadS : compileFn Try.prog [0, 1, 4, 5, 9, 18, 27] 1 [] Try.f55 = some a_l_heldLoadS := by kernel_rfl
theorem ok_l_heldStageS : compileFn Try.prog [0, 1, 4, 5, 9, 18, 27, 36] 1 [] Try.f56 = some a_l_heldStageS := by kernel_rfl
theorem ok_l_szLoadS : compileFn Try.prog [0, 1, 4, 10] 1 [] Try.f57 = some a_l_szLoadS := by kernel_rfl
theorem ok_l_szStageS : compileFn Try.prog [0, 1, 4, 10] 1 [] Try.f58 = some a_l_szStageS := by kernel_rfl
theorem ok_s_l12Good : compileFn Try.prog [0, 1, 2, 16] 1 [] Try.f59 = some a_s_l12Good := by kernel_rfl
theorem ok_l_toLoadS : compileFn Try.prog [0, 2, 3, 4, 11] 2 [] Try.f60 = some a_l_toLoadS := by kernel_rfl
theorem ok_l_toStageS : compileFn Try.prog [0, 2, 3, 4, 11] 2 [] Try.f61 = some a_l_toStageS := by kernel_rfl
theorem ok_i_IsRow : compileFn Try.prog [0, 2, 5] 1 [] Try.f62 = some a_i_IsRow := by kernel_rfl
theorem ok_i_isBase : compileFn Try.prog [0, 1, 4] 1 [] Try.f63 = some a_i_isBase := by kernel_rfl
theorem ok_i_isChain : compileFn Try.prog [0, 2, 4, 5, 6, 7, 8, 13] 1 [] Try.f64 = some a_i_isChain := by kernel_rfl
theorem ok_i_within : compileFn Try.prog [0, 1, 2, 6] 1 [] Try.f65 = some a_i_within := by kernel_rfl
theorem ok_s_LeastPull : compileFn Try.prog [0, 1, 4, 5, 6, 10] 1 [] Try.f66 = some a_s_LeastPull := by kernel_rfl
theorem ok_s_l2Weight : compileFn Try.prog [0, 2, 3, 4, 8] 1 [] Try.f67 = some a_s_l2Weight := by kernel_rfl
theorem ok_i_weightOf : compileFn Try.prog [0, 2, 3, 5, 6, 7, 8, 9] 1 [] Try.f68 = some a_i_weightOf := by kernel_rfl
theorem ok_i_copyStand : compileFn Try.prog [0, 1, 2] 2 [(1, [0, 1, 3, 4, 2, 6, 5, 7, 8, 9])] Try.f69 = some a_i_copyStand := by kernel_rfl
theorem ok_l_eqLog : compileFn Try.prog [0, 1, 2, 3, 4, 9, 14, 19] 1 [] Try.f70 = some a_l_eqLog := by kernel_rfl
theorem ok_s_l12Do : compileFn Try.prog [0, 1, 2, 3, 4, 5, 6, 10, 21, 30] 2 [] Try.f71 = some a_s_l12Do := by kernel_rfl
theorem ok_i_tipSide : compileFn Try.prog [0, 1, 2, 6, 7, 12] 1 [] Try.f74 = some a_i_tipSide := by kernel_rfl
theorem ok_s_l1Cur_placeIn : compileFn Try.prog [0, 2, 4] 1 [] Try.f75 = some a_s_l1Cur_placeIn := by kernel_rfl
theorem ok_s_l1Cur_stand : compileFn Try.prog [0, 2, 3, 4, 5, 6, 7, 8, 28, 39, 42, 43, 49, 58, 64] 2 [(6, [0, 1, 2, 3, 4, 5, 6, 7, 8, 9, 10])] Try.f76 = some a_s_l1Cur_stand := by kernel_rfl
theorem ok_s_l1Cur_task12 : compileFn Try.prog [0, 1, 3, 4, 5, 6, 7, 18, 19, 29, 35, 45, 57, 70, 81, 82, 88, 94, 100] 1 [(14, [0, 1, 2, 3, 4, 5, 6])] Try.f77 = some a_s_l1Cur_task12 := by kernel_rfl
theorem ok_s_l1Cur_pick : compileFn Try.prog [0, 1, 4, 5, 7, 11] 1 [] Try.f78 = some a_s_l1Cur_pick := by kernel_rfl
theorem ok_s_DrawIsStand : compileFn Try.prog [0, 2, 3] 2 [] Try.f79 = some a_s_DrawIsStand := by kernel_rfl
theorem ok_i_PullFor : compileFn Try.prog [0, 1, 4, 5, 6, 14] 1 [] Try.f80 = some a_i_PullFor := by kernel_rfl
theorem ok_i_chainGain : compileFn Try.prog [0, 2, 3, 5, 6, 8, 9, 10, 11] 1 [] Try.f81 = some a_i_chainGain := by kernel_rfl
theorem ok_l_eqTask : compileFn Try.prog [0, 1, 2, 3, 4, 9, 14, 19, 24] 1 [] Try.f82 = some a_l_eqTask := by kernel_rfl
theorem ok_s_l2In : compileFn Try.prog [0, 2] 1 [] Try.f83 = some a_s_l2In := by kernel_rfl
theorem ok_l_eqLoad : compileFn Try.prog [0, 1, 2, 3, 4, 9, 14] 1 [] Try.f84 = some a_l_eqLoad := by kernel_rfl
theorem ok_l_eqStage : compileFn Try.prog [0, 1, 2, 3, 4, 9, 14, 19] 1 [] Try.f85 = some a_l_eqStage := by kernel_rfl
theorem ok_s_l2On : compileFn Try.prog [0, 1, 2, 6] 1 [] Try.f86 = some a_s_l2On := by kernel_rfl
theorem ok_s_l7Stages : compileFn Try.prog [0, 1, 4, 5, 9, 17] 1 [] Try.f87 = some a_s_l7Stages := by kernel_rfl
theorem ok_s_l1In : compileFn Try.prog [0, 1, 2, 6] 1 [] Try.f88 = some a_s_l1In := by kernel_rfl
theorem ok_l_toLoad : compileFn Try.prog [0, 1, 2, 3] 1 [] Try.f89 = some a_l_toLoad := by kernel_rfl
theorem ok_l_toStage : compileFn Try.prog [0, 1, 2, 3] 1 [] Try.f90 = some a_l_toStage := by kernel_rfl
theorem ok_slices_ContainsFunc_Si_Load_i_Load : compileFn Try.prog [0, 1, 4] 1 [] Try.f91 = some a_slices_ContainsFunc_Si_Load_i_Load := by kernel_rfl
theorem ok_i_IsRow_1 : compileFn Try.prog [0, 1, 2] 1 [] Try.f92 = some a_i_IsRow_1 := by kernel_rfl
theorem ok_i_isPlace : compileFn Try.prog [0, 2] 1 [] Try.f93 = some a_i_isPlace := by kernel_rfl
theorem ok_i_isWeight : compileFn Try.prog [0, 2] 1 [] Try.f94 = some a_i_isWeight := by kernel_rfl
theorem ok_i_IsStage : compileFn Try.prog [0, 1, 2, 4, 5, 16, 26, 43] 1 [] Try.f95 = some a_i_IsStage := by kernel_rfl
theorem ok_s_l7Ask : compileFn Try.prog [0, 1, 4] 1 [] Try.f96 = some a_s_l7Ask := by kernel_rfl
theorem ok_s_l7Chain : compileFn Try.prog [0, 2, 3, 4, 5, 10] 1 [] Try.f97 = some a_s_l7Chain := by kernel_rfl
theorem ok_slices_Clone_Si_Load_i_Load : compileFn Try.prog [0, 2, 4] 2 [] Try.f98 = some a_slices_Clone_Si_Load_i_Load := by kernel_rfl
theorem ok_slices_Clone_Si_Stage_i_Stage : compileFn Try.prog [0, 2, 4] 2 [] Try.f99 = some a_slices_Clone_Si_Stage_i_Stage := by kernel_rfl
theorem ok_s_l12May : compileFn Try.prog [0, 1, 2, 3, 4, 6, 7, 13, 32, 46] 1 [] Try.f100 = some a_s_l12May := by kernel_rfl
theorem ok_s_l12Make : compileFn Try.prog [0, 1, 2, 3, 4, 5, 9, 10, 22, 37, 47, 55, 69] 2 [(6, [0, 1, 2, 3, 4, 5, 6, 7, 8, 9, 10, 11, 12, 13]), (15, [0, 1, 2, 3, 4, 5, 6, 7, 8, 9, 10, 11, 12, 13])] Try.f101 = some a_s_l12Make := by kernel_rfl
theorem ok_s_l2Side : compileFn Try.prog [0, 1, 2, 6, 10, 14] 1 [] Try.f102 = some a_s_l2Side := by kernel_rfl
theorem ok_i_momentAbout : compileFn Try.prog [0, 1, 4, 5, 7, 8, 9, 10, 11] 1 [] Try.f103 = some a_i_momentAbout := by kernel_rfl
theorem ok_s_l1Cur_one : compileFn Try.prog [0, 1, 4] 1 [] Try.f104 = some a_s_l1Cur_one := by kernel_rfl
theorem ok_s_l1Cur_among : compileFn Try.prog [0, 1, 4] 1 [] Try.f105 = some a_s_l1Cur_among := by kernel_rfl
theorem ok_s_l1Most : compileFn Try.prog [0, 1, 4, 7] 1 [] Try.f106 = some a_s_l1Most := by kernel_rfl
theorem ok_s_l1Least : compileFn Try.prog [0, 1, 4, 7] 1 [] Try.f107 = some a_s_l1Least := by kernel_rfl
theorem ok_s_l1Cur_stage7 : compileFn Try.prog [0, 2, 3, 15, 16, 19, 27, 36, 37, 43, 49] 1 [] Try.f108 = some a_s_l1Cur_stage7 := by kernel_rfl
theorem ok_s_l1Cur_next : compileFn Try.prog [0, 2, 3, 13, 53] 1 [(2, [0, 1, 2, 3, 4, 5, 6, 7, 8, 9]), (3, [0, 1, 2, 3, 4, 5, 6, 7, 8, 9, 10, 11]), (6, [0, 1, 2, 3, 4, 5, 6, 7, 8, 9])] Try.f109 = some a_s_l1Cur_next := by kernel_rfl
theorem ok_i_isHaul : compileFn Try.prog [0, 2] 1 [] Try.f110 = some a_i_isHaul := by kernel_rfl
theorem ok_i_fraction : compileFn Try.prog [0, 1, 4, 5] 1 [(2, [0, 1, 2, 3, 4, 5, 6, 7])] Try.f111 = some a_i_fraction := by kernel_rfl
theorem ok_i_stageGain : compileFn Try.prog [0, 1, 2, 4, 5, 10] 1 [] Try.f112 = some a_i_stageGain := by kernel_rfl
theorem ok_s_l2Row : compileFn Try.prog [0, 2, 3, 11, 29] 1 [] Try.f113 = some a_s_l2Row := by kernel_rfl
theorem ok_s_l7Stage : compileFn Try.prog [0, 1, 2, 4, 5, 13, 23, 37] 1 [] Try.f114 = some a_s_l7Stage := by kernel_rfl
theorem ok_slices_IndexFunc_Si_Load_i_Load : compileFn Try.prog [0, 1, 4, 5, 7, 8, 9, 16] 1 [] Try.f115 = some a_slices_IndexFunc_Si_Load_i_Load := by kernel_rfl
theorem ok_i_isRatio : compileFn Try.prog [0, 2] 1 [] Try.f116 = some a_i_isRatio := by kernel_rfl
theorem ok_s_l7Gain : compileFn Try.prog [0, 1, 2, 4, 5, 10] 1 [] Try.f117 = some a_s_l7Gain := by kernel_rfl
theorem ok_s_l2Cut : compileFn Try.prog [0, 1, 4, 5] 1 [(2, [0, 1, 2, 3, 4, 5, 6, 7])] Try.f118 = some a_s_l2Cut := by kernel_rfl
theorem ok_s_l2Moment : compileFn Try.prog [0, 1, 4, 5, 6, 10] 1 [(5, [0, 1, 2, 3, 4, 5, 6, 7, 8, 9, 10, 11, 12, 13, 14, 15])] Try.f119 = some a_s_l2Moment := by kernel_rfl
theorem ok_i_divisor : compileFn Try.prog [0, 1, 4, 6] 1 [(2, [0, 1, 2, 3, 4, 5])] Try.f120 = some a_i_divisor := by kernel_rfl
theorem ok_s_l7Two : compileFn Try.prog [0, 1, 4] 1 [] Try.f121 = some a_s_l7Two := by kernel_rfl
theorem ok_s_l2Gcd : compileFn Try.prog [0, 1, 4, 6] 1 [(2, [0, 1, 2, 3, 4, 5])] Try.f122 = some a_s_l2Gcd := by kernel_rfl
theorem tabOk : TableOk Try.prog T := tableOk_of (by
  unfold tab
  exact allCons ⟨_, _, _, _, Try.func2, ok_gosem_cut_init⟩ <|
    allCons ⟨_, _, _, _, Try.func3, ok_l_FnExactNewStand⟩ <|
    allCons ⟨_, _, _, _, Try.func4, ok_l_FnExactIsStand⟩ <|
    allCons ⟨_, _, _, _, Try.func5, ok_l_FnExactRowPull⟩ <|
    allCons ⟨_, _, _, _, Try.func6, ok_l_FnExactNewConsole⟩ <|
    allCons ⟨_, _, _, _, Try.func7, ok_l_FnExactDoTask⟩ <|
    allCons ⟨_, _, _, _, Try.func8, ok_l_FnStands⟩ <|
    allCons ⟨_, _, _, _, Try.func9, ok_l_FnRowPulls⟩ <|
    allCons ⟨_, _, _, _, Try.func10, ok_l_FnExactDoTasks⟩ <|
    allCons ⟨_, _, _, _, Try.func11, ok_s_NewStand⟩ <|
    allCons ⟨_, _, _, _, Try.func12, ok_i_NewStand⟩ <|
    allCons ⟨_, _, _, _, Try.func13, ok_l_eqStand⟩ <|
    allCons ⟨_, _, _, _, Try.func14, ok_l_markStand⟩ <|
    allCons ⟨_, _, _, _, Try.func15, ok_l_heldStand⟩ <|
    allCons ⟨_, _, _, _, Try.func16, ok_l_szStand⟩ <|
    allCons ⟨_, _, _, _, Try.func17, ok_s_IsStand⟩ <|
    allCons ⟨_, _, _, _, Try.func18, ok_l_toStand⟩ <|
    allCons ⟨_, _, _, _, Try.func19, ok_i_IsStand⟩ <|
    allCons ⟨_, _, _, _, Try.func20, ok_s_RowPull⟩ <|
    allCons ⟨_, _, _, _, Try.func21, ok_i_RowPull⟩ <|
    allCons ⟨_, _, _, _, Try.func22, ok_s_NewConsole⟩ <|
    allCons ⟨_, _, _, _, Try.func23, ok_i_NewConsole⟩ <|
    allCons ⟨_, _, _, _, Try.func24, ok_l_eqConsole⟩ <|
    allCons ⟨_, _, _, _, Try.func25, ok_l_markConsole⟩ <|
    allCons ⟨_, _, _, _, Try.func26, ok_l_heldConsole⟩ <|
    allCons ⟨_, _, _, _, Try.func27, ok_s_DoTask⟩ <|
    allCons ⟨_, _, _, _, Try.func28, ok_l_toTask⟩ <|
    allCons ⟨_, _, _, _, Try.func29, ok_i_DoTask⟩ <|
    allCons ⟨_, _, _, _, Try.func30, ok_l_vBig⟩ <|
    allCons ⟨_, _, _, _, Try.func31, ok_s_DrawNewStand⟩ <|
    allCons ⟨_, _, _, _, Try.func32, ok_s_DrawDoTask⟩ <|
    allCons ⟨_, _, _, _, Try.func33, ok_l_vCut⟩ <|
    allCons ⟨_, _, _, _, Try.func34, ok_s_DrawDoTasks⟩ <|
    allCons ⟨_, _, _, _, Try.func35, ok_i_DoTasks⟩ <|
    allCons ⟨_, _, _, _, Try.func36, ok_s_DoTasks⟩ <|
    allCons ⟨_, _, _, _, Try.func37, ok_l_vStand⟩ <|
    allCons ⟨_, _, _, _, Try.func38, ok_i_TipSide⟩ <|
    allCons ⟨_, _, _, _, Try.func39, ok_l_vRow⟩ <|
    allCons ⟨_, _, _, _, Try.func40, ok_l_vChain⟩ <|
    allCons ⟨_, _, _, _, Try.func41, ok_s_DrawRowPull⟩ <|
    allCons ⟨_, _, _, _, Try.func42, ok_i_WeightOf⟩ <|
    allCons ⟨_, _, _, _, Try.func43, ok_i_LeastPull⟩ <|
    allCons ⟨_, _, _, _, Try.func44, ok_i_ChainGain⟩ <|
    allCons ⟨_, _, _, _, Try.func45, ok_l_szTaskS⟩ <|
    allCons ⟨_, _, _, _, Try.func46, ok_l_toTaskS⟩ <|
    allCons ⟨_, _, _, _, Try.func47, ok_l_eqTaskS⟩ <|
    allCons ⟨_, _, _, _, Try.func48, ok_l_markTaskS⟩ <|
    allCons ⟨_, _, _, _, Try.func49, ok_s_l2Base⟩ <|
    allCons ⟨_, _, _, _, Try.func50, ok_s_l12Own⟩ <|
    allCons ⟨_, _, _, _, Try.func51, ok_l_eqLoadS⟩ <|
    allCons ⟨_, _, _, _, Try.func52, ok_l_eqStageS⟩ <|
    allCons ⟨_, _, _, _, Try.func53, ok_l_markLoadS⟩ <|
    allCons ⟨_, _, _, _, Try.func54, ok_l_markStageS⟩ <|
    allCons ⟨_, _, _, _, Try.func55, ok_l_heldLoadS⟩ <|
    allCons ⟨_, _, _, _, Try.func56, ok_l_heldStageS⟩ <|
    allCons ⟨_, _, _, _, Try.func57, ok_l_szLoadS⟩ <|
    allCons ⟨_, _, _, _, Try.func58, ok_l_szStageS⟩ <|
    allCons ⟨_, _, _, _, Try.func59, ok_s_l12Good⟩ <|
    allCons ⟨_, _, _, _, Try.func60, ok_l_toLoadS⟩ <|
    allCons ⟨_, _, _, _, Try.func61, ok_l_toStageS⟩ <|
    allCons ⟨_, _, _, _, Try.func62, ok_i_IsRow⟩ <|
    allCons ⟨_, _, _, _, Try.func63, ok_i_isBase⟩ <|
    allCons ⟨_, _, _, _, Try.func64, ok_i_isChain⟩ <|
    allCons ⟨_, _, _, _, Try.func65, ok_i_within⟩ <|
    allCons ⟨_, _, _, _, Try.func66, ok_s_LeastPull⟩ <|
    allCons ⟨_, _, _, _, Try.func67, ok_s_l2Weight⟩ <|
    allCons ⟨_, _, _, _, Try.func68, ok_i_weightOf⟩ <|
    allCons ⟨_, _, _, _, Try.func69, ok_i_copyStand⟩ <|
    allCons ⟨_, _, _, _, Try.func70, ok_l_eqLog⟩ <|
    allCons ⟨_, _, _, _, Try.func71, ok_s_l12Do⟩ <|
    allCons ⟨_, _, _, _, Try.func74, ok_i_tipSide⟩ <|
    allCons ⟨_, _, _, _, Try.func75, ok_s_l1Cur_placeIn⟩ <|
    allCons ⟨_, _, _, _, Try.func76, ok_s_l1Cur_stand⟩ <|
    allCons ⟨_, _, _, _, Try.func77, ok_s_l1Cur_task12⟩ <|
    allCons ⟨_, _, _, _, Try.func78, ok_s_l1Cur_pick⟩ <|
    allCons ⟨_, _, _, _, Try.func79, ok_s_DrawIsStand⟩ <|
    allCons ⟨_, _, _, _, Try.func80, ok_i_PullFor⟩ <|
    allCons ⟨_, _, _, _, Try.func81, ok_i_chainGain⟩ <|
    allCons ⟨_, _, _, _, Try.func82, ok_l_eqTask⟩ <|
    allCons ⟨_, _, _, _, Try.func83, ok_s_l2In⟩ <|
    allCons ⟨_, _, _, _, Try.func84, ok_l_eqLoad⟩ <|
    allCons ⟨_, _, _, _, Try.func85, ok_l_eqStage⟩ <|
    allCons ⟨_, _, _, _, Try.func86, ok_s_l2On⟩ <|
    allCons ⟨_, _, _, _, Try.func87, ok_s_l7Stages⟩ <|
    allCons ⟨_, _, _, _, Try.func88, ok_s_l1In⟩ <|
    allCons ⟨_, _, _, _, Try.func89, ok_l_toLoad⟩ <|
    allCons ⟨_, _, _, _, Try.func90, ok_l_toStage⟩ <|
    allCons ⟨_, _, _, _, Try.func91, ok_slices_ContainsFunc_Si_Load_i_Load⟩ <|
    allCons ⟨_, _, _, _, Try.func92, ok_i_IsRow_1⟩ <|
    allCons ⟨_, _, _, _, Try.func93, ok_i_isPlace⟩ <|
    allCons ⟨_, _, _, _, Try.func94, ok_i_isWeight⟩ <|
    allCons ⟨_, _, _, _, Try.func95, ok_i_IsStage⟩ <|
    allCons ⟨_, _, _, _, Try.func96, ok_s_l7Ask⟩ <|
    allCons ⟨_, _, _, _, Try.func97, ok_s_l7Chain⟩ <|
    allCons ⟨_, _, _, _, Try.func98, ok_slices_Clone_Si_Load_i_Load⟩ <|
    allCons ⟨_, _, _, _, Try.func99, ok_slices_Clone_Si_Stage_i_Stage⟩ <|
    allCons ⟨_, _, _, _, Try.func100, ok_s_l12May⟩ <|
    allCons ⟨_, _, _, _, Try.func101, ok_s_l12Make⟩ <|
    allCons ⟨_, _, _, _, Try.func102, ok_s_l2Side⟩ <|
    allCons ⟨_, _, _, _, Try.func103, ok_i_momentAbout⟩ <|
    allCons ⟨_, _, _, _, Try.func104, ok_s_l1Cur_one⟩ <|
    allCons ⟨_, _, _, _, Try.func105, ok_s_l1Cur_among⟩ <|
    allCons ⟨_, _, _, _, Try.func106, ok_s_l1Most⟩ <|
    allCons ⟨_, _, _, _, Try.func107, ok_s_l1Least⟩ <|
    allCons ⟨_, _, _, _, Try.func108, ok_s_l1Cur_stage7⟩ <|
    allCons ⟨_, _, _, _, Try.func109, ok_s_l1Cur_next⟩ <|
    allCons ⟨_, _, _, _, Try.func110, ok_i_isHaul⟩ <|
    allCons ⟨_, _, _, _, Try.func111, ok_i_fraction⟩ <|
    allCons ⟨_, _, _, _, Try.func112, ok_i_stageGain⟩ <|
    allCons ⟨_, _, _, _, Try.func113, ok_s_l2Row⟩ <|
    allCons ⟨_, _, _, _, Try.func114, ok_s_l7Stage⟩ <|
    allCons ⟨_, _, _, _, Try.func115, ok_slices_IndexFunc_Si_Load_i_Load⟩ <|
    allCons ⟨_, _, _, _, Try.func116, ok_i_isRatio⟩ <|
    allCons ⟨_, _, _, _, Try.func117, ok_s_l7Gain⟩ <|
    allCons ⟨_, _, _, _, Try.func118, ok_s_l2Cut⟩ <|
    allCons ⟨_, _, _, _, Try.func119, ok_s_l2Moment⟩ <|
    allCons ⟨_, _, _, _, Try.func120, ok_i_divisor⟩ <|
    allCons ⟨_, _, _, _, Try.func121, ok_s_l7Two⟩ <|
    allCons ⟨_, _, _, _, Try.func122, ok_s_l2Gcd⟩ <|
    allNil)
end Go.Proofs.Ytlocjmbfcdfjfaa.Slim

/- What slices.Delete is told to do. -/
namespace Go.Proofs.Ytlocjmbfcdfjfaa.Slim
open Go
set_option linter.unusedVariables false

def prDel (sz : Nat) (args : List AV) (m : Mem) : Option (AV × Mem) := match args with
  | [.slice (some (b, 0)) sz' n cap, .int .i64 i, .int .i64 j] => (match m.H[b]? with
    | some (.cells cs true) => if sz' = sz ∧ cs.length = n * sz ∧ 0 ≤ i ∧ i < (n : Int) ∧ j = i + 1 then
        some (.slice (some (m.H.length + 1, 0)) sz (n - 1) none, ⟨m.H.set b .dead ++ [.dead, .cells (cs.take (i.toNat * sz) ++ cs.drop ((i.toNat + 1) * sz)) true], m.esc⟩) else none
    | _ => none)
  | _ => none

theorem prDel_told {sz : Nat} {args : List AV} {m m' : Mem} {v : AV} (h : prDel sz args m = some (v, m')) : ∃ (b n i : Nat) (cap : Option Nat) (cs : List AV), args = [.slice (some (b, 0)) sz n cap, .int .i64 i, .int .i64 (i + 1 : Nat)] ∧
    m.H[b]? = some (.cells cs true) ∧ cs.length = n * sz ∧ i < n ∧ v = .slice (some (m.H.length + 1, 0)) sz (n - 1) none ∧ m' = ⟨m.H.set b .dead ++ [.dead, .cells (cs.take (i * sz) ++ cs.drop ((i + 1) * sz)) true], m.esc⟩ := by
  unfold prDel at h
  split at h
  · rename_i b sz' n cap i j
    split at h
    · rename_i cs hb
      split at h
      · rename_i hc
        obtain ⟨rfl, h1, h2, h3, rfl⟩ := hc
        cases h
        obtain ⟨k, rfl⟩ : ∃ k : Nat, i = k := ⟨i.toNat, by omega⟩
        exact ⟨b, n, k, cap, cs, by simp, hb, h1, by omega, rfl, by simp⟩
      · cases h
    · cases h
  · cases h

theorem prDel_at {sz : Nat} {L : List Blk} {e : Option Nat} {b n i : Nat} {cap : Option Nat} {cs : List AV} (h1 : L[b]? = some (.cells cs true)) (h2 : cs.length = n * sz) (h3 : i < n) :
    prDel sz [.slice (some (b, 0)) sz n cap, .int .i64 i, .int .i64 (i + 1 : Nat)] ⟨L, e⟩ = some (.slice (some (L.length + 1, 0)) sz (n - 1) none, ⟨L.set b .dead ++ [.dead, .cells (cs.take (i * sz) ++ cs.drop ((i + 1) * sz)) true], e⟩) := by
  unfold prDel
  simp only [h1]
  rw [if_pos ⟨trivial, h2, by omega, by omega, by omega⟩]
  simp

theorem prDel_grow {sz : Nat} {args : List AV} {m m' : Mem} {v : AV} (h : prDel sz args m = some (v, m')) : Grow m m' := by
  obtain ⟨b, n, i, cap, cs, rfl, hb, hcs, hi, rfl, rfl⟩ := prDel_told h
  have hbl : b < m.H.length := (List.getElem?_eq_some_iff.mp hb).1
  have key : ∀ (x : Nat) cs' wr', (m.H.set b .dead ++ [.dead, Blk.cells (cs.take (i * sz) ++ cs.drop ((i + 1) * sz)) true])[x]? = some (.cells cs' wr') → (x < m.H.length ∧ m.H[x]? = some (.cells cs' wr')) ∨ (m.H.length ≤ x ∧ wr' = true) := by
    intro x cs' wr' hx
    rcases Nat.lt_or_ge x m.H.length with hl | hl
    · rw [List.getElem?_append_left (by simpa using hl), List.getElem?_set] at hx
      split at hx
      · cases hx
      · exact .inl ⟨hl, hx⟩
    · rw [List.getElem?_append_right (by simpa using hl)] at hx
      refine .inr ⟨hl, ?_⟩
      match hq : x - (m.H.set b .dead).length, hx with
      | 0, hx => simp at hx
      | 1, hx => simp at hx; exact hx.2
      | q + 2, hx => simp at hx
  refine ⟨by simp, fun _ h => h, fun x hx _ => ?_, fun x cs' hx => ?_⟩
  · intro cs' wr' hc
    rcases key x cs' wr' hc with ⟨_, h2⟩ | ⟨h1, _⟩
    · exact ⟨cs', wr', h2, fun c hc => .inl hc⟩
    · omega
  · rcases key x cs' false hx with ⟨_, h2⟩ | ⟨_, h2⟩
    · exact h2
    · cases h2

/-- slices.Delete, at one element -/
def HasDelete (pr : Prims) : Prop := (∀ (L : List Blk) (e : Option Nat) (b n i : Nat) (cap : Option Nat) (cs : List AV), L[b]? = some (.cells cs true) → cs.length = n * 2 → i < n → call T pr f_slices_Delete_Si_Load_i_Load [.slice (some (b, 0)) 2 n cap, .int .i64 i, .int .i64 (i + 1 : Nat)] ⟨L, e⟩ = some (.slice (some (L.length + 1, 0)) 2 (n - 1) none, ⟨L.set b .dead ++ [.dead, .cells (cs.take (i * 2) ++ cs.drop ((i + 1) * 2)) true], e⟩)) ∧ (∀ (L : List Blk) (e : Option Nat) (b n i : Nat) (cap : Option Nat) (cs : List AV), L[b]? = some (.cells cs true) → cs.length = n * 3 → i < n → call T pr f_slices_Delete_Si_Stage_i_Stage [.slice (some (b, 0)) 3 n cap, .int .i64 i, .int .i64 (i + 1 : Nat)] ⟨L, e⟩ = some (.slice (some (L.length + 1, 0)) 3 (n - 1) none, ⟨L.set b .dead ++ [.dead, .cells (cs.take (i * 3) ++ cs.drop ((i + 1) * 3)) true], e⟩))

end Go.Proofs.Ytlocjmbfcdfjfaa.Slim

/- The contract of slices.Delete at one element, walked off its own text. -/
namespace Go.Proofs.Ytlocjmbfcdfjfaa.Slim
open Go Go.Lib Go.RowKit
set_option linter.unusedVariables false
set_option linter.unusedSimpArgs false

set_option maxHeartbeats 4000000 in
set_option maxRecDepth 1000000 in
theorem del_walkLoad (blk off n k i j : Nat) (w : World) (hij : i < j) (hjn : j ≤ n) (hj1 : n - (i + (n - j)) = 1) (hnk : n ≤ k) (news : List Value) (hlen : news.length = (n - j) * 2)
    (hsrc : ∀ t u, news[t]? = some u → w.drew.cell? ⟨blk, off + j * 2 + t, none⟩ = some u) (hone : ∀ u ∈ news, u.oneCell' = true)
    (hsp : ∀ t, t < (n - j) * 2 → (w.drew.cell? ⟨blk, off + i * 2 + t, none⟩).isSome = true ∧ w.drew.frozen? ⟨blk, off + i * 2 + t, none⟩ = false)
    (hsp2 : ∀ t, t < 2 → ((w.drew.setCells blk (off + i * 2) news).cell? ⟨blk, off + (i + (n - j)) * 2 + t, none⟩).isSome = true ∧ (w.drew.setCells blk (off + i * 2) news).frozen? ⟨blk, off + (i + (n - j)) * 2 + t, none⟩ = false) :
    Calls Try.prog 72 #[.slice (some ⟨blk, off, none⟩) n k, .int .i64 i, .int .i64 j] w fun e w' =>
      e = .returned (.slice (some ⟨blk, off, none⟩) (i + (n - j)) k) ∧ w' = (w.drew.setCells blk (off + i * 2) news).setCells blk (off + (i + (n - j)) * 2) [.int .i64 0, .int .i64 0] := by
  have mixed : Try.prog.follows .mixedOrders = true := by kernel_rfl
  have ts : Try.prog.underlying 22 = some (.slice 95) := by kernel_rfl
  obtain ⟨i0, hi0, hz0, hz1, hz2⟩ := info_parts (show (Try.prog.info? 95).map (fun i => (i.zero, i.size, i.bytes)) = some (some (.agg #[.int .i64 0, .int .i64 0]), 2, 16) by kernel_rfl)
  obtain ⟨A, hA, hsrc'⟩ : ∃ A : Addr, (if k = j then some (⟨blk, off, none⟩ : Addr) else some ⟨blk, off + j * 2, none⟩) = some A ∧ Hid (∀ t u, news[t]? = some u → w.drew.cell? (A.add t) = some u) := by
    by_cases h : k = j
    · refine ⟨⟨blk, off, none⟩, by simp [h], fun t u hu => ?_⟩
      have h0 : news.length = 0 := by rw [hlen]; omega
      rw [List.length_eq_zero_iff.1 h0] at hu
      simp at hu
    · refine ⟨⟨blk, off + j * 2, none⟩, by simp [h], fun t u hu => ?_⟩
      rw [Addr.add_lit]
      exact hsrc t u hu
  have s1 : Hid (news.length = (n - j) * 2) := hlen
  have s2 : Hid (∀ u ∈ news, u.oneCell' = true) := hone
  have s3 : Hid (∀ t, t < news.length → (w.drew.cell? ⟨blk, off + i * 2 + t, none⟩).isSome = true ∧ w.drew.frozen? ⟨blk, off + i * 2 + t, none⟩ = false) := fun t ht => hsp t (by omega)
  obtain ⟨W1, hW1⟩ : ∃ W1, W1 = w.drew.setCells blk (off + i * 2) news := ⟨_, rfl⟩
  have hW : Hid (W1 = w.drew.setCells blk (off + i * 2) news) := hW1
  rw [← hW1] at hsp2 ⊢
  have hcl : ∀ ty, (Builtin.clear_ #[22] ty #[.slice (some ⟨blk, off + (i + (n - j)) * 2, none⟩) (n - (i + (n - j))) (k - (i + (n - j)))]).run Try.prog W1 = .ok (.tuple #[]) (W1.setCells blk (off + (i + (n - j)) * 2) [.int .i64 0, .int .i64 0]) := by
    intro ty
    rw [hj1]
    exact clear_one W1 22 95 ty (.agg #[.int .i64 0, .int .i64 0]) (by kernel_rfl) (fun w => by kernel_rfl) (by intro v hv; simp [Value.cells] at hv; subst hv; rfl) blk _ _ (fun t ht => (hsp2 t ht).1) (fun t ht => (hsp2 t ht).2)
  have hic : i ≤ k := by omega
  have hjc : j ≤ k := by omega
  have hne : ¬ i = j := by omega
  clear hW1 hsp2 hsp hlen hsrc hone hj1
  go_enter Try.func72, Try.ntmps72
  go_wp2_with fail
  go_region_law_o (refine step_append_room rfl (.tmp 22) (.tmp 25) 22 rfl 95 i0 2 ts hi0 hz1 blk off i k (by simp [Act.eval, Act.put]) A (n - j) (k - j) news (by simp [Act.eval, Act.put]) s1.out hsrc'.out s2.out (by omega) s3.out ?_; rw [← hW.out])
  go_wp2
  go_ret
  exact ⟨rfl, rfl⟩

set_option maxHeartbeats 4000000 in
set_option maxRecDepth 1000000 in
theorem del_walkStage (blk off n k i j : Nat) (w : World) (hij : i < j) (hjn : j ≤ n) (hj1 : n - (i + (n - j)) = 1) (hnk : n ≤ k) (news : List Value) (hlen : news.length = (n - j) * 3)
    (hsrc : ∀ t u, news[t]? = some u → w.drew.cell? ⟨blk, off + j * 3 + t, none⟩ = some u) (hone : ∀ u ∈ news, u.oneCell' = true)
    (hsp : ∀ t, t < (n - j) * 3 → (w.drew.cell? ⟨blk, off + i * 3 + t, none⟩).isSome = true ∧ w.drew.frozen? ⟨blk, off + i * 3 + t, none⟩ = false)
    (hsp2 : ∀ t, t < 3 → ((w.drew.setCells blk (off + i * 3) news).cell? ⟨blk, off + (i + (n - j)) * 3 + t, none⟩).isSome = true ∧ (w.drew.setCells blk (off + i * 3) news).frozen? ⟨blk, off + (i + (n - j)) * 3 + t, none⟩ = false) :
    Calls Try.prog 73 #[.slice (some ⟨blk, off, none⟩) n k, .int .i64 i, .int .i64 j] w fun e w' =>
      e = .returned (.slice (some ⟨blk, off, none⟩) (i + (n - j)) k) ∧ w' = (w.drew.setCells blk (off + i * 3) news).setCells blk (off + (i + (n - j)) * 3) [.int .i64 0, .int .i64 0, .int .i64 0] := by
  have mixed : Try.prog.follows .mixedOrders = true := by kernel_rfl
  have ts : Try.prog.underlying 23 = some (.slice 98) := by kernel_rfl
  obtain ⟨i0, hi0, hz0, hz1, hz2⟩ := info_parts (show (Try.prog.info? 98).map (fun i => (i.zero, i.size, i.bytes)) = some (some (.agg #[.int .i64 0, .int .i64 0, .int .i64 0]), 3, 24) by kernel_rfl)
  obtain ⟨A, hA, hsrc'⟩ : ∃ A : Addr, (if k = j then some (⟨blk, off, none⟩ : Addr) else some ⟨blk, off + j * 3, none⟩) = some A ∧ Hid (∀ t u, news[t]? = some u → w.drew.cell? (A.add t) = some u) := by
    by_cases h : k = j
    · refine ⟨⟨blk, off, none⟩, by simp [h], fun t u hu => ?_⟩
      have h0 : news.length = 0 := by rw [hlen]; omega
      rw [List.length_eq_zero_iff.1 h0] at hu
      simp at hu
    · refine ⟨⟨blk, off + j * 3, none⟩, by simp [h], fun t u hu => ?_⟩
      rw [Addr.add_lit]
      exact hsrc t u hu
  have s1 : Hid (news.length = (n - j) * 3) := hlen
  have s2 : Hid (∀ u ∈ news, u.oneCell' = true) := hone
  have s3 : Hid (∀ t, t < news.length → (w.drew.cell? ⟨blk, off + i * 3 + t, none⟩).isSome = true ∧ w.drew.frozen? ⟨blk, off + i * 3 + t, none⟩ = false) := fun t ht => hsp t (by omega)
  obtain ⟨W1, hW1⟩ : ∃ W1, W1 = w.drew.setCells blk (off + i * 3) news := ⟨_, rfl⟩
  have hW : Hid (W1 = w.drew.setCells blk (off + i * 3) news) := hW1
  rw [← hW1] at hsp2 ⊢
  have hcl : ∀ ty, (Builtin.clear_ #[23] ty #[.slice (some ⟨blk, off + (i + (n - j)) * 3, none⟩) (n - (i + (n - j))) (k - (i + (n - j)))]).run Try.prog W1 = .ok (.tuple #[]) (W1.setCells blk (off + (i + (n - j)) * 3) [.int .i64 0, .int .i64 0, .int .i64 0]) := by
    intro ty
    rw [hj1]
    exact clear_one W1 23 98 ty (.agg #[.int .i64 0, .int .i64 0, .int .i64 0]) (by kernel_rfl) (fun w => by kernel_rfl) (by intro v hv; simp [Value.cells] at hv; subst hv; rfl) blk _ _ (fun t ht => (hsp2 t ht).1) (fun t ht => (hsp2 t ht).2)
  have hic : i ≤ k := by omega
  have hjc : j ≤ k := by omega
  have hne : ¬ i = j := by omega
  clear hW1 hsp2 hsp hlen hsrc hone hj1
  go_enter Try.func73, Try.ntmps73
  go_wp2_with fail
  go_region_law_o (refine step_append_room rfl (.tmp 22) (.tmp 25) 23 rfl 98 i0 3 ts hi0 hz1 blk off i k (by simp [Act.eval, Act.put]) A (n - j) (k - j) news (by simp [Act.eval, Act.put]) s1.out hsrc'.out s2.out (by omega) s3.out ?_; rw [← hW.out])
  go_wp2
  go_ret
  exact ⟨rfl, rfl⟩

def prC : Prims := fun f args m => if f = f_slices_Delete_Si_Load_i_Load then prDel 2 args m else if f = f_slices_Delete_Si_Stage_i_Stage then prDel 3 args m else none

theorem fnLoad : ∃ fn, Try.prog.funcs[f_slices_Delete_Si_Load_i_Load]? = some fn ∧ fn.body.isSome = true ∧ fn.name ≠ "runtime.NumGoroutine" := by
  have h : ((Try.prog.funcs[f_slices_Delete_Si_Load_i_Load]?).map fun fn => fn.body.isSome && decide (fn.name ≠ "runtime.NumGoroutine")) = some true := by kernel_rfl
  obtain ⟨fn, h1, h2⟩ := Option.map_eq_some_iff.mp h
  simp only [Bool.and_eq_true, decide_eq_true_eq] at h2
  exact ⟨fn, h1, h2.1, h2.2⟩

theorem callLoad {ι : Emb} {m m' : Mem} {w : World} {args : List AV} {vs : List Value} {v : AV} (h : prDel 2 args m = some (v, m')) (R : Rel ι m w) (hv : VL ι w args vs) :
    Calls Try.prog f_slices_Delete_Si_Load_i_Load vs.toArray w fun e w' => ∃ (ι' : Emb) (v' : Value), e = .returned v' ∧ V ι' w' v v' ∧ Rel ι' m' w' ∧ Ext ι m w ι' m' w' := by
  obtain ⟨b, n, i, cap, cs, rfl, hb, hcs, hi, rfl, rfl⟩ := prDel_told h
  obtain ⟨v1, vs1, rfl, h1, v2, vs2, rfl, rfl, v3, vs3, rfl, rfl, rfl⟩ := hv
  obtain ⟨c, x, k, news, rfl, h2, h3, h4, h5, h6, h7, ι', h8, h9, h10⟩ := del_rel (P := Try.prog) R hb hcs hi h1
  refine (del_walkLoad c x n k i (i + 1) w (by omega) (by omega) (by omega) h2 news h3 h4 h5 h6 h7).mono ?_
  rintro e w' ⟨rfl, rfl⟩
  exact ⟨ι', _, rfl, h8, h9, h10⟩

theorem fnStage : ∃ fn, Try.prog.funcs[f_slices_Delete_Si_Stage_i_Stage]? = some fn ∧ fn.body.isSome = true ∧ fn.name ≠ "runtime.NumGoroutine" := by
  have h : ((Try.prog.funcs[f_slices_Delete_Si_Stage_i_Stage]?).map fun fn => fn.body.isSome && decide (fn.name ≠ "runtime.NumGoroutine")) = some true := by kernel_rfl
  obtain ⟨fn, h1, h2⟩ := Option.map_eq_some_iff.mp h
  simp only [Bool.and_eq_true, decide_eq_true_eq] at h2
  exact ⟨fn, h1, h2.1, h2.2⟩

theorem callStage {ι : Emb} {m m' : Mem} {w : World} {args : List AV} {vs : List Value} {v : AV} (h : prDel 3 args m = some (v, m')) (R : Rel ι m w) (hv : VL ι w args vs) :
    Calls Try.prog f_slices_Delete_Si_Stage_i_Stage vs.toArray w fun e w' => ∃ (ι' : Emb) (v' : Value), e = .returned v' ∧ V ι' w' v v' ∧ Rel ι' m' w' ∧ Ext ι m w ι' m' w' := by
  obtain ⟨b, n, i, cap, cs, rfl, hb, hcs, hi, rfl, rfl⟩ := prDel_told h
  obtain ⟨v1, vs1, rfl, h1, v2, vs2, rfl, rfl, v3, vs3, rfl, rfl, rfl⟩ := hv
  obtain ⟨c, x, k, news, rfl, h2, h3, h4, h5, h6, h7, ι', h8, h9, h10⟩ := del_rel (P := Try.prog) R hb hcs hi h1
  refine (del_walkStage c x n k i (i + 1) w (by omega) (by omega) (by omega) h2 news h3 h4 h5 h6 h7).mono ?_
  rintro e w' ⟨rfl, rfl⟩
  exact ⟨ι', _, rfl, h8, h9, h10⟩

theorem prC_ok : PrimsOk Try.prog prC := by
  refine ⟨fun f args m v m' ι w vs h R hv => ?_, fun f args m v m' h => ?_⟩
  · unfold prC at h
    split at h
    · rename_i hf
      subst hf
      exact ⟨fnLoad, callLoad h R hv⟩
    rename_i hfLoad
    split at h
    · rename_i hf
      subst hf
      exact ⟨fnStage, callStage h R hv⟩
    rename_i hfStage
    cases h
  · unfold prC at h
    split at h
    · exact prDel_grow h
    split at h
    · exact prDel_grow h
    cases h

theorem prC_has : HasDelete prC := by
  refine ⟨fun L e b n i cap cs h1 h2 h3 => ?_, fun L e b n i cap cs h1 h2 h3 => ?_⟩
  · rw [call_prim rfl]
    exact prDel_at (cap := cap) h1 h2 h3
  · rw [call_prim rfl]
    exact prDel_at (cap := cap) h1 h2 h3

end Go.Proofs.Ytlocjmbfcdfjfaa.Slim

/- The slim machine: the rules by which simp walks. -/
namespace Go.Proofs.Ytlocjmbfcdfjfaa.Slim
open Go
set_option linter.unusedVariables false
set_option linter.unusedSimpArgs false

section
variable {C : FuncId → List AV → Mem → Option (AV × Mem)} {tm loc : List AV} {m : Mem} {g : X → AV} {H : List Blk} {e : Option Nat}

theorem aops_nil : aops C tm [] loc m = some (loc, m) := Eq.trans rfl rfl

def opThen {β : Type} (r : Option (AV × Mem)) (f : AV → Mem → Option β) : Option β :=
  match r with
  | some (v, m) => f v m
  | none => none
theorem opThen_some {β : Type} (v : AV) (m : Mem) (f : AV → Mem → Option β) : opThen (some (v, m)) f = f v m := Eq.trans rfl rfl
theorem opThen_none {β : Type} (f : AV → Mem → Option β) : opThen none f = none := Eq.trans rfl rfl
theorem opThen_ite {β : Type} (c : Prop) [Decidable c] (a b : Option (AV × Mem)) (f : AV → Mem → Option β) : opThen (if c then a else b) f = if c then opThen a f else opThen b f := by split <;> rfl
@[congr] theorem opThen_congr {β : Type} {r r' : Option (AV × Mem)} {f : AV → Mem → Option β} (h : r = r') : opThen r f = opThen r' f := by rw [h]

/-- an operation with a guard -/
def guardP {β : Type} (p : Prop) [Decidable p] (r : Option (AV × Mem)) (m : Mem) (f : AV → Mem → Option β) : Option β := if p then opThen r f else f (.tup []) m
def guardThen {β : Type} (c : Option Bool) (r : Option (AV × Mem)) (m : Mem) (f : AV → Mem → Option β) : Option β :=
  match c with
  | none => none
  | some c => guardP (c = true) r m f
theorem guardThen_some {β : Type} (c : Bool) (r : Option (AV × Mem)) (m : Mem) (f : AV → Mem → Option β) : guardThen (some c) r m f = guardP (c = true) r m f := Eq.trans rfl rfl
theorem guardThen_ite {β : Type} (p : Prop) [Decidable p] (a b : Option Bool) (r : Option (AV × Mem)) (m : Mem) (f : AV → Mem → Option β) :
    guardThen (if p then a else b) r m f = if p then guardThen a r m f else guardThen b r m f := by split <;> rfl
theorem guardP_true {β : Type} (r : Option (AV × Mem)) (m : Mem) (f : AV → Mem → Option β) : guardP True r m f = opThen r f := by simp [guardP]
theorem guardP_false {β : Type} (r : Option (AV × Mem)) (m : Mem) (f : AV → Mem → Option β) : guardP False r m f = f (.tup []) m := by simp [guardP]
theorem guardP_some {β : Type} (p : Prop) [Decidable p] (v : AV) (m : Mem) (f : AV → Mem → Option β) : guardP p (some (v, m)) m f = f (if p then v else .tup []) m := by
  by_cases h : p <;> simp [guardP, h, opThen]
theorem guardP_ite {β : Type} (p : Prop) [Decidable p] (q : Prop) [Decidable q] (v : AV) (m : Mem) (f : AV → Mem → Option β) :
    guardP p (if q then some (v, m) else none) m f = if p → q then f (if p then v else .tup []) m else none := by
  by_cases h : p <;> by_cases h2 : q <;> simp [guardP, opThen, h, h2]
@[congr] theorem guardP_congr {β : Type} {p q : Prop} {s : Decidable p} [Decidable q] {r r' : Option (AV × Mem)} {m : Mem} {f : AV → Mem → Option β} (h : p = q) (h2 : q → r = r') : guardP p r m f = guardP q r' m f := by
  subst h
  unfold guardP
  by_cases hp : p
  · rw [if_pos hp, if_pos hp, h2 hp]
  · rw [if_neg hp, if_neg hp]
@[congr] theorem guardThen_congr {β : Type} {c c' : Option Bool} {r : Option (AV × Mem)} {m : Mem} {f : AV → Mem → Option β} (h : c = c') : guardThen c r m f = guardThen c' r m f := by rw [h]

/-- what a guard says -/
def guardOf (v : AV) (b : Bool) : Option Bool :=
  match v with
  | .bool c => some (c == b)
  | .tup [] => some false
  | _ => none
theorem guardOf_true (c : Bool) : guardOf (.bool c) true = some c := by cases c <;> rfl
theorem guardOf_false (c : Bool) : guardOf (.bool c) false = some (!c) := by cases c <;> rfl
theorem guardOf_tup (b : Bool) : guardOf (.tup []) b = some false := Eq.trans rfl rfl
theorem guardOf_ite (c : Prop) [Decidable c] (x y : AV) (b : Bool) : guardOf (if c then x else y) b = if c then guardOf x b else guardOf y b := by split <;> rfl

theorem aops_cons (op : AO) (rest : List AOper) : aops C tm (⟨op, none⟩ :: rest) loc m = opThen (aop C (get tm loc) m op) fun v m' => aops C tm rest (loc ++ [v]) m' := by
  rw [aops]
  simp only [wanted]
  cases aop C (get tm loc) m op <;> rfl

theorem aops_guard (op : AO) (x : X) (b : Bool) (rest : List AOper) :
    aops C tm (⟨op, some (x, b)⟩ :: rest) loc m = guardThen (guardOf (get tm loc x) b) (aop C (get tm loc) m op) m fun v m' => aops C tm rest (loc ++ [v]) m' := by
  rw [aops]
  have h : wanted (get tm loc) (some (x, b)) = guardOf (get tm loc x) b := rfl
  rw [h]
  cases guardOf (get tm loc x) b with
  | none => rfl
  | some c => cases c with
    | false => rfl
    | true => simp only [guardThen, guardP, if_true]; cases aop C (get tm loc) m op <;> rfl

theorem dops_nil : dops C tm [] loc m = some (loc, m) := Eq.trans rfl rfl

theorem dops_cons (op : AO) (rest : List DE) : dops C tm (⟨op, none, []⟩ :: rest) loc m = opThen (aop C (get tm loc) m op) fun v m' => dops C tm rest (loc ++ [v]) m' := by
  rw [dops]
  simp only [wanted]
  cases aop C (get tm loc) m op <;> simp [opThen, toldAnew]

theorem dops_again (op : AO) (q : Nat × AOper) (qs : List (Nat × AOper)) (rest : List DE) : dops C tm (⟨op, none, q :: qs⟩ :: rest) loc m =
    opThen (aop C (get tm loc) m op) fun v m' => if toldAnew (get tm (loc ++ [v])) loc m'.H (q :: qs) = true then dops C tm rest (loc ++ [v]) m' else none := by
  rw [dops]
  simp only [wanted]
  cases aop C (get tm loc) m op <;> simp [opThen]

theorem dops_guard (op : AO) (x : X) (b : Bool) (rest : List DE) :
    dops C tm (⟨op, some (x, b), []⟩ :: rest) loc m = guardThen (guardOf (get tm loc x) b) (aop C (get tm loc) m op) m fun v m' => dops C tm rest (loc ++ [v]) m' := by
  rw [dops]
  have h : wanted (get tm loc) (some (x, b)) = guardOf (get tm loc x) b := rfl
  rw [h]
  cases guardOf (get tm loc x) b with
  | none => rfl
  | some c => cases c with
    | false => simp [guardThen, guardP, toldAnew]
    | true => simp only [guardThen, guardP, if_true]; cases aop C (get tm loc) m op <;> simp [opThen, toldAnew]

theorem dops_guard_again (op : AO) (x : X) (b : Bool) (q : Nat × AOper) (qs : List (Nat × AOper)) (rest : List DE) :
    dops C tm (⟨op, some (x, b), q :: qs⟩ :: rest) loc m = guardThen (guardOf (get tm loc x) b) (aop C (get tm loc) m op) m fun v m' =>
      if toldAnew (get tm (loc ++ [v])) loc m'.H (q :: qs) = true then dops C tm rest (loc ++ [v]) m' else none := by
  rw [dops]
  have h : wanted (get tm loc) (some (x, b)) = guardOf (get tm loc x) b := rfl
  rw [h]
  cases guardOf (get tm loc x) b with
  | none => rfl
  | some c => cases c with
    | false => rfl
    | true => simp only [guardThen, guardP, if_true]; cases aop C (get tm loc) m op <;> rfl

theorem toldAnew_nil (L : List Blk) : toldAnew g loc L [] = true := Eq.trans rfl rfl
theorem toldAnew_cons (L : List Blk) (j : Nat) (op : AO) (qs : List (Nat × AOper)) : (toldAnew g loc L ((j, ⟨op, none⟩) :: qs) = true) ↔ (memop g L op = some ((loc[j]?).getD .undef) ∧ toldAnew g loc L qs = true) := by
  simp [toldAnew, wanted]
theorem toldAnew_guard (L : List Blk) (j : Nat) (op : AO) (x : X) (b : Bool) (qs : List (Nat × AOper)) : (toldAnew g loc L ((j, ⟨op, some (x, b)⟩) :: qs) = true) ↔ ((guardOf (g x) b = some false ∨ memop g L op = some ((loc[j]?).getD .undef)) ∧ toldAnew g loc L qs = true) := by
  simp only [toldAnew, Bool.and_eq_true, Bool.or_eq_true, decide_eq_true_eq]
  rfl
theorem memop_load (L : List Blk) (a : Bool) (sz : Nat) (x : X) : memop g L (.load a sz x) = loadAt L a sz (g x) := Eq.trans rfl rfl

theorem get_t (s : Nat) : get tm loc (.t s) = (tm[s]?).getD .undef := Eq.trans rfl rfl
theorem get_l (s : Nat) : get tm loc (.l s) = (loc[s]?).getD .undef := Eq.trans rfl rfl
theorem get_c (v : AV) : get tm loc (.c v) = v := Eq.trans rfl rfl

/-- a value, memory being as it was -/
def valOf (m : Mem) (r : Option AV) : Option (AV × Mem) :=
  match r with
  | some v => some (v, m)
  | none => none
theorem valOf_some (v : AV) : valOf m (some v) = some (v, m) := Eq.trans rfl rfl
theorem valOf_none : valOf m none = none := Eq.trans rfl rfl
theorem valOf_ite (c : Prop) [Decidable c] (a b : Option AV) : valOf m (if c then a else b) = if c then valOf m a else valOf m b := by split <;> rfl

theorem aop_of_light {op : AO} (h : op.kind = 0) : aop C g m op = valOf m (light g op) := by
  unfold aop
  cases e : light g op with
  | some v => rfl
  | none => simp only []; rw [memop_none (by omega), making_none (by omega), heavy_none (by omega)]; rfl

theorem aop_of_memop {op : AO} (h : op.kind = 1) : aop C g m op = valOf m (memop g m.H op) := by
  unfold aop
  rw [light_none (by omega)]
  simp only []
  cases e : memop g m.H op with
  | some v => rfl
  | none => simp only []; rw [making_none (by omega), heavy_none (by omega)]; rfl

theorem aop_of_heavy {op : AO} (h : op.kind = 3) : aop C g m op = heavy C g m op := by
  unfold aop
  rw [light_none (by omega), memop_none (by omega), making_none (by omega)]

theorem aop_of_making {op : AO} (h : op.kind = 2) : aop C g m op = match making g op with | some (cs, v) => some (v m.H.length, newBlk m cs) | none => none := by
  unfold aop
  rw [light_none (by omega), memop_none (by omega)]
  simp only []
  cases making g op with
  | some p => rfl
  | none => simp only []; exact heavy_none (by omega)

theorem aop_mv (x : X) : aop C g m (.mv x) = some (g x, m) := Eq.trans rfl rfl
theorem aop_bin (c : Nat) (o : BinOp) (x y : X) : aop C g m (.bin c o x y) = valOf m (binop c o (g x) (g y)) := aop_of_light rfl

/-- a choice -/
def pickV (c a b : AV) : Option AV :=
  match c with
  | .bool true => some a
  | .bool false => some b
  | _ => none
theorem pickV_bool (c : Bool) (a b : AV) : pickV (.bool c) a b = some (if c = true then a else b) := by cases c <;> rfl
theorem aop_pick (c a b : X) : aop C g m (.pick c a b) = valOf m (pickV (g c) (g a) (g b)) := aop_of_light rfl
theorem aop_un (o : UnOp) (x : X) : aop C g m (.un o x) = valOf m (unop o (g x)) := aop_of_light rfl
theorem aop_makeFunc (f : FuncId) (a b : List X) : aop C g m (.makeFunc f a b) = some (.fn f (a.map g) (b.map g), m) := Eq.trans rfl rfl

def convV (k : IntKind) (v : AV) : Option AV :=
  match v with
  | .int _ n => some (.int k (k.wrap n))
  | _ => none
theorem convV_int (k k' : IntKind) (n : Int) : convV k (.int k' n) = some (.int k (k.wrap n)) := Eq.trans rfl rfl
theorem aop_conv (k : IntKind) (x : X) : aop C g m (.conv k x) = valOf m (convV k (g x)) := aop_of_light rfl

def eqCellsV (ks : List Nat) (neg : Bool) (a b : AV) : Option AV :=
  match a, b with
  | .agg xs, .agg ys => (eqList ks xs ys).map fun b => .bool (if neg then !b else b)
  | _, _ => none
theorem eqCellsV_agg (ks : List Nat) (neg : Bool) (xs ys : List AV) : eqCellsV ks neg (.agg xs) (.agg ys) = (eqList ks xs ys).map fun b => .bool (if neg then !b else b) := Eq.trans rfl rfl
theorem aop_eqCells (ks : List Nat) (neg : Bool) (x y : X) : aop C g m (.eqCells ks neg x y) = valOf m (eqCellsV ks neg (g x) (g y)) := aop_of_light rfl

def fieldAddrV (off : Nat) (v : AV) : Option AV :=
  match v with
  | .ptr (some (b, o)) => some (.ptr (some (b, o + off)))
  | _ => none
theorem fieldAddrV_ptr (off b o : Nat) : fieldAddrV off (.ptr (some (b, o))) = some (.ptr (some (b, o + off))) := Eq.trans rfl rfl
theorem aop_fieldAddr (off : Nat) (x : X) : aop C g m (.fieldAddr off x) = valOf m (fieldAddrV off (g x)) := aop_of_light rfl

def fieldV (agg : Bool) (off sz : Nat) (v : AV) : Option AV :=
  match v with
  | .agg cs => part agg cs off sz
  | _ => none
theorem fieldV_agg (agg : Bool) (off sz : Nat) (cs : List AV) : fieldV agg off sz (.agg cs) = part agg cs off sz := Eq.trans rfl rfl
theorem aop_field (agg : Bool) (off sz : Nat) (x : X) : aop C g m (.field agg off sz x) = valOf m (fieldV agg off sz (g x)) := aop_of_light rfl

def indexAddrSV (sz : Nat) (v i : AV) : Option AV :=
  match v, i with
  | .slice (some (b, o)) sz' n _, .int _ i => if 0 ≤ i ∧ i < n ∧ sz' = sz then some (.ptr (some (b, o + i.toNat * sz))) else none
  | _, _ => none
theorem indexAddrSV_slice (sz b o sz' n : Nat) (c : Option Nat) (k : IntKind) (i : Int) : indexAddrSV sz (.slice (some (b, o)) sz' n c) (.int k i) = if 0 ≤ i ∧ i < n ∧ sz' = sz then some (.ptr (some (b, o + i.toNat * sz))) else none := Eq.trans rfl rfl
theorem aop_indexAddrS (sz : Nat) (x i : X) : aop C g m (.indexAddrS sz x i) = valOf m (indexAddrSV sz (g x) (g i)) := aop_of_light rfl

def indexAddrAV (n sz : Nat) (v i : AV) : Option AV :=
  match v, i with
  | .ptr (some (b, o)), .int _ i => if 0 ≤ i ∧ i < n then some (.ptr (some (b, o + i.toNat * sz))) else none
  | _, _ => none
theorem indexAddrAV_ptr (n sz b o : Nat) (k : IntKind) (i : Int) : indexAddrAV n sz (.ptr (some (b, o))) (.int k i) = if 0 ≤ i ∧ i < n then some (.ptr (some (b, o + i.toNat * sz))) else none := Eq.trans rfl rfl
theorem aop_indexAddrA (n sz : Nat) (x i : X) : aop C g m (.indexAddrA n sz x i) = valOf m (indexAddrAV n sz (g x) (g i)) := aop_of_light rfl

def indexAV (agg : Bool) (n sz : Nat) (v i : AV) : Option AV :=
  match v, i with
  | .agg cs, .int _ i => if 0 ≤ i ∧ i < n then part agg cs (i.toNat * sz) sz else none
  | _, _ => none
theorem indexAV_agg (agg : Bool) (n sz : Nat) (cs : List AV) (k : IntKind) (i : Int) : indexAV agg n sz (.agg cs) (.int k i) = if 0 ≤ i ∧ i < n then part agg cs (i.toNat * sz) sz else none := Eq.trans rfl rfl
theorem aop_indexA (agg : Bool) (n sz : Nat) (x i : X) : aop C g m (.indexA agg n sz x i) = valOf m (indexAV agg n sz (g x) (g i)) := aop_of_light rfl

def indexSV (v i : AV) : Option AV :=
  match v, i with
  | .str s, .int _ i => if 0 ≤ i then (s[i.toNat]?).map fun b => .int .u8 b.toNat else none
  | _, _ => none
theorem indexSV_str (s : ByteArray) (k : IntKind) (i : Int) : indexSV (.str s) (.int k i) = if 0 ≤ i then (s[i.toNat]?).map fun b => .int .u8 b.toNat else none := Eq.trans rfl rfl
theorem aop_indexS (x i : X) : aop C g m (.indexS x i) = valOf m (indexSV (g x) (g i)) := aop_of_light rfl

def extractV (i : Nat) (v : AV) : Option AV :=
  match v with
  | .tup vs => vs[i]?
  | _ => none
theorem extractV_tup (i : Nat) (vs : List AV) : extractV i (.tup vs) = vs[i]? := Eq.trans rfl rfl
theorem aop_extract (i : Nat) (x : X) : aop C g m (.extract i x) = valOf m (extractV i (g x)) := aop_of_light rfl

def lenV (v : AV) : Option AV :=
  match v with
  | .slice _ _ n _ => some (.int .i64 n)
  | _ => none
theorem lenV_slice (p : Option (Nat × Nat)) (sz n : Nat) (c : Option Nat) : lenV (.slice p sz n c) = some (.int .i64 n) := Eq.trans rfl rfl
theorem aop_len (x : X) : aop C g m (.len x) = valOf m (lenV (g x)) := aop_of_light rfl

def lenStrV (v : AV) : Option AV :=
  match v with
  | .str s => some (.int .i64 s.size)
  | _ => none
theorem lenStrV_str (s : ByteArray) : lenStrV (.str s) = some (.int .i64 s.size) := Eq.trans rfl rfl
theorem aop_lenStr (x : X) : aop C g m (.lenStr x) = valOf m (lenStrV (g x)) := aop_of_light rfl
theorem aop_lenA (n : Nat) : aop C g m (.lenA n) = some (.int .i64 n, m) := Eq.trans rfl rfl

def max2V (a b : AV) : Option AV :=
  match a, b with
  | .int k a, .int k' b => if k = k' then some (.int k (if b > a then b else a)) else none
  | _, _ => none
theorem max2V_int (k : IntKind) (a b : Int) : max2V (.int k a) (.int k b) = some (.int k (if b > a then b else a)) := by simp [max2V]
theorem aop_max2 (x y : X) : aop C g m (.max2 x y) = valOf m (max2V (g x) (g y)) := aop_of_light rfl
def min2V (a b : AV) : Option AV :=
  match a, b with
  | .int k a, .int k' b => if k = k' then some (.int k (if b < a then b else a)) else none
  | _, _ => none
theorem min2V_int (k : IntKind) (a b : Int) : min2V (.int k a) (.int k b) = some (.int k (if b < a then b else a)) := by simp [min2V]
theorem aop_min2 (x y : X) : aop C g m (.min2 x y) = valOf m (min2V (g x) (g y)) := aop_of_light rfl

theorem aop_build (zero : List AV) (parts : List (Nat × Nat × X)) : aop C g m (.build zero parts) = valOf m ((fillParts g zero parts).map .agg) := aop_of_light rfl
theorem aop_load (a : Bool) (sz : Nat) (x : X) : aop C g m (.load a sz x) = valOf m (loadAt m.H a sz (g x)) := aop_of_memop rfl
theorem aop_alloc (zero : List AV) : aop C g ⟨H, e⟩ (.alloc zero) = some (.ptr (some (H.length, 0)), ⟨H ++ [.cells zero true], e⟩) := Eq.trans rfl rfl

def boxV (H : List Blk) (e : Option Nat) (cs : Option (List AV)) : Option (AV × Mem) :=
  match cs with
  | some cs => some (.ptr (some (H.length, 0)), ⟨H ++ [.cells cs true], e⟩)
  | none => none
theorem boxV_some (cs : List AV) : boxV H e (some cs) = some (.ptr (some (H.length, 0)), ⟨H ++ [.cells cs true], e⟩) := Eq.trans rfl rfl
theorem aop_box (x : X) : aop C g ⟨H, e⟩ (.box x) = boxV H e (cellsOf (g x)) := by
  rw [aop_of_making rfl]
  have h : making g (.box x) = (cellsOf (g x)).map fun cs => (cs, fun b => .ptr (some (b, 0))) := rfl
  rw [h]
  cases cellsOf (g x) <;> rfl

def buildSliceV (H : List Blk) (e : Option Nat) (sz len : Nat) (cs : Option (List AV)) : Option (AV × Mem) :=
  match cs with
  | some cs => some (.slice (some (H.length, 0)) sz len (some len), ⟨H ++ [.cells cs true], e⟩)
  | none => none
theorem buildSliceV_some (sz len : Nat) (cs : List AV) : buildSliceV H e sz len (some cs) = some (.slice (some (H.length, 0)) sz len (some len), ⟨H ++ [.cells cs true], e⟩) := Eq.trans rfl rfl
theorem aop_buildSlice (sz len : Nat) (zero : List AV) (parts : List (Nat × Nat × X)) : aop C g ⟨H, e⟩ (.buildSlice sz len zero parts) = buildSliceV H e sz len (fillParts g zero parts) := by
  rw [aop_of_making rfl]
  have h : making g (.buildSlice sz len zero parts) = (fillParts g zero parts).map fun cs => (cs, fun b => .slice (some (b, 0)) sz len (some len)) := rfl
  rw [h]
  cases fillParts g zero parts <;> rfl

/-- a store -/
def storeV (H : List Blk) (e : Option Nat) (sz : Nat) (a x : AV) : Option (AV × Mem) :=
  match a, cellsOf x with
  | .ptr (some (b, o)), some new => match H[b]? with
    | some (.cells cs true) =>
      if new.length = sz ∧ 0 < sz ∧ o + sz ≤ cs.length then
        some (.tup [], ⟨H.set b (.cells (setRange cs o new) true), if (new.all fun v => v.under (b + 1)) then e else minEsc e b⟩)
      else none
    | _ => none
  | _, _ => none
theorem aop_store (sz : Nat) (a x : X) : aop C g ⟨H, e⟩ (.store sz a x) = storeV H e sz (g a) (g x) := by
  rw [aop_of_heavy rfl]; rfl

def callV (C : FuncId → List AV → Mem → Option (AV × Mem)) (f : AV) (args : List AV) (m : Mem) : Option (AV × Mem) :=
  match f with
  | .fn f first captured => C f (first ++ args ++ captured) m
  | _ => none
theorem callV_fn (f : FuncId) (first captured args : List AV) : callV C (.fn f first captured) args m = C f (first ++ args ++ captured) m := Eq.trans rfl rfl
theorem aop_call (f : X) (args : List X) : aop C g m (.call f args) = callV C (g f) (args.map g) m := by
  rw [aop_of_heavy rfl]
  rfl

def makeSliceV (H : List Blk) (e : Option Nat) (sz bytes : Nat) (zero : List AV) (len cap : AV) : Option (AV × Mem) :=
  match len, cap with
  | .int .i64 l, .int .i64 c => if 0 ≤ l ∧ l = c ∧ l * bytes ≤ maxBytes then
      some (.slice (some (H.length, 0)) sz l.toNat (some l.toNat), ⟨H ++ [.cells (zeros l.toNat zero) true], e⟩) else none
  | _, _ => none
theorem makeSliceV_int (sz bytes : Nat) (zero : List AV) (l c : Int) : makeSliceV H e sz bytes zero (.int .i64 l) (.int .i64 c) = if 0 ≤ l ∧ l = c ∧ l * bytes ≤ maxBytes then
      some (.slice (some (H.length, 0)) sz l.toNat (some l.toNat), ⟨H ++ [.cells (zeros l.toNat zero) true], e⟩) else none := rfl
theorem aop_makeSlice (sz bytes : Nat) (zero : List AV) (len cap : X) : aop C g ⟨H, e⟩ (.makeSlice sz bytes zero len cap) = makeSliceV H e sz bytes zero (g len) (g cap) := by
  rw [aop_of_heavy rfl]; rfl

def appendV (H : List Blk) (e : Option Nat) (str : Bool) (sz bytes : Nat) (s x : AV) : Option (AV × Mem) :=
  match s with
  | .slice none _ _ _ => match srcCells str H x with
    | some (n, cs) => if n = 0 then some (nilSlice, ⟨H, e⟩)
        else if n * bytes ≤ maxBytes ∧ cs.length = n * sz then some (.slice (some (H.length, 0)) sz n none, ⟨H ++ [.cells cs true], e⟩) else none
    | none => none
  | .slice (some (b, o)) sz' n cap => match H[b]?, srcCells str H x with
    | some (.cells old wr), some (k, cs) =>
      if sz' = sz ∧ (n + k) * bytes ≤ maxBytes ∧ cs.length = k * sz ∧ o + n * sz ≤ old.length then
        if cap = some 0 ∧ 0 < k then some (.slice (some (H.length, 0)) sz (n + k) none, ⟨H ++ [.cells cs true], e⟩)
        else if wr then some (.slice (some (H.length, 0)) sz (n + k) none, ⟨H.set b .dead ++ [.cells ((old.drop o).take (n * sz) ++ cs) true], e⟩)
        else none
      else none
    | _, _ => none
  | _ => none
theorem aop_append (str : Bool) (sz bytes : Nat) (s x : X) : aop C g ⟨H, e⟩ (.append str sz bytes s x) = appendV H e str sz bytes (g s) (g x) := by
  rw [aop_of_heavy rfl]; rfl

theorem binop_add (k : IntKind) (a b : Int) : binop 0 .add (.int k a) (.int k b) = some (.int k (k.wrap (a + b))) := by simp [binop, intOp]
theorem binop_sub (k : IntKind) (a b : Int) : binop 0 .sub (.int k a) (.int k b) = some (.int k (k.wrap (a - b))) := by simp [binop, intOp]
theorem binop_mul (k : IntKind) (a b : Int) : binop 0 .mul (.int k a) (.int k b) = some (.int k (k.wrap (a * b))) := by simp [binop, intOp]
theorem binop_quo (k : IntKind) (a b : Int) : binop 0 .quo (.int k a) (.int k b) = if b = 0 then none else some (.int k (k.wrap (a.tdiv b))) := by simp [binop, intOp]
theorem binop_rem (k : IntKind) (a b : Int) : binop 0 .rem (.int k a) (.int k b) = if b = 0 then none else some (.int k (a.tmod b)) := by simp [binop, intOp]
theorem binop_eql (k : IntKind) (a b : Int) : binop 0 .eql (.int k a) (.int k b) = some (.bool (decide (a = b))) := by simp [binop, intOp]
theorem binop_neq (k : IntKind) (a b : Int) : binop 0 .neq (.int k a) (.int k b) = some (.bool (!decide (a = b))) := by simp [binop, intOp]
theorem binop_lss (k : IntKind) (a b : Int) : binop 0 .lss (.int k a) (.int k b) = some (.bool (decide (a < b))) := by simp [binop, intOp]
theorem binop_leq (k : IntKind) (a b : Int) : binop 0 .leq (.int k a) (.int k b) = some (.bool (decide (a ≤ b))) := by simp [binop, intOp]
theorem binop_gtr (k : IntKind) (a b : Int) : binop 0 .gtr (.int k a) (.int k b) = some (.bool (decide (b < a))) := by simp [binop, intOp]
theorem binop_geq (k : IntKind) (a b : Int) : binop 0 .geq (.int k a) (.int k b) = some (.bool (decide (b ≤ a))) := by simp [binop, intOp]
def shlI (k : IntKind) (a b : Int) : Int := k.wrap (a * 2 ^ (min b.toNat k.bits))
def shrI (k : IntKind) (a b : Int) : Int := a.fdiv (2 ^ (min b.toNat k.bits))
def andI (k : IntKind) (a b : Int) : Int := k.wrap (BitVec.ofInt k.bits a &&& BitVec.ofInt k.bits b).toNat
def orI (k : IntKind) (a b : Int) : Int := k.wrap (BitVec.ofInt k.bits a ||| BitVec.ofInt k.bits b).toNat
def xorI (k : IntKind) (a b : Int) : Int := k.wrap (BitVec.ofInt k.bits a ^^^ BitVec.ofInt k.bits b).toNat
def andNotI (k : IntKind) (a b : Int) : Int := k.wrap (BitVec.ofInt k.bits a &&& ~~~BitVec.ofInt k.bits b).toNat
theorem binop_shl (k k' : IntKind) (a b : Int) : binop 0 .shl (.int k a) (.int k' b) = if b < 0 then none else some (.int k (shlI k a b)) := by simp [binop, intOp, shlI]
theorem binop_shr (k k' : IntKind) (a b : Int) : binop 0 .shr (.int k a) (.int k' b) = if b < 0 then none else some (.int k (shrI k a b)) := by simp [binop, intOp, shrI]
theorem binop_band (k : IntKind) (a b : Int) : binop 0 .and (.int k a) (.int k b) = some (.int k (andI k a b)) := by simp [binop, intOp, andI]
theorem binop_bor (k : IntKind) (a b : Int) : binop 0 .or (.int k a) (.int k b) = some (.int k (orI k a b)) := by simp [binop, intOp, orI]
theorem binop_bxor (k : IntKind) (a b : Int) : binop 0 .xor (.int k a) (.int k b) = some (.int k (xorI k a b)) := by simp [binop, intOp, xorI]
theorem binop_bandnot (k : IntKind) (a b : Int) : binop 0 .andNot (.int k a) (.int k b) = some (.int k (andNotI k a b)) := by simp [binop, intOp, andNotI]
theorem binop_beql (a b : Bool) : binop 2 .eql (.bool a) (.bool b) = some (.bool (a == b)) := Eq.trans rfl rfl
theorem binop_bneq (a b : Bool) : binop 2 .neq (.bool a) (.bool b) = some (.bool (!(a == b))) := Eq.trans rfl rfl
theorem binop_seql (a b : ByteArray) : binop 1 .eql (.str a) (.str b) = some (.bool (decide (a = b))) := Eq.trans rfl rfl
theorem binop_sneq (a b : ByteArray) : binop 1 .neq (.str a) (.str b) = some (.bool (!decide (a = b))) := Eq.trans rfl rfl
theorem unop_neg (k : IntKind) (n : Int) : unop .neg (.int k n) = some (.int k (k.wrap (0 - n))) := Eq.trans rfl rfl
theorem unop_not (b : Bool) : unop .not (.bool b) = some (.bool !b) := Eq.trans rfl rfl

theorem setOuts_nil : setOuts tm loc [] = tm := Eq.trans rfl rfl
theorem setOuts_cons (s j : Nat) (rest : List (Nat × Nat)) : setOuts tm loc ((s, j) :: rest) = setOuts (tm.set s ((loc[j]?).getD .undef)) loc rest := Eq.trans rfl rfl

/-! memory -/
theorem cellsAt_new0 (l : List Blk) : cellsAt (H ++ l) H.length = cellsAt l 0 := by simp [cellsAt, List.getElem?_append_right]
theorem cellsAt_newk (l : List Blk) (k : Nat) : cellsAt (H ++ l) (H.length + k) = cellsAt l k := by simp [cellsAt, List.getElem?_append_right]
theorem cellsAt_cons0 (cs : List AV) (wr : Bool) (l : List Blk) : cellsAt (.cells cs wr :: l) 0 = some cs := Eq.trans rfl rfl
theorem cellsAt_consk (b : Blk) (l : List Blk) (k : Nat) : cellsAt (b :: l) (k + 1) = cellsAt l k := Eq.trans rfl rfl
theorem cellsAt_old {b : Nat} {cs : List AV} (l : List Blk) (h : cellsAt H b = some cs) : cellsAt (H ++ l) b = some cs := by
  unfold cellsAt at *
  cases hb : H[b]? with
  | none => rw [hb] at h; cases h
  | some x =>
    have hlt := (List.getElem?_eq_some_iff.mp hb).1
    rw [List.getElem?_append_left hlt, hb]
    rw [hb] at h
    exact h

def partOf (agg : Bool) (cs : Option (List AV)) (o sz : Nat) : Option AV :=
  match cs with
  | some cs => part agg cs o sz
  | none => none
theorem partOf_some (agg : Bool) (cs : List AV) (o sz : Nat) : partOf agg (some cs) o sz = part agg cs o sz := Eq.trans rfl rfl
theorem loadAt_ptr (agg : Bool) (sz b o : Nat) (L : List Blk) : loadAt L agg sz (.ptr (some (b, o))) = partOf agg (cellsAt L b) o sz := by
  have h : loadAt L agg sz (.ptr (some (b, o))) = match cellsAt L b with
    | none => none
    | some cs => if agg then (if o + sz ≤ cs.length then some (.agg ((cs.drop o).take sz)) else none) else cs[o]? := rfl
  rw [h]
  cases cellsAt L b <;> rfl
theorem part_false (cs : List AV) (o sz : Nat) : part false cs o sz = cs[o]? := Eq.trans rfl rfl
theorem part_true (cs : List AV) (o sz : Nat) : part true cs o sz = if o + sz ≤ cs.length then some (.agg ((cs.drop o).take sz)) else none := Eq.trans rfl rfl
theorem part_f0 (c : AV) (cs : List AV) (sz : Nat) : part false (c :: cs) 0 sz = some c := Eq.trans rfl rfl
theorem part_fk (c : AV) (cs : List AV) (k sz : Nat) : part false (c :: cs) (k + 1) sz = part false cs k sz := Eq.trans rfl rfl
theorem part_t0 (c : AV) (cs : List AV) (sz : Nat) : part true (c :: cs) 0 sz = if sz ≤ cs.length + 1 then some (.agg ((c :: cs).take sz)) else none := by
  rw [part_true]; simp
theorem part_tk (c : AV) (cs : List AV) (k sz : Nat) : part true (c :: cs) (k + 1) sz = part true cs k sz := by
  rw [part_true, part_true]
  have : (k + 1 + sz ≤ (c :: cs).length) ↔ (k + sz ≤ cs.length) := by simp; omega
  simp only [this, List.drop_succ_cons]

theorem cellsOf_agg (cs : List AV) : cellsOf (.agg cs) = some cs := Eq.trans rfl rfl
theorem cellsOf_int (k : IntKind) (n : Int) : cellsOf (.int k n) = some [.int k n] := Eq.trans rfl rfl
theorem cellsOf_bool (b : Bool) : cellsOf (.bool b) = some [.bool b] := Eq.trans rfl rfl
theorem cellsOf_str (s : ByteArray) : cellsOf (.str s) = some [.str s] := Eq.trans rfl rfl
theorem cellsOf_ptr (p : Option (Nat × Nat)) : cellsOf (.ptr p) = some [.ptr p] := Eq.trans rfl rfl
theorem cellsOf_slice (p : Option (Nat × Nat)) (sz n : Nat) (c : Option Nat) : cellsOf (.slice p sz n c) = some [.slice p sz n c] := Eq.trans rfl rfl
theorem cellsOf_fn (f : FuncId) (a b : List AV) : cellsOf (.fn f a b) = some [.fn f a b] := Eq.trans rfl rfl

/-! two ways that meet again -/
theorem merge_normal (c : Prop) [Decidable c] (t t' : List AV) (m : Mem) : (if c then some (Ex.normal, (⟨t, m⟩ : St)) else some (Ex.normal, ⟨t', m⟩)) = some (Ex.normal, ⟨if c then t else t', m⟩) := by split <;> rfl
theorem merge_cons (c : Prop) [Decidable c] (a b : AV) (az bs : List AV) : (if c then a :: az else b :: bs) = (if c then a else b) :: (if c then az else bs) := by split <;> rfl
theorem merge_bool (c : Prop) [Decidable c] (a b : Bool) : (if c then AV.bool a else AV.bool b) = AV.bool (if c then a else b) := by split <;> rfl
theorem merge_int (c : Prop) [Decidable c] (k : IntKind) (a b : Int) : (if c then AV.int k a else AV.int k b) = AV.int k (if c then a else b) := by split <;> rfl

/-! the end of a call -/
theorem finRun_eq (F : AFun) (m : Mem) (st : St) : finRun F m st = match resultList st.tm st.m.H F.results with
  | some vs => finish F.mode m.H.length m.esc (tupled vs) st.m
  | none => none := rfl
theorem resultList_nil (L : List Blk) : resultList tm L [] = some [] := Eq.trans rfl rfl
def consV (a : Option AV) (az : Option (List AV)) : Option (List AV) :=
  match a, az with
  | some v, some vs => some (v :: vs)
  | _, _ => none
theorem consV_some (v : AV) (vs : List AV) : consV (some v) (some vs) = some (v :: vs) := Eq.trans rfl rfl
theorem resultList_tmp (L : List Blk) (s : Nat) (rs : List AR) : resultList tm L (.tmp s :: rs) = consV (some ((tm[s]?).getD .undef)) (resultList tm L rs) := by
  rw [resultList]; cases resultList tm L rs <;> rfl
theorem resultList_cell (L : List Blk) (s : Nat) (agg : Bool) (sz : Nat) (rs : List AR) : resultList tm L (.cell s agg sz :: rs) = consV (loadAt L agg sz ((tm[s]?).getD .undef)) (resultList tm L rs) := by
  rw [resultList]; cases resultList tm L rs <;> simp only [resultOf] <;> cases loadAt L agg sz ((tm[s]?).getD .undef) <;> rfl

def finV (F : AFun) (m : Mem) (vs : Option (List AV)) (m' : Mem) : Option (AV × Mem) :=
  match vs with
  | some vs => finish F.mode m.H.length m.esc (tupled vs) m'
  | none => none
theorem finRun_finV (F : AFun) (m : Mem) (st : St) : finRun F m st = finV F m (resultList st.tm st.m.H F.results) st.m := Eq.trans rfl rfl
theorem finV_some (F : AFun) (m : Mem) (vs : List AV) (m' : Mem) : finV F m (some vs) m' = finish F.mode m.H.length m.esc (tupled vs) m' := Eq.trans rfl rfl
theorem finish_zero (v : AV) (lim : Nat) (e0 e1 : Option Nat) (L : List Blk) : finish 0 lim e0 v ⟨L, e1⟩ = some (v, ⟨L, joinEsc e0 e1⟩) := Eq.trans rfl rfl
theorem finish_one (v : AV) (e0 : Option Nat) (l : List Blk) (h : v.under H.length = true) : finish 1 H.length e0 v ⟨H ++ l, none⟩ = some (v, ⟨H, e0⟩) := by
  simp [finish, h, clean]
theorem finish_one' (v : AV) (e0 : Option Nat) (h : v.under H.length = true) : finish 1 H.length e0 v ⟨H, none⟩ = some (v, ⟨H, e0⟩) := by
  simp [finish, h, clean]
/-- a new block, named by the result -/
theorem finish_two_slice (sz n : Nat) (c : Option Nat) (cs : List AV) (wr : Bool) (e0 : Option Nat) (h : (cs.all fun c => c.under H.length) = true) :
    finish 2 H.length e0 (.slice (some (H.length, 0)) sz n c) ⟨H ++ [.cells cs wr], none⟩ = some (.slice (some (H.length, 0)) sz n c, ⟨H ++ [.cells cs wr], e0⟩) := by
  have hr : dedup (AV.roots H.length (.slice (some (H.length, 0)) sz n c)) = [H.length] := by simp [AV.roots, dedup]
  unfold finish
  simp only [hr]
  have h2 : ([H.length].all fun b => flatBlk H.length (H ++ [Blk.cells cs wr])[b]?) = true := by
    simp [flatBlk, List.getElem?_append_right]
    simpa using h
  simp only [clean, h2, and_self, if_true]
  simp [AV.rename, renum, List.getElem?_append_right]
theorem finish_two_at {G : List Blk} {j sz n o : Nat} {c : Option Nat} {cs : List AV} {wr : Bool} (e0 : Option Nat) (hG : G[j]? = some (.cells cs wr)) (h : (cs.all fun c => c.under H.length) = true) :
    finish 2 H.length e0 (.slice (some (H.length + j, o)) sz n c) ⟨H ++ G, none⟩ = some (.slice (some (H.length, o)) sz n c, ⟨H ++ [.cells cs wr], e0⟩) := by
  have hlt : ¬ H.length + j < H.length := by omega
  have hr : dedup (AV.roots H.length (.slice (some (H.length + j, o)) sz n c)) = [H.length + j] := by
    unfold AV.roots
    rw [if_neg hlt]
    rfl
  have hb : (H ++ G)[H.length + j]? = some (.cells cs wr) := by rw [List.getElem?_append_right (by omega)]; simpa using hG
  unfold finish
  simp only [hr]
  have h2 : ([H.length + j].all fun b => flatBlk H.length (H ++ G)[b]?) = true := by
    simp only [List.all_cons, List.all_nil, Bool.and_true, hb, flatBlk]
    exact h
  simp only [clean, h2, and_self, if_true]
  simp [AV.rename, renum, hb, hlt]
theorem tupled_one (v : AV) : tupled [v] = v := Eq.trans rfl rfl
theorem tupled_nil : tupled [] = .tup [] := Eq.trans rfl rfl
theorem tupled_two (a b : AV) (vs : List AV) : tupled (a :: b :: vs) = .tup (a :: b :: vs) := Eq.trans rfl rfl
theorem under_int (n : Nat) (k : IntKind) (x : Int) : (AV.int k x).under n = true := by simp [AV.under]
theorem under_bool (n : Nat) (x : Bool) : (AV.bool x).under n = true := by simp [AV.under]
theorem under_str (n : Nat) (x : ByteArray) : (AV.str x).under n = true := by simp [AV.under]
theorem under_agg (n : Nat) (x : List AV) : (AV.agg x).under n = AV.under.go n x := by simp [AV.under]
theorem under_tup (n : Nat) (x : List AV) : (AV.tup x).under n = AV.under.go n x := by simp [AV.under]
theorem under_cons (n : Nat) (a : AV) (x : List AV) : AV.under.go n (a :: x) = (a.under n && AV.under.go n x) := Eq.trans rfl rfl
theorem under_nil (n : Nat) : AV.under.go n [] = true := Eq.trans rfl rfl

theorem blkAt_new0 (l : List Blk) : (H ++ l)[H.length]? = l[0]? := by simp [List.getElem?_append_right]
theorem blkAt_newk (l : List Blk) (k : Nat) : (H ++ l)[H.length + k]? = l[k]? := by simp [List.getElem?_append_right]
theorem set_new0 (l : List Blk) (b : Blk) : (H ++ l).set H.length b = H ++ l.set 0 b := by simp [List.set_append_right]
theorem set_newk (l : List Blk) (b : Blk) (k : Nat) : (H ++ l).set (H.length + k) b = H ++ l.set k b := by simp [List.set_append_right]

/-- a store whose block and cells are told -/
def storeAt (H : List Blk) (e : Option Nat) (b : Nat) (blk : Option Blk) (sz o : Nat) (new : Option (List AV)) : Option (AV × Mem) :=
  match new, blk with
  | some new, some (Blk.cells cs true) => if new.length = sz ∧ 0 < sz ∧ o + sz ≤ cs.length then
        some (.tup [], ⟨H.set b (.cells (setRange cs o new) true), if (new.all fun v => v.under (b + 1)) then e else minEsc e b⟩) else none
  | _, _ => none
theorem storeV_ptr (L : List Blk) (sz b o : Nat) (x : AV) : storeV L e sz (.ptr (some (b, o))) x = storeAt L e b L[b]? sz o (cellsOf x) := by
  unfold storeV storeAt
  cases cellsOf x with
  | none => rfl
  | some new =>
    simp only []
    cases L[b]? with
    | none => rfl
    | some B => cases B with
      | dead => rfl
      | cells cs wr => cases wr <;> rfl
theorem storeAt_cells (L : List Blk) (b : Nat) (cs new : List AV) (sz o : Nat) : storeAt L e b (some (.cells cs true)) sz o (some new) =
    if new.length = sz ∧ 0 < sz ∧ o + sz ≤ cs.length then some (.tup [], ⟨L.set b (.cells (setRange cs o new) true), if (new.all fun v => v.under (b + 1)) then e else minEsc e b⟩) else none := Eq.trans rfl rfl
theorem setRange_0 (c : AV) (cs : List AV) (x : AV) (xs : List AV) : setRange (c :: cs) 0 (x :: xs) = x :: setRange cs 0 xs := by simp [setRange]
theorem setRange_k (c : AV) (cs : List AV) (k : Nat) (xs : List AV) : setRange (c :: cs) (k + 1) xs = c :: setRange cs k xs := by
  simp [setRange, Nat.add_right_comm]
theorem setRange_nil (cs : List AV) : setRange cs 0 [] = cs := by simp [setRange]
theorem all_cons (p : AV → Bool) (c : AV) (cs : List AV) : (c :: cs).all p = (p c && cs.all p) := rfl
theorem all_nil (p : AV → Bool) : ([] : List AV).all p = true := Eq.trans rfl rfl

theorem wrap64 {x : Int} (h1 : -9223372036854775808 ≤ x) (h2 : x ≤ 9223372036854775807) : IntKind.i64.wrap x = x := by
  have : IntKind.i64.wrap x = x := by
    unfold IntKind.wrap
    simp [IntKind.signed, IntKind.bits]
    omega
  exact this
end
attribute [go_sem] Nat.mul_one
attribute [go_sem] run_seq run_cond run_block run_region run_draw run_skip run_exit run_ret thenRun_normal thenRun_ret thenRun_exit thenRun_none thenRun_ite inBlock_normal inBlock_ret inBlock_exit inBlock_none inBlock_ite condOf_bool pickRun_some outRun_some outRun_none outRun_ite endCall_normal endCall_ret endCall_exit endCall_none endCall_ite aops_nil aops_cons aops_guard opThen_some opThen_none opThen_ite guardP_true guardP_false guardP_some guardP_ite guardThen_some guardThen_ite guardOf_true guardOf_false guardOf_tup dops_nil dops_cons dops_again dops_guard dops_guard_again toldAnew_nil toldAnew_cons toldAnew_guard memop_load get_t get_l get_c valOf_some valOf_none valOf_ite aop_mv aop_bin pickV_bool aop_pick aop_un aop_makeFunc convV_int aop_conv eqCellsV_agg aop_eqCells fieldAddrV_ptr aop_fieldAddr fieldV_agg aop_field indexAddrSV_slice aop_indexAddrS indexAddrAV_ptr aop_indexAddrA indexAV_agg aop_indexA indexSV_str aop_indexS extractV_tup aop_extract lenV_slice aop_len lenStrV_str aop_lenStr aop_lenA max2V_int aop_max2 min2V_int aop_min2 aop_build aop_load aop_alloc boxV_some aop_box buildSliceV_some aop_buildSlice aop_store callV_fn aop_call makeSliceV_int aop_makeSlice aop_append binop_add binop_sub binop_mul binop_quo binop_rem binop_eql binop_neq binop_lss binop_leq binop_gtr binop_geq binop_shl binop_shr binop_band binop_bor binop_bxor binop_bandnot binop_beql binop_bneq binop_seql binop_sneq unop_neg unop_not setOuts_nil setOuts_cons cellsAt_new0 cellsAt_newk cellsAt_cons0 cellsAt_consk partOf_some loadAt_ptr part_f0 part_fk part_t0 part_tk blkAt_new0 blkAt_newk set_new0 set_newk storeV_ptr storeAt_cells setRange_0 setRange_k setRange_nil all_cons all_nil cellsOf_agg cellsOf_int cellsOf_bool cellsOf_str cellsOf_ptr cellsOf_slice cellsOf_fn merge_normal merge_cons merge_bool merge_int resultList_nil consV_some resultList_tmp resultList_cell finRun_finV finV_some finish_zero finish_one finish_one' finish_two_slice tupled_one tupled_nil tupled_two under_int under_bool under_str under_agg under_tup under_cons under_nil List.map_cons List.map_nil List.getElem?_cons_zero List.getElem?_cons_succ List.getElem?_nil Option.getD_some Option.getD_none List.nil_append List.cons_append List.append_nil List.append_assoc List.set_cons_zero List.set_cons_succ List.length_cons List.length_nil List.length_append Nat.zero_add Nat.add_zero List.take_succ_cons List.take_zero List.drop_succ_cons List.drop_zero if_true if_false Bool.not_true Bool.not_false Bool.true_eq_false Bool.false_and Bool.and_false Bool.or_true Bool.or_false Bool.true_or Bool.false_or Nat.lt_add_one Nat.succ_pos Bool.if_false_right Bool.if_true_left Bool.if_true_right Bool.if_false_left Bool.decide_eq_true Int.toNat_natCast Int.natCast_nonneg Int.ofNat_lt ite_self Bool.true_and Bool.and_true Bool.false_eq_true Bool.not_eq_true' decide_eq_true_eq true_and and_true Option.map_some Option.map_none

end Go.Proofs.Ytlocjmbfcdfjfaa.Slim

/- Rows of loads: how they lie in memory, and the laws' own small functions. -/
namespace Go.Proofs.Ytlocjmbfcdfjfaa.Slim
open Go
set_option linter.unusedSimpArgs false
set_option linter.unusedVariables false

/-- a load: its place and its weight -/
abbrev Ld := Int × Int
def encL : List Ld → List AV
  | [] => []
  | l :: ls => .int .i64 l.1 :: .int .i64 l.2 :: encL ls

theorem encL_length : ∀ ls : List Ld, (encL ls).length = ls.length * 2
  | [] => rfl
  | l :: ls => by simp [encL, encL_length ls]; omega

theorem encL_append : ∀ a b : List Ld, encL (a ++ b) = encL a ++ encL b
  | [], b => rfl
  | l :: a, b => by simp [encL, encL_append a b]

theorem part_encL {ls : List Ld} {i : Nat} {l : Ld} (h : ls[i]? = some l) : part true (encL ls) (i * 2) 2 = some (.agg [.int .i64 l.1, .int .i64 l.2]) := by
  induction ls generalizing i with
  | nil => simp at h
  | cons a ls ih =>
    cases i with
    | zero => simp at h; subst h; simp [encL, part]
    | succ i =>
      simp at h
      rw [show (i + 1) * 2 = i * 2 + 1 + 1 by omega, encL, part_tk, part_tk]
      exact ih h
theorem part_encL0 {ls : List Ld} {i : Nat} {l : Ld} (sz : Nat) (h : ls[i]? = some l) : part false (encL ls) (i * 2) sz = some (.int .i64 l.1) := by
  induction ls generalizing i with
  | nil => simp at h
  | cons a ls ih =>
    cases i with
    | zero => simp at h; subst h; simp [encL, part]
    | succ i =>
      simp at h
      rw [show (i + 1) * 2 = i * 2 + 1 + 1 by omega, encL, part_fk, part_fk]
      exact ih h
theorem part_encL1 {ls : List Ld} {i : Nat} {l : Ld} (sz : Nat) (h : ls[i]? = some l) : part false (encL ls) (i * 2 + 1) sz = some (.int .i64 l.2) := by
  induction ls generalizing i with
  | nil => simp at h
  | cons a ls ih =>
    cases i with
    | zero => simp at h; subst h; simp [encL, part]
    | succ i =>
      simp at h
      rw [show (i + 1) * 2 + 1 = i * 2 + 1 + 1 + 1 by omega, encL, part_fk, part_fk]
      exact ih h

/-- a slice of loads, wherever it lies -/
abbrev slL (b n : Nat) (c : Option Nat) : AV := .slice (some (b, 0)) 2 n c

theorem cells_mono {H : List Blk} {b : Nat} {cs : List AV} (h : cellsAt H b = some cs) (G : List Blk) : cellsAt (H ++ G) b = some cs := cellsAt_old G h

theorem wrap_succ {i : Nat} (h : i < 9223372036854775807) : IntKind.i64.wrap ((i : Int) + 1) = ((i + 1 : Nat) : Int) := by
  rw [wrap64 (by omega) (by omega)]; omega

variable {pr : Prims} {H : List Blk} {e : Option Nat}

theorem e_l_toLoad (x a : Int) : call T pr f_l_toLoad [.agg [.int .i64 x, .int .i64 a]] ⟨H, e⟩ = some (.agg [.int .i64 x, .int .i64 a], ⟨H, e⟩) := by
  rw [call_eq t_l_toLoad]
  simp +contextual only [a_l_toLoad, c_l_toLoad, go_sem, entry, joinEsc, if_pos, reduceIte, Nat.reduceAdd, Nat.reduceLeDiff, Nat.reduceLT, Nat.reduceEqDiff]

theorem e_l_eqLoad (x a y b : Int) : call T pr f_l_eqLoad [.agg [.int .i64 x, .int .i64 a], .agg [.int .i64 y, .int .i64 b]] ⟨H, e⟩ = some (.bool (decide (x = y) && decide (a = b)), ⟨H, e⟩) := by
  rw [call_eq t_l_eqLoad]
  simp +contextual only [a_l_eqLoad, c_l_eqLoad, go_sem, entry, joinEsc, if_pos, reduceIte, Nat.reduceAdd, Nat.reduceLeDiff, Nat.reduceLT, Nat.reduceEqDiff]
  by_cases h1 : x = y <;> by_cases h2 : a = b <;> simp [h1, h2]

theorem e_l_szLoadS (n : Nat) (p : Option (Nat × Nat)) (sz : Nat) (c : Option Nat) (hn : n ≤ maxLen) : call T pr f_l_szLoadS [.slice p sz n c, .int .i64 1048576] ⟨H, e⟩ = some (.int .i64 (if n ≤ 1048576 then 1048576 - n else -1), ⟨H, e⟩) := by
  rw [call_eq t_l_szLoadS]
  have hm : maxLen = 9223372036854775807 := by decide
  simp +contextual only [a_l_szLoadS, c_l_szLoadS, go_sem, entry, joinEsc, if_pos, reduceIte, Nat.reduceAdd, Nat.reduceLeDiff, Nat.reduceLT, Nat.reduceEqDiff]
  rw [wrap64 (by omega) (by omega)]
  by_cases h1 : n ≤ 1048576
  · rw [if_neg (by omega), if_pos h1]
  · rw [if_pos (by omega), if_neg h1]

/-- the loop of eqLoadS -/
theorem loop_l_eqLoadS {b1 b2 : Nat} {c1 c2 : Option Nat} {ls : List Ld} (h1 : cellsAt H b1 = some (encL ls)) (h2 : cellsAt H b2 = some (encL ls)) (hn : ls.length ≤ 9223372036854775806) :
    ∀ (k i : Nat) (x5 x6 x7 : AV), k + i = ls.length → ∃ y5 y6, run T pr (.loop w_l_eqLoadS_1) ⟨[slL b1 ls.length c1, slL b2 ls.length c2, .bool false, .int .i64 i, x7, x5, x6], ⟨H, e⟩⟩ =
      some (.exit 0, ⟨[slL b1 ls.length c1, slL b2 ls.length c2, .bool false, .int .i64 ls.length, x7, y5, y6], ⟨H, e⟩⟩)
  | 0, i, x5, x6, x7, hk => by
    have hi : i = ls.length := by omega
    subst hi
    refine ⟨.bool false, x6, ?_⟩
    rw [run_loop]
    simp +contextual only [w_l_eqLoadS_1, Nat.lt_irrefl, decide_false, go_sem, entry, joinEsc, if_pos, reduceIte, Nat.reduceAdd, Nat.reduceLeDiff, Nat.reduceLT, Nat.reduceEqDiff]
  | k + 1, i, x5, x6, x7, hk => by
    have hi : i < ls.length := by omega
    obtain ⟨y5, y6, ih⟩ := loop_l_eqLoadS (c1 := c1) (c2 := c2) h1 h2 hn k (i + 1) (.bool true) (.bool false) x7 (by omega)
    refine ⟨y5, y6, ?_⟩
    rw [run_loop]
    have hl : ls[i]? = some ls[i] := List.getElem?_eq_getElem hi
    simp +contextual only [w_l_eqLoadS_1, h1, h2, hi, hl, part_encL hl, e_l_eqLoad, wrap_succ (show i < 9223372036854775807 by omega), decide_true, Bool.not_true, go_sem, entry, joinEsc, if_pos, reduceIte, Nat.reduceAdd, Nat.reduceLeDiff, Nat.reduceLT, Nat.reduceEqDiff]
    exact ih

end Go.Proofs.Ytlocjmbfcdfjfaa.Slim

/- The reference's and the program's small functions on rows. -/
namespace Go.Proofs.Ytlocjmbfcdfjfaa.Slim
open Go
set_option linter.unusedSimpArgs false
set_option linter.unusedVariables false

variable {pr : Prims} {H : List Blk} {e : Option Nat}

theorem e_i_within (x a b : Int) : call T pr f_i_within [.int .i64 x, .int .i64 a, .int .i64 b] ⟨H, e⟩ = some (.bool (decide (a ≤ x) && decide (x ≤ b)), ⟨H, e⟩) := by
  rw [call_eq t_i_within]
  simp +contextual only [a_i_within, c_i_within, go_sem, entry, joinEsc, if_pos, reduceIte, Nat.reduceAdd, Nat.reduceLeDiff, Nat.reduceLT, Nat.reduceEqDiff]

theorem e_s_l1In (x a b : Int) : call T pr f_s_l1In [.int .i64 x, .int .i64 a, .int .i64 b] ⟨H, e⟩ = some (.bool (decide (a ≤ x) && decide (x ≤ b)), ⟨H, e⟩) := by
  rw [call_eq t_s_l1In]
  simp +contextual only [a_s_l1In, c_s_l1In, go_sem, entry, joinEsc, if_pos, reduceIte, Nat.reduceAdd, Nat.reduceLeDiff, Nat.reduceLT, Nat.reduceEqDiff]

theorem e_s_l2In (x : Int) : call T pr f_s_l2In [.int .i64 x] ⟨H, e⟩ = some (.bool (decide (0 ≤ x) && decide (x ≤ 60)), ⟨H, e⟩) := by
  rw [call_eq t_s_l2In]
  simp +contextual only [a_s_l2In, c_s_l2In, e_s_l1In, go_sem, entry, joinEsc, if_pos, reduceIte, Nat.reduceAdd, Nat.reduceLeDiff, Nat.reduceLT, Nat.reduceEqDiff]

theorem e_i_isPlace (x : Int) : call T pr f_i_isPlace [.int .i64 x] ⟨H, e⟩ = some (.bool (decide (0 ≤ x) && decide (x ≤ 60)), ⟨H, e⟩) := by
  rw [call_eq t_i_isPlace]
  simp +contextual only [a_i_isPlace, c_i_isPlace, e_i_within, go_sem, entry, joinEsc, if_pos, reduceIte, Nat.reduceAdd, Nat.reduceLeDiff, Nat.reduceLT, Nat.reduceEqDiff]

theorem e_i_isWeight (x : Int) : call T pr f_i_isWeight [.int .i64 x] ⟨H, e⟩ = some (.bool (decide (1 ≤ x) && decide (x ≤ 99)), ⟨H, e⟩) := by
  rw [call_eq t_i_isWeight]
  simp +contextual only [a_i_isWeight, c_i_isWeight, e_i_within, go_sem, entry, joinEsc, if_pos, reduceIte, Nat.reduceAdd, Nat.reduceLeDiff, Nat.reduceLT, Nat.reduceEqDiff]

def okL (l : Ld) : Bool := (decide (0 ≤ l.1) && decide (l.1 ≤ 60)) && (decide (1 ≤ l.2) && decide (l.2 ≤ 99))
def rowOk (ls : List Ld) : Bool := decide (ls.length ≤ 12) && ls.all okL

theorem e_i_IsRow_1 (x y : Int) : call T pr f_i_IsRow_1 [.agg [.int .i64 x, .int .i64 y]] ⟨H, e⟩ = some (.bool (!okL (x, y)), ⟨H, e⟩) := by
  rw [call_eq t_i_IsRow_1]
  simp +contextual only [a_i_IsRow_1, c_i_IsRow_1, e_i_isPlace, e_i_isWeight, go_sem, entry, joinEsc, if_pos, reduceIte, Nat.reduceAdd, Nat.reduceLeDiff, Nat.reduceLT, Nat.reduceEqDiff]
  unfold okL
  by_cases h1 : (decide (0 ≤ x) && decide (x ≤ 60)) = true <;> simp [h1, finish_one, finish_one', under_bool]

/-- the loop of l2Row -/
theorem loop_s_l2Row {b : Nat} {c : Option Nat} {ls : List Ld} (h : cellsAt H b = some (encL ls)) :
    ∀ (k i : Nat) (y3 y4 : AV), k + i = 13 → ∃ z2 z3 z4, run T pr (.loop w_s_l2Row_1) ⟨[slL b ls.length c, .bool false, .int .i64 i, y3, y4], ⟨H, e⟩⟩ =
      some (if ((ls.drop i).take k).all okL = true then Ex.exit 0 else Ex.ret, ⟨[slL b ls.length c, .bool false, z2, z3, z4], ⟨H, e⟩⟩)
  | 0, i, y3, y4, hk => by
    have hi : i = 13 := by omega
    subst hi
    refine ⟨.int .i64 13, .bool false, y4, ?_⟩
    rw [run_loop]
    generalize run T pr (.loop w_s_l2Row_1) = R
    have h12 : ¬ ((13 : Nat) : Int) ≤ 12 := by omega
    simp +contextual only [w_s_l2Row_1, List.take_zero, List.all_nil, h12, decide_false, go_sem, entry, joinEsc, if_pos, reduceIte, Nat.reduceAdd, Nat.reduceLeDiff, Nat.reduceLT, Nat.reduceEqDiff]
    rfl
  | k + 1, i, y3, y4, hk => by
    by_cases hi : i < ls.length
    · have hl : ls[i]? = some ls[i] := List.getElem?_eq_getElem hi
      have h12 : ((i : Nat) : Int) ≤ 12 := by omega
      obtain ⟨z2, z3, z4, ih⟩ := loop_s_l2Row (c := c) h k (i + 1) (.bool true) (.bool false) (by omega)
      rw [List.drop_eq_getElem_cons hi, List.take_succ_cons, List.all_cons]
      have hok : okL ls[i] = ((decide (0 ≤ ls[i].1) && decide (ls[i].1 ≤ 60)) && (decide (1 ≤ ls[i].2) && decide (ls[i].2 ≤ 99))) := rfl
      rw [hok, run_loop]
      generalize run T pr (.loop w_s_l2Row_1) = R at ih ⊢
      cases h1 : (decide (0 ≤ ls[i].1) && decide (ls[i].1 ≤ 60)) with
      | false =>
        refine ⟨.int .i64 i, .bool true, .bool true, ?_⟩
        simp +contextual only [w_s_l2Row_1, h, hi, hl, h1, h12, part_encL0 _ hl, part_encL1 _ hl, e_s_l2In, e_s_l1In, decide_true, go_sem, entry, joinEsc, if_pos, reduceIte, Nat.reduceAdd, Nat.reduceLeDiff, Nat.reduceLT, Nat.reduceEqDiff]
      | true =>
        cases h2 : (decide (1 ≤ ls[i].2) && decide (ls[i].2 ≤ 99)) with
        | false =>
          refine ⟨.int .i64 i, .bool true, .bool true, ?_⟩
          simp +contextual only [w_s_l2Row_1, h, hi, hl, h1, h2, h12, part_encL0 _ hl, part_encL1 _ hl, e_s_l2In, e_s_l1In, decide_true, go_sem, entry, joinEsc, if_pos, reduceIte, Nat.reduceAdd, Nat.reduceLeDiff, Nat.reduceLT, Nat.reduceEqDiff]
        | true =>
          refine ⟨z2, z3, z4, ?_⟩
          simp +contextual only [w_s_l2Row_1, h, hi, hl, h1, h2, h12, part_encL0 _ hl, part_encL1 _ hl, e_s_l2In, e_s_l1In, wrap_succ (show i < 9223372036854775807 by omega), decide_true, go_sem, entry, joinEsc, if_pos, reduceIte, Nat.reduceAdd, Nat.reduceLeDiff, Nat.reduceLT, Nat.reduceEqDiff]
          exact ih
    · refine ⟨.int .i64 i, .bool false, y4, ?_⟩
      rw [run_loop]
      generalize run T pr (.loop w_s_l2Row_1) = R
      have hd : ls.drop i = [] := List.drop_eq_nil_of_le (by omega)
      simp +contextual only [w_s_l2Row_1, hd, List.take_nil, List.all_nil, hi, decide_false, go_sem, entry, joinEsc, if_pos, reduceIte, Nat.reduceAdd, Nat.reduceLeDiff, Nat.reduceLT, Nat.reduceEqDiff]

theorem e_s_l2Row {b : Nat} {c : Option Nat} {ls : List Ld} (h : cellsAt H b = some (encL ls)) : call T pr f_s_l2Row [slL b ls.length c] ⟨H, e⟩ = some (.bool (rowOk ls), ⟨H, e⟩) := by
  obtain ⟨z2, z3, z4, hl⟩ := loop_s_l2Row (pr := pr) (e := none) (c := c) h 13 0 .undef .undef rfl
  rw [call_eq t_s_l2Row]
  have h0 : ((0 : Nat) : Int) = 0 := rfl
  rw [h0] at hl
  simp +contextual only [a_s_l2Row, c_s_l2Row, hl, List.drop_zero, go_sem, entry, joinEsc, if_pos, reduceIte, Nat.reduceAdd, Nat.reduceLeDiff, Nat.reduceLT, Nat.reduceEqDiff]
  have hr : rowOk ls = (decide (ls.length ≤ 12) && (ls.take 13).all okL) := by
    unfold rowOk
    by_cases h12 : ls.length ≤ 12
    · rw [List.take_of_length_le (by omega)]
    · simp [h12]
  rw [hr]
  have hi : ((ls.length : Nat) : Int) ≤ 12 ↔ ls.length ≤ 12 := by omega
  cases h3 : (ls.take 13).all okL <;> simp +contextual only [hi, go_sem, entry, joinEsc, if_pos, reduceIte, Nat.reduceAdd, Nat.reduceLeDiff, Nat.reduceLT, Nat.reduceEqDiff] <;> simp [finish_one']

end Go.Proofs.Ytlocjmbfcdfjfaa.Slim

/- Copies of rows, searches in rows, and moments. -/
namespace Go.Proofs.Ytlocjmbfcdfjfaa.Slim
open Go
set_option linter.unusedSimpArgs false
set_option linter.unusedVariables false

variable {pr : Prims} {H : List Blk} {e : Option Nat}

theorem setRange_encL {X : List Ld} {i : Nat} {a b : Int} (h : i < X.length) : setRange (encL X) (i * 2) [.int .i64 a, .int .i64 b] = encL (X.set i (a, b)) := by
  induction X generalizing i with
  | nil => simp at h
  | cons x X ih =>
    cases i with
    | zero => simp [encL, setRange]
    | succ i =>
      rw [show (i + 1) * 2 = i * 2 + 1 + 1 by omega, encL, setRange_k, setRange_k, ih (by simpa using h)]
      rfl

theorem under_encL (n : Nat) : ∀ ls : List Ld, ((encL ls).all fun c => c.under n) = true
  | [] => rfl
  | l :: ls => by simp [encL, AV.under, under_encL n ls]

theorem zeros_encL : ∀ n, zeros n [.int .i64 0, .int .i64 0] = encL (List.replicate n (0, 0))
  | 0 => rfl
  | n + 1 => by
    have := zeros_encL n
    unfold zeros at *
    simp only [List.replicate_succ, List.flatten_cons, encL, List.cons_append, List.nil_append, this]

theorem take_set_succ {X ls : List Ld} {i : Nat} (hi : i < ls.length) (hX : X.length = ls.length) (h : X.take i = ls.take i) : (X.set i ls[i]).take (i + 1) = ls.take (i + 1) := by
  rw [List.take_succ_eq_append_getElem (by rw [List.length_set]; omega), List.take_succ_eq_append_getElem hi]
  rw [List.take_set_of_le (Nat.le_refl _), h]
  simp

/-- a slice of loads, as a law is handed it: nil or not -/
def ArgL (H : List Blk) (av : AV) (ls : List Ld) : Prop :=
  ∃ p sz c, av = .slice p sz ls.length c ∧ ls.length ≤ maxLen ∧ (ls ≠ [] → sz = 2 ∧ ∃ b, p = some (b, 0) ∧ cellsAt H b = some (encL ls))

/-- the loop of toLoadS -/
theorem loop_l_toLoadS {p : Option (Nat × Nat)} {sz : Nat} {c : Option Nat} {ls : List Ld} {r : AV} (ha : ls ≠ [] → sz = 2 ∧ ∃ b, p = some (b, 0) ∧ cellsAt H b = some (encL ls)) (hn : ls.length ≤ 1048576) :
    ∀ (k i : Nat) (X : List Ld) (y4 : AV), k + i = ls.length → X.length = ls.length → X.take i = ls.take i → ∃ z4, run T pr (.loop w_l_toLoadS_1) ⟨[.slice p sz ls.length c, r, slL H.length ls.length (some ls.length), .int .i64 i, y4], ⟨H ++ [.cells (encL X) true], e⟩⟩ =
      some (Ex.exit 0, ⟨[.slice p sz ls.length c, r, slL H.length ls.length (some ls.length), .int .i64 ls.length, z4], ⟨H ++ [.cells (encL ls) true], e⟩⟩)
  | 0, i, X, y4, hk, hX, ht => by
    have hi : i = ls.length := by omega
    subst hi
    rw [List.take_of_length_le (by omega), List.take_of_length_le (by omega)] at ht
    subst ht
    refine ⟨.bool false, ?_⟩
    rw [run_loop]
    generalize run T pr (.loop w_l_toLoadS_1) = R
    simp +contextual only [w_l_toLoadS_1, Nat.lt_irrefl, decide_false, go_sem, entry, joinEsc, if_pos, reduceIte, Nat.reduceAdd, Nat.reduceLeDiff, Nat.reduceLT, Nat.reduceEqDiff]
  | k + 1, i, X, y4, hk, hX, ht => by
    have hi : i < ls.length := by omega
    have hl : ls[i]? = some ls[i] := List.getElem?_eq_getElem hi
    obtain ⟨rfl, b, rfl, hb⟩ := ha (by intro h; subst h; simp at hi)
    obtain ⟨z4, ih⟩ := loop_l_toLoadS (c := c) (r := r) ha hn k (i + 1) (X.set i ls[i]) (.bool true) (by omega) (by simpa using hX) (take_set_succ hi hX ht)
    refine ⟨z4, ?_⟩
    rw [run_loop]
    generalize run T pr (.loop w_l_toLoadS_1) = R at ih ⊢
    have hle : i * 2 + 2 ≤ (encL X).length := by rw [encL_length]; omega
    simp +contextual only [w_l_toLoadS_1, cells_mono hb, hi, hl, part_encL hl, e_l_toLoad, hle, setRange_encL (show i < X.length by omega), wrap_succ (show i < 9223372036854775807 by omega), decide_true, go_sem, entry, joinEsc, if_pos, reduceIte, Nat.reduceAdd, Nat.reduceLeDiff, Nat.reduceLT, Nat.reduceEqDiff]
    exact ih

theorem e_l_toLoadS {av : AV} {ls : List Ld} (ha : ArgL H av ls) (hn : ls.length ≤ 1048576) : call T pr f_l_toLoadS [av] ⟨H, e⟩ = some (slL H.length ls.length (some ls.length), ⟨H ++ [.cells (encL ls) true], e⟩) := by
  obtain ⟨p, sz, c, rfl, _, ha⟩ := ha
  obtain ⟨z4, hl⟩ := loop_l_toLoadS (pr := pr) (e := none) (c := c) (r := .slice none 0 0 none) ha hn ls.length 0 (List.replicate ls.length (0, 0)) .undef (by omega) (by simp) (by simp)
  rw [call_eq t_l_toLoadS]
  have h0 : ((0 : Nat) : Int) = 0 := rfl
  have hmb : (ls.length : Int) * ((16 : Nat) : Int) ≤ ((maxBytes : Nat) : Int) := by unfold maxBytes; omega
  rw [h0, ← zeros_encL] at hl
  simp +contextual only [a_l_toLoadS, c_l_toLoadS, hmb, hl, under_encL, go_sem, entry, joinEsc, if_pos, reduceIte, Nat.reduceAdd, Nat.reduceLeDiff, Nat.reduceLT, Nat.reduceEqDiff]

end Go.Proofs.Ytlocjmbfcdfjfaa.Slim

/- Searches in rows, and moments. -/
namespace Go.Proofs.Ytlocjmbfcdfjfaa.Slim
open Go
set_option linter.unusedSimpArgs false
set_option linter.unusedVariables false

variable {pr : Prims} {H : List Blk} {e : Option Nat}

abbrev ldV (l : Ld) : AV := .agg [.int .i64 l.1, .int .i64 l.2]

/-- the loop of IndexFunc -/
theorem loop_IndexFunc {b : Nat} {c : Option Nat} {ls : List Ld} {g : FuncId} {first cap : List AV} {p : Ld → Bool} {r : AV} (h : cellsAt H b = some (encL ls)) (hn : ls.length ≤ 9223372036854775806)
    (hf : ∀ l ∈ ls, call T pr g (first ++ AV.agg [.int .i64 l.1, .int .i64 l.2] :: cap) ⟨H, e⟩ = some (.bool (p l), ⟨H, e⟩)) :
    ∀ (k i : Nat) (y3 y6 y7 : AV), k + i = ls.length → ∃ (j : Nat) (z3 z5 z6 z7 : AV), run T pr (.loop w_slices_IndexFunc_Si_Load_i_Load_1) ⟨[slL b ls.length c, .fn g first cap, r, y3, .int .i64 ls.length, .int .i64 i, y6, y7], ⟨H, e⟩⟩ =
      some (if (ls.drop i).any p = true then Ex.ret else Ex.exit 0, ⟨[slL b ls.length c, .fn g first cap, if (ls.drop i).any p = true then .int .i64 j else r, z3, .int .i64 ls.length, z5, z6, z7], ⟨H, e⟩⟩)
  | 0, i, y3, y6, y7, hk => by
    have hi : i = ls.length := by omega
    subst hi
    refine ⟨0, y3, .int .i64 ls.length, .bool false, y7, ?_⟩
    rw [run_loop]
    generalize run T pr (.loop w_slices_IndexFunc_Si_Load_i_Load_1) = R
    simp +contextual only [w_slices_IndexFunc_Si_Load_i_Load_1, Nat.lt_irrefl, decide_false, List.drop_length, List.any_nil, go_sem, entry, joinEsc, if_pos, reduceIte, Nat.reduceAdd, Nat.reduceLeDiff, Nat.reduceLT, Nat.reduceEqDiff]
  | k + 1, i, y3, y6, y7, hk => by
    have hi : i < ls.length := by omega
    have hl : ls[i]? = some ls[i] := List.getElem?_eq_getElem hi
    have hc := hf ls[i] (List.getElem_mem hi)
    rw [run_loop, List.drop_eq_getElem_cons hi, List.any_cons]
    obtain ⟨j, z3, z5, z6, z7, ih⟩ := loop_IndexFunc (c := c) (r := r) h hn hf k (i + 1) (.int .i64 i) (.bool true) (.bool false) (by omega)
    generalize run T pr (.loop w_slices_IndexFunc_Si_Load_i_Load_1) = R at ih ⊢
    cases hp : p ls[i] with
    | true =>
      refine ⟨i, .int .i64 i, .int .i64 i, .bool true, .bool true, ?_⟩
      rw [hp] at hc
      simp +contextual only [w_slices_IndexFunc_Si_Load_i_Load_1, h, hi, hl, part_encL hl, hc, decide_true, go_sem, entry, joinEsc, if_pos, reduceIte, Nat.reduceAdd, Nat.reduceLeDiff, Nat.reduceLT, Nat.reduceEqDiff]
    | false =>
      refine ⟨j, z3, z5, z6, z7, ?_⟩
      rw [hp] at hc
      simp +contextual only [w_slices_IndexFunc_Si_Load_i_Load_1, h, hi, hl, part_encL hl, hc, wrap_succ (show i < 9223372036854775807 by omega), decide_true, go_sem, entry, joinEsc, if_pos, reduceIte, Nat.reduceAdd, Nat.reduceLeDiff, Nat.reduceLT, Nat.reduceEqDiff]
      exact ih

theorem e_IndexFunc {b : Nat} {c : Option Nat} {ls : List Ld} {g : FuncId} {first cap : List AV} {p : Ld → Bool} (h : cellsAt H b = some (encL ls)) (hn : ls.length ≤ 9223372036854775806)
    (hf : ∀ l ∈ ls, call T pr g (first ++ AV.agg [.int .i64 l.1, .int .i64 l.2] :: cap) ⟨H, none⟩ = some (.bool (p l), ⟨H, none⟩)) :
    ∃ j : Nat, call T pr f_slices_IndexFunc_Si_Load_i_Load [slL b ls.length c, .fn g first cap] ⟨H, e⟩ = some (.int .i64 (if ls.any p = true then j else -1), ⟨H, e⟩) := by
  obtain ⟨j, z3, z5, z6, z7, hl⟩ := loop_IndexFunc (pr := pr) (e := none) (c := c) (r := .int .i64 0) h hn hf ls.length 0 .undef .undef .undef rfl
  refine ⟨j, ?_⟩
  have h0 : ((0 : Nat) : Int) = 0 := rfl
  rw [h0] at hl
  rw [call_eq t_slices_IndexFunc_Si_Load_i_Load]
  simp +contextual only [a_slices_IndexFunc_Si_Load_i_Load, c_slices_IndexFunc_Si_Load_i_Load, hl, go_sem, entry, joinEsc, if_pos, reduceIte, Nat.reduceAdd, Nat.reduceLeDiff, Nat.reduceLT, Nat.reduceEqDiff]
  cases hp : ls.any p <;> simp +contextual only [go_sem, entry, joinEsc, if_pos, reduceIte, Nat.reduceAdd, Nat.reduceLeDiff, Nat.reduceLT, Nat.reduceEqDiff]

theorem e_ContainsFunc {b : Nat} {c : Option Nat} {ls : List Ld} {g : FuncId} {first cap : List AV} {p : Ld → Bool} (h : cellsAt H b = some (encL ls)) (hn : ls.length ≤ 9223372036854775806)
    (hf : ∀ l ∈ ls, call T pr g (first ++ AV.agg [.int .i64 l.1, .int .i64 l.2] :: cap) ⟨H, none⟩ = some (.bool (p l), ⟨H, none⟩)) :
    call T pr f_slices_ContainsFunc_Si_Load_i_Load [slL b ls.length c, .fn g first cap] ⟨H, e⟩ = some (.bool (ls.any p), ⟨H, e⟩) := by
  obtain ⟨j, hl⟩ := e_IndexFunc (pr := pr) (e := none) (c := c) h hn hf
  rw [call_eq t_slices_ContainsFunc_Si_Load_i_Load]
  simp +contextual only [a_slices_ContainsFunc_Si_Load_i_Load, c_slices_ContainsFunc_Si_Load_i_Load, hl, go_sem, entry, joinEsc, if_pos, reduceIte, Nat.reduceAdd, Nat.reduceLeDiff, Nat.reduceLT, Nat.reduceEqDiff]
  cases hp : ls.any p <;> simp +contextual [finish_one', under_bool]

theorem e_i_IsRow {b : Nat} {c : Option Nat} {ls : List Ld} (h : cellsAt H b = some (encL ls)) : call T pr f_i_IsRow [slL b ls.length c] ⟨H, e⟩ = some (.bool (rowOk ls), ⟨H, e⟩) := by
  rw [call_eq t_i_IsRow]
  have hi : (12 : Int) < ((ls.length : Nat) : Int) ↔ 12 < ls.length := by omega
  by_cases h12 : ls.length ≤ 12
  · have hc := e_ContainsFunc (pr := pr) (e := none) (c := c) (g := f_i_IsRow_1) (first := []) (cap := []) (p := fun l => !okL l) h (by omega) (fun l _ => e_i_IsRow_1 l.1 l.2)
    have h12' : ¬ 12 < ls.length := by omega
    have hr : rowOk ls = !(ls.any fun l => !okL l) := by
      unfold rowOk
      rw [List.any_eq_not_all_not]
      simp [h12]
    rw [hr]
    simp +contextual only [a_i_IsRow, c_i_IsRow, hc, hi, h12', decide_false, go_sem, entry, joinEsc, if_pos, reduceIte, Nat.reduceAdd, Nat.reduceLeDiff, Nat.reduceLT, Nat.reduceEqDiff]
  · have h12' : 12 < ls.length := by omega
    have hr : rowOk ls = false := by unfold rowOk; simp [h12]
    rw [hr]
    simp +contextual only [a_i_IsRow, c_i_IsRow, hi, h12', decide_true, go_sem, entry, joinEsc, if_pos, reduceIte, Nat.reduceAdd, Nat.reduceLeDiff, Nat.reduceLT, Nat.reduceEqDiff]

/-- a moment, as both sides sum it up -/
def momStep (p : Int) (a : Int) (l : Ld) : Int := IntKind.i64.wrap (a + IntKind.i64.wrap (l.2 * IntKind.i64.wrap (l.1 - p)))
def momW (ls : List Ld) (p : Int) : Int := ls.foldl (momStep p) 0

theorem loop_i_momentAbout {b : Nat} {c : Option Nat} {ls : List Ld} {p : Int} {r : AV} (h : cellsAt H b = some (encL ls)) (hn : ls.length ≤ 9223372036854775806) :
    ∀ (k i : Nat) (a : Int) (G : List Blk) (y4 y8 : AV), k + i = ls.length → ∃ (G' : List Blk) (z4 z8 : AV), run T pr (.loop w_i_momentAbout_1) ⟨[slL b ls.length c, .int .i64 p, r, .int .i64 a, y4, slL b ls.length c, .int .i64 ls.length, .int .i64 i, y8], ⟨H ++ G, e⟩⟩ =
      some (Ex.exit 0, ⟨[slL b ls.length c, .int .i64 p, r, .int .i64 ((ls.drop i).foldl (momStep p) a), z4, slL b ls.length c, .int .i64 ls.length, .int .i64 ls.length, z8], ⟨H ++ G', e⟩⟩)
  | 0, i, a, G, y4, y8, hk => by
    have hi : i = ls.length := by omega
    subst hi
    refine ⟨G, y4, .bool false, ?_⟩
    rw [run_loop]
    generalize run T pr (.loop w_i_momentAbout_1) = R
    simp +contextual only [w_i_momentAbout_1, Nat.lt_irrefl, decide_false, List.drop_length, List.foldl_nil, go_sem, entry, joinEsc, if_pos, reduceIte, Nat.reduceAdd, Nat.reduceLeDiff, Nat.reduceLT, Nat.reduceEqDiff]
  | k + 1, i, a, G, y4, y8, hk => by
    have hi : i < ls.length := by omega
    have hl : ls[i]? = some ls[i] := List.getElem?_eq_getElem hi
    rw [run_loop, List.drop_eq_getElem_cons hi, List.foldl_cons]
    obtain ⟨G', z4, z8, ih⟩ := loop_i_momentAbout (c := c) (p := p) (r := r) h hn k (i + 1) (momStep p a ls[i]) (G ++ [.cells [.int .i64 ls[i].1, .int .i64 ls[i].2] true]) (.ptr (some (H.length + G.length, 0))) (.bool true) (by omega)
    refine ⟨G', z4, z8, ?_⟩
    generalize run T pr (.loop w_i_momentAbout_1) = R at ih ⊢
    simp +contextual only [w_i_momentAbout_1, cells_mono h, hi, hl, part_encL hl, wrap_succ (show i < 9223372036854775807 by omega), decide_true, go_sem, entry, joinEsc, if_pos, reduceIte, Nat.reduceAdd, Nat.reduceLeDiff, Nat.reduceLT, Nat.reduceEqDiff]
    exact ih

theorem e_i_momentAbout {b : Nat} {c : Option Nat} {ls : List Ld} (h : cellsAt H b = some (encL ls)) (hn : ls.length ≤ 9223372036854775806) (p : Int) : call T pr f_i_momentAbout [slL b ls.length c, .int .i64 p] ⟨H, e⟩ = some (.int .i64 (momW ls p), ⟨H, e⟩) := by
  obtain ⟨G', z4, z8, hl⟩ := loop_i_momentAbout (pr := pr) (e := none) (c := c) (p := p) (r := .int .i64 0) h hn ls.length 0 0 [] .undef .undef rfl
  have h0 : ((0 : Nat) : Int) = 0 := rfl
  rw [h0, List.append_nil, List.drop_zero] at hl
  rw [call_eq t_i_momentAbout]
  simp +contextual only [a_i_momentAbout, c_i_momentAbout, hl, go_sem, entry, joinEsc, if_pos, reduceIte, Nat.reduceAdd, Nat.reduceLeDiff, Nat.reduceLT, Nat.reduceEqDiff]
  rfl

theorem loop_s_l2Moment {b : Nat} {c : Option Nat} {ls : List Ld} {p : Int} {r : AV} (h : cellsAt H b = some (encL ls)) (hn : ls.length ≤ 9223372036854775806) :
    ∀ (k i : Nat) (a : Int) (y5 : AV), k + i = ls.length → ∃ (z5 : AV), run T pr (.loop w_s_l2Moment_1) ⟨[slL b ls.length c, .int .i64 p, r, .int .i64 a, .int .i64 i, y5], ⟨H, e⟩⟩ =
      some (Ex.exit 0, ⟨[slL b ls.length c, .int .i64 p, r, .int .i64 ((ls.drop i).foldl (momStep p) a), .int .i64 ls.length, z5], ⟨H, e⟩⟩)
  | 0, i, a, y5, hk => by
    have hi : i = ls.length := by omega
    subst hi
    refine ⟨.bool false, ?_⟩
    rw [run_loop]
    generalize run T pr (.loop w_s_l2Moment_1) = R
    simp +contextual only [w_s_l2Moment_1, Nat.lt_irrefl, decide_false, List.drop_length, List.foldl_nil, go_sem, entry, joinEsc, if_pos, reduceIte, Nat.reduceAdd, Nat.reduceLeDiff, Nat.reduceLT, Nat.reduceEqDiff]
  | k + 1, i, a, y5, hk => by
    have hi : i < ls.length := by omega
    have hl : ls[i]? = some ls[i] := List.getElem?_eq_getElem hi
    rw [run_loop, List.drop_eq_getElem_cons hi, List.foldl_cons]
    obtain ⟨z5, ih⟩ := loop_s_l2Moment (c := c) (p := p) (r := r) h hn k (i + 1) (momStep p a ls[i]) (.bool true) (by omega)
    refine ⟨z5, ?_⟩
    generalize run T pr (.loop w_s_l2Moment_1) = R at ih ⊢
    simp +contextual only [w_s_l2Moment_1, h, hi, hl, part_encL0 _ hl, part_encL1 _ hl, wrap_succ (show i < 9223372036854775807 by omega), decide_true, go_sem, entry, joinEsc, if_pos, reduceIte, Nat.reduceAdd, Nat.reduceLeDiff, Nat.reduceLT, Nat.reduceEqDiff]
    exact ih

theorem e_s_l2Moment {b : Nat} {c : Option Nat} {ls : List Ld} (h : cellsAt H b = some (encL ls)) (hn : ls.length ≤ 9223372036854775806) (p : Int) : call T pr f_s_l2Moment [slL b ls.length c, .int .i64 p] ⟨H, e⟩ = some (.int .i64 (momW ls p), ⟨H, e⟩) := by
  obtain ⟨z5, hl⟩ := loop_s_l2Moment (pr := pr) (e := none) (c := c) (p := p) (r := .int .i64 0) h hn ls.length 0 0 .undef rfl
  have h0 : ((0 : Nat) : Int) = 0 := rfl
  rw [h0, List.drop_zero] at hl
  rw [call_eq t_s_l2Moment]
  simp +contextual only [a_s_l2Moment, c_s_l2Moment, hl, go_sem, entry, joinEsc, if_pos, reduceIte, Nat.reduceAdd, Nat.reduceLeDiff, Nat.reduceLT, Nat.reduceEqDiff]
  rfl

/-- the side to which a row tips -/
def sideW (ls : List Ld) (a b : Int) : Int := if momW ls a < 0 then -1 else if 0 < momW ls b then 1 else 0

theorem e_s_l2Side {b : Nat} {c : Option Nat} {ls : List Ld} (h : cellsAt H b = some (encL ls)) (hn : ls.length ≤ 9223372036854775806) (p q : Int) : call T pr f_s_l2Side [slL b ls.length c, .int .i64 p, .int .i64 q] ⟨H, e⟩ = some (.int .i64 (sideW ls p q), ⟨H, e⟩) := by
  rw [call_eq t_s_l2Side]
  simp +contextual only [a_s_l2Side, c_s_l2Side, e_s_l2Moment h hn, go_sem, entry, joinEsc, if_pos, reduceIte, Nat.reduceAdd, Nat.reduceLeDiff, Nat.reduceLT, Nat.reduceEqDiff]
  unfold sideW
  split
  · rfl
  · split <;> rfl

theorem e_i_tipSide {b : Nat} {c : Option Nat} {ls : List Ld} (h : cellsAt H b = some (encL ls)) (hn : ls.length ≤ 9223372036854775806) (p q : Int) : call T pr f_i_tipSide [slL b ls.length c, .int .i64 p, .int .i64 q] ⟨H, e⟩ = some (.int .i64 (sideW ls p q), ⟨H, e⟩) := by
  rw [call_eq t_i_tipSide]
  simp +contextual only [a_i_tipSide, c_i_tipSide, e_i_momentAbout h hn, go_sem, entry, joinEsc, if_pos, reduceIte, Nat.reduceAdd, Nat.reduceLeDiff, Nat.reduceLT, Nat.reduceEqDiff]
  unfold sideW
  split
  · rfl
  · split <;> rfl

end Go.Proofs.Ytlocjmbfcdfjfaa.Slim

/- RestsOn, and its law. -/
namespace Go.Proofs.Ytlocjmbfcdfjfaa.Slim
open Go
set_option linter.unusedSimpArgs false
set_option linter.unusedVariables false

variable {pr : Prims} {H : List Blk} {e : Option Nat}

theorem ArgL.more {av : AV} {ls : List Ld} (h : ArgL H av ls) (G : List Blk) : ArgL (H ++ G) av ls := by
  obtain ⟨p, sz, c, h1, h2, h3⟩ := h
  refine ⟨p, sz, c, h1, h2, fun hne => ?_⟩
  obtain ⟨h4, b, h5, h6⟩ := h3 hne
  exact ⟨h4, b, h5, cells_mono h6 G⟩

theorem loads_of : ∀ (es : List (List Int)), (∀ e ∈ es, e.length = 2) → ∃ ls : List Ld, es.flatten.map (AV.int .i64) = encL ls ∧ ls.length = es.length
  | [], _ => ⟨[], rfl, rfl⟩
  | e :: es, h => by
    obtain ⟨ls, h1, h2⟩ := loads_of es (fun e' h' => h e' (by simp [h']))
    have h0 := h e (by simp)
    match e, h0 with
    | [x, y], _ => exact ⟨(x, y) :: ls, by simp [encL, h1], by simp [h2]⟩

theorem argL_of {av : AV} {es : List (List Int)} (h : IsArg H av .i64 2 es) : ∃ ls, ArgL H av ls := by
  obtain ⟨h1, h2⟩ := h
  rcases h2 with ⟨rfl, rfl⟩ | ⟨b, cap, rfl, h3, h4, h5⟩
  · exact ⟨[], none, 0, none, rfl, Nat.zero_le _, fun h => absurd rfl h⟩
  · obtain ⟨ls, h6, h7⟩ := loads_of es (fun e he => (h1 e he).1)
    refine ⟨ls, some (b, 0), 2, some cap, by rw [h7], by omega, fun _ => ⟨rfl, b, rfl, ?_⟩⟩
    unfold cellsAt
    rw [h5, h6]

theorem e_l_eqLoadS {b1 b2 : Nat} {c1 c2 : Option Nat} {ls : List Ld} (h1 : cellsAt H b1 = some (encL ls)) (h2 : cellsAt H b2 = some (encL ls)) (hn : ls.length ≤ 9223372036854775806) :
    call T pr f_l_eqLoadS [slL b1 ls.length c1, slL b2 ls.length c2] ⟨H, e⟩ = some (.bool true, ⟨H, e⟩) := by
  obtain ⟨z5, z6, hl⟩ := loop_l_eqLoadS (pr := pr) (e := none) (c1 := c1) (c2 := c2) h1 h2 hn ls.length 0 .undef .undef (.bool false) rfl
  have h0 : ((0 : Nat) : Int) = 0 := rfl
  rw [h0] at hl
  rw [call_eq t_l_eqLoadS]
  simp +contextual only [a_l_eqLoadS, c_l_eqLoadS, hl, decide_true, go_sem, entry, joinEsc, if_pos, reduceIte, Nat.reduceAdd, Nat.reduceLeDiff, Nat.reduceLT, Nat.reduceEqDiff]

end Go.Proofs.Ytlocjmbfcdfjfaa.Slim

/- Rows that grow. -/
namespace Go.Proofs.Ytlocjmbfcdfjfaa.Slim
open Go
set_option linter.unusedSimpArgs false
set_option linter.unusedVariables false

variable {pr : Prims} {H : List Blk} {e : Option Nat}

/-- what an append leaves of the blocks before it -/
def killIf (cap : Option Nat) (j : Nat) (G : List Blk) : List Blk := if cap = some 0 then G else G.set j .dead
theorem killIf_length (cap : Option Nat) (j : Nat) (G : List Blk) : (killIf cap j G).length = G.length := by unfold killIf; split <;> simp

theorem appendV_more {G : List Blk} {j k n sz bytes : Nat} {cs new : List AV} {cap : Option Nat} {str : Bool} {x : AV} (hb : G[j]? = some (.cells cs true)) (hx : srcCells str (H ++ G) x = some (k, new)) (hk : 0 < k)
    (hcs : cs.length = n * sz) (hnew : new.length = k * sz) (hmax : (n + k) * bytes ≤ maxBytes) (hcap : cap = some 0 → n = 0) :
    appendV (H ++ G) e str sz bytes (.slice (some (H.length + j, 0)) sz n cap) x = some (.slice (some (H.length + G.length, 0)) sz (n + k) none, ⟨H ++ (killIf cap j G ++ [.cells (cs ++ new) true]), e⟩) := by
  unfold appendV
  simp only [blkAt_newk, hb, hx]
  rw [if_pos ⟨trivial, hmax, hnew, by omega⟩]
  unfold killIf
  by_cases hc : cap = some 0
  · have hn := hcap hc
    subst hn
    have : cs = [] := by simpa using hcs
    subst this
    rw [if_pos ⟨hc, hk⟩, if_pos hc]
    simp
  · rw [if_neg (fun h => hc h.1), if_pos trivial, if_neg hc]
    have h1 : List.take (n * sz) (List.drop 0 cs) = cs := by rw [List.drop_zero, ← hcs, List.take_length]
    rw [h1, set_newk]
    simp

theorem srcCells_new (L : List Blk) (n sz : Nat) (cap : Option Nat) (cs : List AV) (b : Nat) (h : cellsAt L b = some cs) (hl : cs.length = n * sz) : srcCells false L (.slice (some (b, 0)) sz n cap) = some (n, cs) := by
  unfold srcCells
  simp only [Bool.false_eq_true, if_false, h]
  rw [if_pos (by omega), List.drop_zero, ← hl, List.take_length]

/-- one load more -/
theorem append_ld {G : List Blk} {j : Nat} {o : List Ld} {cap : Option Nat} (hG : G[j]? = some (.cells (encL o) true)) (hcap : cap = some 0 → o = []) (hmb : (o.length + 1) * 16 ≤ maxBytes) (a b : Int) :
    appendV (H ++ (G ++ [.cells [.int .i64 a, .int .i64 b] true])) e false 2 16 (slL (H.length + j) o.length cap) (.slice (some (H.length + G.length, 0)) 2 1 (some 1)) =
      some (slL (H.length + (G.length + 1)) (o.length + 1) none, ⟨H ++ (killIf cap j (G ++ [.cells [.int .i64 a, .int .i64 b] true]) ++ [.cells (encL o ++ [.int .i64 a, .int .i64 b]) true]), e⟩) := by
  have hj : j < G.length := (List.getElem?_eq_some_iff.mp hG).1
  rw [appendV_more (k := 1) (cs := encL o) (new := [.int .i64 a, .int .i64 b]) (by rw [List.getElem?_append_left hj]; exact hG)
    (srcCells_new _ 1 2 _ _ _ (by rw [cellsAt_newk, cellsAt_new0, cellsAt_cons0]) rfl) (by omega) (encL_length o) rfl hmb (fun h => by rw [hcap h]; rfl)]
  simp

/-- the loads of a convoy that have come so far -/
def rowAt (x : Int) (ls : List Ld) : List Ld := (ls.filter fun l => decide (l.1 ≤ x)).map fun l => (IntKind.i64.wrap (x - l.1), l.2)

end Go.Proofs.Ytlocjmbfcdfjfaa.Slim

/- Slices of numbers. -/
namespace Go.Proofs.Ytlocjmbfcdfjfaa.Slim

open Go

set_option linter.unusedSimpArgs false

set_option linter.unusedVariables false

variable {pr : Prims} {H : List Blk} {e : Option Nat}

abbrev encI (ls : List Int) : List AV := ls.map (AV.int .i64)

abbrev slI (b n : Nat) (c : Option Nat) : AV := .slice (some (b, 0)) 1 n c

theorem part_encI {ls : List Int} {i : Nat} {x : Int} (sz : Nat) (h : ls[i]? = some x) : part false (encI ls) i sz = some (.int .i64 x) := by
  rw [part_false, List.getElem?_map, h]; rfl

theorem under_encI (n : Nat) : ∀ ls : List Int, ((encI ls).all fun c => c.under n) = true
  | [] => rfl
  | l :: ls => by simp [encI, AV.under]

theorem zeros_encI : ∀ n, zeros n [.int .i64 0] = encI (List.replicate n 0)
  | 0 => rfl
  | n + 1 => by
    have := zeros_encI n
    unfold zeros encI at *
    simp only [List.replicate_succ, List.flatten_cons, List.map_cons, List.cons_append, List.nil_append, this]

theorem setRange_encI {X : List Int} {i : Nat} {a : Int} (h : i < X.length) : setRange (encI X) i [.int .i64 a] = encI (X.set i a) := by
  induction X generalizing i with
  | nil => simp at h
  | cons x X ih =>
    cases i with
    | zero => simp [encI, setRange]
    | succ i =>
      have := ih (i := i) (by simpa using h)
      simp only [encI, List.map_cons, List.set_cons_succ] at *
      rw [setRange_k, this]

theorem take_set_succ' {X ls : List Int} {i : Nat} (hi : i < ls.length) (hX : X.length = ls.length) (h : X.take i = ls.take i) : (X.set i ls[i]).take (i + 1) = ls.take (i + 1) := by
  rw [List.take_succ_eq_append_getElem (by rw [List.length_set]; omega), List.take_succ_eq_append_getElem hi]
  rw [List.take_set_of_le (Nat.le_refl _), h]
  simp

/-- a slice of numbers, as a law is handed it -/
def ArgI (H : List Blk) (av : AV) (ls : List Int) : Prop :=
  ∃ p sz c, av = .slice p sz ls.length c ∧ ls.length ≤ maxLen ∧ (ls ≠ [] → sz = 1 ∧ ∃ b, p = some (b, 0) ∧ cellsAt H b = some (encI ls))

theorem ArgI.more {av : AV} {ls : List Int} (h : ArgI H av ls) (G : List Blk) : ArgI (H ++ G) av ls := by
  obtain ⟨p, sz, c, h1, h2, h3⟩ := h
  refine ⟨p, sz, c, h1, h2, fun hne => ?_⟩
  obtain ⟨h4, b, h5, h6⟩ := h3 hne
  exact ⟨h4, b, h5, cells_mono h6 G⟩

theorem ints_of : ∀ (es : List (List Int)), (∀ e ∈ es, e.length = 1) → ∃ ls : List Int, es.flatten = ls ∧ ls.length = es.length
  | [], _ => ⟨[], rfl, rfl⟩
  | e :: es, h => by
    obtain ⟨ls, h1, h2⟩ := ints_of es (fun e' h' => h e' (by simp [h']))
    have h0 := h e (by simp)
    match e, h0 with
    | [x], _ => exact ⟨x :: ls, by simp [h1], by simp [h2]⟩

theorem argI_of {av : AV} {es : List (List Int)} (h : IsArg H av .i64 1 es) : ∃ ls, ArgI H av ls := by
  obtain ⟨h1, h2⟩ := h
  rcases h2 with ⟨rfl, rfl⟩ | ⟨b, cap, rfl, h3, h4, h5⟩
  · exact ⟨[], none, 0, none, rfl, Nat.zero_le _, fun h => absurd rfl h⟩
  · obtain ⟨ls, h6, h7⟩ := ints_of es (fun e he => (h1 e he).1)
    refine ⟨ls, some (b, 0), 1, some cap, by rw [h7], by omega, fun _ => ⟨rfl, b, rfl, ?_⟩⟩
    unfold cellsAt
    rw [h5, h6]

end Go.Proofs.Ytlocjmbfcdfjfaa.Slim

/- Rafts: what is valid, and the reserves. -/
namespace Go.Proofs.Ytlocjmbfcdfjfaa.Slim

open Go

set_option linter.unusedSimpArgs false

set_option linter.unusedVariables false

variable {pr : Prims} {H : List Blk} {e : Option Nat}

def baseOk (a b : Int) : Bool := ((decide (0 ≤ a) && decide (a ≤ 60)) && (decide (0 ≤ b) && decide (b ≤ 60))) && decide (a ≤ b)

theorem e_i_isBase (a b : Int) : call T pr f_i_isBase [.int .i64 a, .int .i64 b] ⟨H, e⟩ = some (.bool (baseOk a b), ⟨H, e⟩) := by
  rw [call_eq t_i_isBase]
  simp +contextual only [a_i_isBase, c_i_isBase, e_i_isPlace, go_sem, entry, joinEsc, if_pos, reduceIte, Nat.reduceAdd, Nat.reduceLeDiff, Nat.reduceLT, Nat.reduceEqDiff]
  rfl

theorem e_s_l2Base (a b : Int) : call T pr f_s_l2Base [.int .i64 a, .int .i64 b] ⟨H, e⟩ = some (.bool (baseOk a b), ⟨H, e⟩) := by
  rw [call_eq t_s_l2Base]
  simp +contextual only [a_s_l2Base, c_s_l2Base, e_s_l2In, go_sem, entry, joinEsc, if_pos, reduceIte, Nat.reduceAdd, Nat.reduceLeDiff, Nat.reduceLT, Nat.reduceEqDiff]
  rfl

abbrev rfV (a b o : Int) : AV := .agg [.int .i64 a, .int .i64 b, .int .i64 o]

def raftOk (a b o : Int) : Bool := baseOk a b && (decide (1 ≤ o) && decide (o ≤ 99))

def cargoOk (a b o : Int) (ls : List Ld) : Bool := (raftOk a b o && rowOk ls) && decide (ls.length ≤ 8)

end Go.Proofs.Ytlocjmbfcdfjfaa.Slim

/- Rafts: the reserves. -/
namespace Go.Proofs.Ytlocjmbfcdfjfaa.Slim

open Go

set_option linter.unusedSimpArgs false

set_option linter.unusedVariables false

variable {pr : Prims} {H : List Blk} {e : Option Nat}

abbrev wr (x : Int) : Int := IntKind.i64.wrap x

theorem wr_ex (x : Int) : ∃ k : Int, wr x = x + k * 18446744073709551616 := by
  refine ⟨if x % 18446744073709551616 ≥ 9223372036854775808 then -(x / 18446744073709551616) - 1 else -(x / 18446744073709551616), ?_⟩
  unfold wr IntKind.wrap
  simp [IntKind.signed, IntKind.bits]
  split <;> omega

theorem wr_add_mul (x k : Int) : wr (x + k * 18446744073709551616) = wr x := by
  unfold wr IntKind.wrap
  simp [IntKind.signed, IntKind.bits]

/-- is item i in the set n? -/
def bitW (n : Int) (i : Nat) : Bool := decide (andI .i64 (shrI .i64 n i) 1 = 1)

def resL (a acc : Int) (l : Ld) : Int := wr (acc + wr (wr (2 * l.2) * wr (l.1 - a)))

def resR (b acc : Int) (l : Ld) : Int := wr (acc + wr (wr (2 * l.2) * wr (b - l.1)))

theorem resR_eq (b acc : Int) (l : Ld) : wr (acc - wr (wr (2 * l.2) * wr (l.1 - b))) = resR b acc l := by
  unfold resR
  obtain ⟨k1, h1⟩ := wr_ex (l.1 - b)
  obtain ⟨k2, h2⟩ := wr_ex (b - l.1)
  generalize wr (2 * l.2) = u
  obtain ⟨k3, h3⟩ := wr_ex (u * wr (l.1 - b))
  obtain ⟨k4, h4⟩ := wr_ex (u * wr (b - l.1))
  rw [h3, h4, h1, h2]
  have : acc - (u * (l.1 - b + k1 * 18446744073709551616) + k3 * 18446744073709551616) = acc + (u * (b - l.1 + k2 * 18446744073709551616) + k4 * 18446744073709551616) + (-(u * (k1 + k2)) - k3 - k4) * 18446744073709551616 := by
    have e1 : u * (l.1 - b + k1 * 18446744073709551616) = u * (l.1 - b) + u * k1 * 18446744073709551616 := by rw [Int.mul_add, Int.mul_assoc]
    have e2 : u * (b - l.1 + k2 * 18446744073709551616) = u * (b - l.1) + u * k2 * 18446744073709551616 := by rw [Int.mul_add, Int.mul_assoc]
    have e3 : u * (b - l.1) = -(u * (l.1 - b)) := by rw [← Int.mul_neg]; congr 1; omega
    have e4 : u * (k1 + k2) = u * k1 + u * k2 := Int.mul_add _ _ _
    rw [e1, e2, e3, e4]
    omega
  rw [this, wr_add_mul]

/-- over the items of the set n, from number i on -/
def overBits (f : Int → Ld → Int) (n : Int) : Nat → List Ld → Int → Int
  | _, [], acc => acc
  | i, l :: ls, acc => overBits f n (i + 1) ls (if bitW n i = true then f acc l else acc)

theorem shr_nat (x : Int) (i : Nat) : binop 0 .shr (.int .i64 x) (.int .i64 (i : Int)) = some (.int .i64 (shrI .i64 x i)) := by
  rw [binop_shr, if_neg (by omega)]

end Go.Proofs.Ytlocjmbfcdfjfaa.Slim

/- Rafts: safe sets. -/
namespace Go.Proofs.Ytlocjmbfcdfjfaa.Slim

open Go

set_option linter.unusedSimpArgs false

set_option linter.unusedVariables false

variable {pr : Prims} {H : List Blk} {e : Option Nat}

def own0 (a b o : Int) : Int := wr (o * wr (b - a))

def safeW (a b o : Int) (ls : List Ld) (n : Int) : Bool := decide (0 ≤ overBits (resL a) n 0 ls (own0 a b o)) && decide (0 ≤ overBits (resR b) n 0 ls (own0 a b o))

end Go.Proofs.Ytlocjmbfcdfjfaa.Slim

/- Orders of a cargo. -/
namespace Go.Proofs.Ytlocjmbfcdfjfaa.Slim

open Go

set_option linter.unusedSimpArgs false

set_option linter.unusedVariables false

variable {pr : Prims} {H : List Blk} {e : Option Nat}

theorem length_le_of_sub {r : List Int} : ∀ {l : List Int}, r.Nodup → (∀ x ∈ r, x ∈ l) → r.length ≤ l.length := by
  induction r with
  | nil => intro l _ _; exact Nat.zero_le _
  | cons a r ih =>
    intro l hn hs
    have ha := hs a (by simp)
    obtain ⟨h1, h2⟩ := List.nodup_cons.mp hn
    have h3 := ih (l := l.erase a) h2 (fun x hx => by
      have hne : x ≠ a := fun e => h1 (e ▸ hx)
      exact (List.mem_erase_of_ne hne).mpr (hs x (by simp [hx])))
    have h4 := List.length_erase_of_mem ha
    have h5 := List.length_pos_of_mem ha
    simp only [List.length_cons]
    omega

/-- the numbers below n -/
def nums (n : Nat) : List Int := (List.range n).map fun (i : Nat) => (i : Int)

theorem nums_length (n : Nat) : (nums n).length = n := by simp [nums]

theorem mem_nums {n : Nat} {x : Int} : x ∈ nums n ↔ 0 ≤ x ∧ x < n := by
  unfold nums
  rw [List.mem_map]
  constructor
  · rintro ⟨i, hi, rfl⟩
    rw [List.mem_range] at hi
    omega
  · rintro ⟨h1, h2⟩
    exact ⟨x.toNat, by rw [List.mem_range]; omega, by omega⟩

theorem nums_nodup (n : Nat) : (nums n).Nodup := by
  unfold nums
  refine List.Pairwise.map _ ?_ List.nodup_range
  intro a b h e
  exact h (by omega)

/-- a list of n numbers has all numbers below n exactly if it has none twice, and no other -/
theorem order_iff {l : List Int} {n : Nat} (hl : l.length = n) : (∀ x : Int, 0 ≤ x → x < n → x ∈ l) ↔ (l.Nodup ∧ ∀ x ∈ l, 0 ≤ x ∧ x < n) := by
  constructor
  · intro h
    have key : ∀ (l' : List Int), (∀ x ∈ nums n, x ∈ l') → n ≤ l'.length := fun l' h' => by
      have := length_le_of_sub (nums_nodup n) h'
      rwa [nums_length] at this
    have hin : ∀ x ∈ l, 0 ≤ x ∧ x < n := by
      intro x hx
      refine Classical.byContradiction fun hc => ?_
      have := key (l.erase x) (fun y hy => by
        have hy' := mem_nums.mp hy
        have hne : y ≠ x := fun e => hc (e ▸ hy')
        exact (List.mem_erase_of_ne hne).mpr (h y hy'.1 hy'.2))
      have h4 := List.length_erase_of_mem hx
      have h5 := List.length_pos_of_mem hx
      omega
    refine ⟨?_, hin⟩
    have gen : ∀ (l : List Int), ¬ l.Nodup → ∃ x ∈ l, x ∈ l.erase x := by
      intro l
      induction l with
      | nil => intro h; exact absurd List.nodup_nil h
      | cons a l ih =>
        intro h
        by_cases ha : a ∈ l
        · exact ⟨a, by simp, by simpa using ha⟩
        · have hn : ¬ l.Nodup := fun hn => h (List.nodup_cons.mpr ⟨ha, hn⟩)
          obtain ⟨x, h1, h2⟩ := ih hn
          have hne : ¬ a = x := fun e => ha (e ▸ h1)
          refine ⟨x, by simp [h1], ?_⟩
          rw [List.erase_cons_tail (by simpa using hne)]
          simp [h2]
    refine Classical.byContradiction fun hc => ?_
    obtain ⟨x, h1, h2⟩ := gen l hc
    have := key (l.erase x) (fun y hy => by
      have hy' := mem_nums.mp hy
      by_cases e : y = x
      · rw [e]; exact h2
      · exact (List.mem_erase_of_ne e).mpr (h y hy'.1 hy'.2))
    have h4 := List.length_erase_of_mem h1
    have h5 := List.length_pos_of_mem h1
    omega
  · rintro ⟨h1, h2⟩ x hx0 hx1
    refine Classical.byContradiction fun hc => ?_
    have := length_le_of_sub (r := x :: l) (l := nums n) (List.nodup_cons.mpr ⟨hc, h1⟩) (fun y hy => by
      rcases List.mem_cons.mp hy with rfl | hy
      · exact mem_nums.mpr ⟨hx0, hx1⟩
      · exact mem_nums.mpr (h2 y hy))
    rw [nums_length] at this
    simp at this
    omega

theorem bits_facts : ∀ m : Nat, m < 256 → ∀ x : Nat, x < 8 → (m.testBit x = bitW m x ∧ shlI .i64 1 (x : Int) = ((2 ^ x : Nat) : Int) ∧ (m.testBit x = false → orI .i64 m (shlI .i64 1 (x : Int)) = ((m + 2 ^ x : Nat) : Int) ∧ wr ((m : Int) + shlI .i64 1 (x : Int)) = ((m + 2 ^ x : Nat) : Int) ∧ m + 2 ^ x < 256 ∧ ∀ y : Nat, y < 8 → (m + 2 ^ x).testBit y = (m.testBit y || decide (x = y)))) := by
  decide +kernel

end Go.Proofs.Ytlocjmbfcdfjfaa.Slim

/- Rafts: in how many ways the rest can be loaded, on both sides. -/
namespace Go.Proofs.Ytlocjmbfcdfjfaa.Slim

open Go

set_option linter.unusedSimpArgs false

set_option linter.unusedVariables false

variable {pr : Prims} {H : List Blk} {e : Option Nat}

theorem pow_facts : ∀ n : Nat, n < 9 → (shlI .i64 1 (n : Int) = ((2 ^ n : Nat) : Int) ∧ 2 ^ n ≤ 256 ∧ 0 < 2 ^ n) := by decide +kernel

theorem set_facts : ∀ n : Nat, n < 9 → ∀ c : Nat, c < 2 ^ n → ∀ i : Nat, i < n → (c.testBit i = false → c + 2 ^ i < 2 ^ n) ∧ (c + 1 = 2 ^ n → c.testBit i = true) := by decide +kernel

theorem getD_get {W : List Int} {c : Nat} (h : c < W.length) : W[c]? = some (W.getD c 0) := by
  rw [List.getD_eq_getElem?_getD, List.getElem?_eq_getElem h]; rfl

/-- c's ways, grown by those of the items from i on -/
def waysIn (c : Nat) : Nat → Nat → List Int → List Int
  | 0, _, W => W
  | k + 1, i, W => waysIn c k (i + 1) (if c.testBit i = true then W else W.set c (wr (W.getD c 0 + W.getD (c + 2 ^ i) 0)))

theorem waysIn_length {c : Nat} : ∀ (k i : Nat) (W : List Int), (waysIn c k i W).length = W.length
  | 0, _, W => rfl
  | k + 1, i, W => by
    rw [waysIn, waysIn_length k]
    split <;> simp

theorem waysIn_full {c : Nat} : ∀ (k i : Nat) (W : List Int), (∀ j, i ≤ j → j < i + k → c.testBit j = true) → waysIn c k i W = W
  | 0, _, W, _ => rfl
  | k + 1, i, W, h => by
    rw [waysIn, if_pos (h i (by omega) (by omega)), waysIn_full k _ _ (fun j h1 h2 => h j (by omega) (by omega))]

def waysStep (safe : Nat → Bool) (n c : Nat) (W : List Int) : List Int := if safe c = true then (if c + 1 = 2 ^ n then W.set c 1 else waysIn c n 0 W) else W

theorem waysStep_length (safe : Nat → Bool) (n c : Nat) (W : List Int) : (waysStep safe n c W).length = W.length := by
  unfold waysStep
  split
  · split
    · simp
    · exact waysIn_length _ _ _
  · rfl

/-- the sets below c, from the last one to the first -/
def waysDown (safe : Nat → Bool) (n : Nat) : Nat → List Int → List Int
  | 0, W => W
  | c + 1, W => waysDown safe n c (waysStep safe n c W)

theorem waysDown_length (safe : Nat → Bool) (n : Nat) : ∀ (c : Nat) (W : List Int), (waysDown safe n c W).length = W.length
  | 0, W => rfl
  | c + 1, W => by rw [waysDown, waysDown_length safe n c, waysStep_length]

def waysW (a b o : Int) (ls : List Ld) : List Int := waysDown (fun c => safeW a b o ls (c : Int)) ls.length (2 ^ ls.length) (List.replicate (2 ^ ls.length) 0)

theorem waysW_length (a b o : Int) (ls : List Ld) : (waysW a b o ls).length = 2 ^ ls.length := by
  unfold waysW
  rw [waysDown_length]
  simp

theorem bit_clear {c i : Nat} (hc : c < 256) (hi : i < 8) (h : c.testBit i = false) : andI .i64 (shrI .i64 c (i : Int)) 1 = 0 := by
  have : ∀ c : Nat, c < 256 → ∀ i : Nat, i < 8 → c.testBit i = false → andI .i64 (shrI .i64 c (i : Int)) 1 = 0 := by decide +kernel
  exact this c hc i hi h

theorem bit_set {c i : Nat} (hc : c < 256) (hi : i < 8) (h : c.testBit i = true) : andI .i64 (shrI .i64 c (i : Int)) 1 = 1 := by
  have : ∀ c : Nat, c < 256 → ∀ i : Nat, i < 8 → c.testBit i = true → andI .i64 (shrI .i64 c (i : Int)) 1 = 1 := by decide +kernel
  exact this c hc i hi h

theorem fin_ways (x : Blk) (W : List Int) (n : Nat) (c : Option Nat) (e0 : Option Nat) : finish 2 H.length e0 (slI (H.length + 1) n c) ⟨H ++ [x, Blk.cells (encI W) true], none⟩ = some (slI H.length n c, ⟨H ++ [Blk.cells (encI W) true], e0⟩) :=
  finish_two_at e0 rfl (under_encI _ _)

end Go.Proofs.Ytlocjmbfcdfjfaa.Slim

/- Rafts: what the ways tell; the next steps. -/
namespace Go.Proofs.Ytlocjmbfcdfjfaa.Slim

open Go

set_option linter.unusedSimpArgs false

set_option linter.unusedVariables false

variable {pr : Prims} {H : List Blk} {e : Option Nat}

/-- the items that are not in c -/
def mu (n c : Nat) : Nat := ((List.range n).filter fun i => !c.testBit i).length

theorem mu_facts : ∀ n : Nat, n < 9 → ∀ c : Nat, c < 2 ^ n → (mu n c ≤ 8 ∧ (mu n c = 0 ↔ c + 1 = 2 ^ n) ∧ ∀ i : Nat, i < n → c.testBit i = false → mu n c = mu n (c + 2 ^ i) + 1) := by decide +kernel

theorem mu_zero (n : Nat) : mu n 0 = n := by
  unfold mu
  rw [List.filter_eq_self.mpr (by simp)]
  simp

/-- item i can be added to c, and the rest in some way behind it -/
def okStep (W : List Int) (c i : Nat) : Bool := !c.testBit i && decide (0 < W.getD (c + 2 ^ i) 0)

def stepsW (W : List Int) (n c : Nat) : List Int := ((List.range n).filter (okStep W c)).map fun (i : Nat) => (i : Int)

theorem getD_set (W : List Int) (c d : Nat) (x : Int) (h : c < W.length) : (W.set c x).getD d 0 = if c = d then x else W.getD d 0 := by
  rw [List.getD_eq_getElem?_getD, List.getD_eq_getElem?_getD, List.getElem?_set]
  by_cases hd : c = d
  · subst hd; rw [if_pos rfl, if_pos rfl, if_pos h]; rfl
  · rw [if_neg hd, if_neg hd]

theorem waysIn_spec {c n b : Nat} : ∀ (k i : Nat) (W : List Int), k + i = n → c < W.length → (∀ j, j < n → c.testBit j = false → 0 ≤ W.getD (c + 2 ^ j) 0 ∧ W.getD (c + 2 ^ j) 0 ≤ b) → 0 ≤ W.getD c 0 → W.getD c 0 + k * b ≤ 9223372036854775807 →
    (∀ d, d ≠ c → (waysIn c k i W).getD d 0 = W.getD d 0) ∧ W.getD c 0 ≤ (waysIn c k i W).getD c 0 ∧ (waysIn c k i W).getD c 0 ≤ W.getD c 0 + k * b ∧ (W.getD c 0 < (waysIn c k i W).getD c 0 → ∃ j, j < n ∧ okStep W c j = true)
  | 0, i, W, hk, hc, hb, h0, hm => by
    rw [waysIn]
    refine ⟨fun d _ => rfl, Int.le_refl _, by omega, fun h => by omega⟩
  | k + 1, i, W, hk, hc, hb, h0, hm => by
    rw [waysIn]
    have hkb : ((k + 1 : Nat) : Int) * (b : Int) = (k : Int) * b + b := by
      rw [Int.natCast_add, Int.add_mul]; simp
    cases h1 : c.testBit i with
    | true =>
      rw [if_pos rfl]
      obtain ⟨r1, r2, r3, r4⟩ := waysIn_spec (n := n) (b := b) k (i + 1) W (by omega) hc hb h0 (by omega)
      exact ⟨r1, r2, by omega, r4⟩
    | false =>
      rw [if_neg (by simp)]
      obtain ⟨b1, b2⟩ := hb i (by omega) h1
      have hkb0 : (0 : Int) ≤ (k : Int) * b := Int.mul_nonneg (by omega) (by omega)
      have hwr : wr (W.getD c 0 + W.getD (c + 2 ^ i) 0) = W.getD c 0 + W.getD (c + 2 ^ i) 0 := wrap64 (by omega) (by omega)
      rw [hwr]
      generalize hx : W.getD c 0 + W.getD (c + 2 ^ i) 0 = x
      have hne : ∀ j, c + 2 ^ j ≠ c := fun j hj => by have := Nat.two_pow_pos j; omega
      have gs := fun d => getD_set W c d x hc
      obtain ⟨r1, r2, r3, r4⟩ := waysIn_spec (c := c) (n := n) (b := b) k (i + 1) (W.set c x) (by omega) (by simpa using hc)
        (fun j hj hjc => by rw [gs, if_neg (fun h => hne j h.symm)]; exact hb j hj hjc) (by rw [gs, if_pos rfl]; omega) (by rw [gs, if_pos rfl]; omega)
      rw [gs c, if_pos rfl] at r2 r3 r4
      refine ⟨fun d hd => by rw [r1 d hd, gs, if_neg (fun h => hd h.symm)], by omega, by omega, fun hlt => ?_⟩
      by_cases hz : 0 < W.getD (c + 2 ^ i) 0
      · exact ⟨i, by omega, by simp [okStep, h1]; simpa using hz⟩
      · obtain ⟨j, j1, j2⟩ := r4 (by omega)
        refine ⟨j, j1, ?_⟩
        unfold okStep at j2 ⊢
        rw [gs, if_neg (fun h => hne j h.symm)] at j2
        exact j2

/-- what is true of c's ways -/
def goodW (n : Nat) (W : List Int) (c : Nat) : Prop := 0 ≤ W.getD c 0 ∧ W.getD c 0 ≤ ((8 ^ mu n c : Nat) : Int) ∧ (0 < W.getD c 0 → mu n c ≠ 0 → ∃ i, i < n ∧ okStep W c i = true)

theorem goodW_of {n c : Nat} {W W' : List Int} (hs : ∀ d, c ≤ d → W'.getD d 0 = W.getD d 0) (h : goodW n W c) : goodW n W' c := by
  obtain ⟨h1, h2, h3⟩ := h
  refine ⟨by rw [hs c (Nat.le_refl _)]; exact h1, by rw [hs c (Nat.le_refl _)]; exact h2, fun k1 k2 => ?_⟩
  rw [hs c (Nat.le_refl _)] at k1
  obtain ⟨i, i1, i2⟩ := h3 k1 k2
  refine ⟨i, i1, ?_⟩
  unfold okStep at *
  rw [hs _ (Nat.le_add_right _ _)]
  exact i2

theorem waysDown_good {n F : Nat} (safe : Nat → Bool) (hn8 : n ≤ 8) (hF : F = 2 ^ n) : ∀ (C : Nat) (W : List Int), C ≤ F → W.length = F → (∀ c, c < C → W.getD c 0 = 0) → (∀ c, C ≤ c → c < F → goodW n W c) →
    ∀ c, c < F → goodW n (waysDown safe n C W) c
  | 0, W, _, _, _, h => fun c hc => by rw [waysDown]; exact h c (by omega) hc
  | C + 1, W, hC, hW, hz, h => by
    rw [waysDown]
    obtain ⟨m1, m2, m3⟩ := mu_facts n (by omega) C (by omega)
    have hz0 := hz C (by omega)
    have hCW : C < W.length := by omega
    have key : (∀ d, d ≠ C → (waysStep safe n C W).getD d 0 = W.getD d 0) ∧ goodW n (waysStep safe n C W) C := by
      unfold waysStep
      cases hs : safe C with
      | false =>
        rw [if_neg (by simp)]
        refine ⟨fun d _ => rfl, by omega, ?_, fun k1 => by omega⟩
        rw [hz0]; exact Int.natCast_nonneg _
      | true =>
        rw [if_pos rfl]
        by_cases hc : C + 1 = 2 ^ n
        · rw [if_pos hc]
          have gs := fun d => getD_set W C d 1 hCW
          have hm0 := m2.mpr hc
          refine ⟨fun d hd => by rw [gs, if_neg (fun h => hd h.symm)], ?_, ?_, fun _ k2 => absurd hm0 k2⟩
          · rw [gs, if_pos rfl]; omega
          · rw [gs, if_pos rfl, hm0]; simp
        · rw [if_neg hc]
          have hm0 : mu n C ≠ 0 := fun h => hc (m2.mp h)
          obtain ⟨m', hm'⟩ : ∃ m', mu n C = m' + 1 := ⟨mu n C - 1, by omega⟩
          have hp : 8 ^ m' ≤ 8 ^ 7 := Nat.pow_le_pow_right (by omega) (by omega)
          have hnb : (n : Int) * ((8 ^ m' : Nat) : Int) ≤ 8 * ((8 ^ m' : Nat) : Int) := Int.mul_le_mul_of_nonneg_right (by omega) (Int.natCast_nonneg _)
          have h87 : (8 : Nat) ^ 7 = 2097152 := by decide
          obtain ⟨r1, r2, r3, r4⟩ := waysIn_spec (c := C) (n := n) (b := 8 ^ m') n 0 W (by omega) hCW (fun j hj hjc => by
            have hlt := (set_facts n (by omega) C (by omega) j hj).1 hjc
            obtain ⟨g1, g2, _⟩ := h (C + 2 ^ j) (by have := Nat.two_pow_pos j; omega) (by omega)
            have := m3 j hj hjc
            rw [show mu n (C + 2 ^ j) = m' by omega] at g2
            exact ⟨g1, g2⟩) (by omega) (by omega)
          refine ⟨r1, by omega, ?_, fun k1 _ => ?_⟩
          · rw [hm', Nat.pow_succ]
            omega
          · obtain ⟨j, j1, j2⟩ := r4 (by omega)
            refine ⟨j, j1, ?_⟩
            unfold okStep at j2 ⊢
            rw [r1 _ (by have := Nat.two_pow_pos j; omega)]
            exact j2
    obtain ⟨k1, k2⟩ := key
    refine waysDown_good safe hn8 hF C _ (by omega) (by rw [waysStep_length]; exact hW) (fun c hc => by rw [k1 c (by omega)]; exact hz c (by omega)) ?_
    intro c hc1 hc2
    by_cases he : c = C
    · rw [he]; exact k2
    · exact goodW_of (W := W) (fun d hd => k1 d (by omega)) (h c (by omega) hc2)

theorem waysW_good {a b o : Int} {ls : List Ld} (hn8 : ls.length ≤ 8) : ∀ c, c < 2 ^ ls.length → goodW ls.length (waysW a b o ls) c :=
  waysDown_good _ hn8 rfl _ _ (Nat.le_refl _) (by simp) (fun c hc => by rw [List.getD_eq_getElem?_getD, List.getElem?_replicate, if_pos hc]; rfl) (fun c h1 h2 => absurd h1 (by omega))

theorem encI_append (a b : List Int) : encI (a ++ b) = encI a ++ encI b := by simp [encI]

/-- one number more -/
theorem append_in {G : List Blk} {j : Nat} {o : List Int} {cap : Option Nat} (hG : G[j]? = some (.cells (encI o) true)) (hcap : cap = some 0 → o = []) (hmb : (o.length + 1) * 8 ≤ maxBytes) (a : Int) :
    appendV (H ++ (G ++ [.cells [.int .i64 a] true])) e false 1 8 (slI (H.length + j) o.length cap) (.slice (some (H.length + G.length, 0)) 1 1 (some 1)) =
      some (slI (H.length + (G.length + 1)) (o.length + 1) none, ⟨H ++ (killIf cap j (G ++ [.cells [.int .i64 a] true]) ++ [.cells (encI o ++ [.int .i64 a]) true]), e⟩) := by
  have hj : j < G.length := (List.getElem?_eq_some_iff.mp hG).1
  rw [appendV_more (k := 1) (cs := encI o) (new := [.int .i64 a]) (by rw [List.getElem?_append_left hj]; exact hG)
    (srcCells_new _ 1 1 _ _ _ (by rw [cellsAt_newk, cellsAt_new0, cellsAt_cons0]) rfl) (by omega) (by simp) rfl hmb (fun h => by rw [hcap h]; rfl)]
  simp

end Go.Proofs.Ytlocjmbfcdfjfaa.Slim

/- Marks on memory that is told apart; results of two. -/
namespace Go.Proofs.Ytlocjmbfcdfjfaa.Slim

open Go

set_option linter.unusedSimpArgs false

set_option linter.unusedVariables false

variable {pr : Prims} {H : List Blk} {e : Option Nat}

theorem finish_one_set (v : AV) (e0 : Option Nat) (b : Nat) (x : Blk) (h : v.under H.length = true) : finish 1 H.length e0 v ⟨H.set b x, none⟩ = some (v, ⟨H.set b x, e0⟩) := by
  have : (H.set b x).take H.length = H.set b x := List.take_of_length_le (by simp)
  simp [finish, h, clean, this]

theorem finish_two_sb {G : List Blk} {j sz n o : Nat} {c : Option Nat} {cs : List AV} {wr : Bool} (x : Bool) (e0 : Option Nat) (hG : G[j]? = some (.cells cs wr)) (h : (cs.all fun c => c.under H.length) = true) :
    finish 2 H.length e0 (.tup [.slice (some (H.length + j, o)) sz n c, .bool x]) ⟨H ++ G, none⟩ = some (.tup [.slice (some (H.length, o)) sz n c, .bool x], ⟨H ++ [.cells cs wr], e0⟩) := by
  have hlt : ¬ H.length + j < H.length := by omega
  have hr : dedup (AV.roots H.length (.tup [.slice (some (H.length + j, o)) sz n c, .bool x])) = [H.length + j] := by
    unfold AV.roots AV.roots.go AV.roots.go AV.roots.go AV.roots
    rw [if_neg hlt]
    rfl
  have hb : (H ++ G)[H.length + j]? = some (.cells cs wr) := by rw [List.getElem?_append_right (by omega)]; simpa using hG
  unfold finish
  simp only [hr]
  have h2 : ([H.length + j].all fun b => flatBlk H.length (H ++ G)[b]?) = true := by
    simp only [List.all_cons, List.all_nil, Bool.and_true, hb, flatBlk]
    exact h
  simp only [clean, h2, and_self, if_true]
  simp [AV.rename, AV.rename.go, renum, hb, hlt]

theorem finish_two_sb0 (sz n : Nat) (c : Option Nat) (cs : List AV) (wr : Bool) (x : Bool) (e0 : Option Nat) (h : (cs.all fun c => c.under H.length) = true) :
    finish 2 H.length e0 (.tup [.slice (some (H.length, 0)) sz n c, .bool x]) ⟨H ++ [.cells cs wr], none⟩ = some (.tup [.slice (some (H.length, 0)) sz n c, .bool x], ⟨H ++ [.cells cs wr], e0⟩) :=
  finish_two_sb (G := [.cells cs wr]) (j := 0) x e0 rfl h

theorem finish_two_nb {G : List Blk} {sz n : Nat} {c : Option Nat} (x : Bool) (e0 : Option Nat) :
    finish 2 H.length e0 (.tup [.slice none sz n c, .bool x]) ⟨H ++ G, none⟩ = some (.tup [.slice none sz n c, .bool x], ⟨H, e0⟩) := by
  have hr : dedup (AV.roots H.length (.tup [.slice none sz n c, .bool x])) = [] := rfl
  unfold finish
  simp only [hr]
  simp [AV.rename, AV.rename.go, clean]

theorem set_same {L : List Blk} {b : Nat} {x : Blk} (h : L[b]? = some x) : L.set b x = L := by
  apply List.ext_getElem?
  intro i
  rw [List.getElem?_set]
  split
  · rename_i hi
    subst hi
    rw [h]
    rw [if_pos (List.getElem?_eq_some_iff.mp h).1]
  · rfl

def markedI (k : Nat) : Nat → List Int
  | 0 => []
  | n + 1 => (k : Int) :: markedI (k + 1) n

theorem markedI_length (k : Nat) : ∀ n, (markedI k n).length = n
  | 0 => rfl
  | n + 1 => by rw [markedI, List.length_cons, markedI_length (k + 1) n]

theorem markedI_get : ∀ (n k i : Nat), i < n → (markedI k n)[i]? = some ((k + i : Nat) : Int)
  | 0, k, i, h => by omega
  | n + 1, k, 0, h => by simp [markedI]
  | n + 1, k, i + 1, h => by
    rw [markedI, List.getElem?_cons_succ, markedI_get n (k + 1) i (by omega), show k + 1 + i = k + (i + 1) by omega]

theorem setRange_mid (P R : List Int) (r a : Int) : setRange (encI (P ++ r :: R)) P.length [.int .i64 a] = encI ((P ++ [a]) ++ R) := by
  rw [setRange_encI (by simp)]
  simp

def markedL (k : Nat) : Nat → List Ld
  | 0 => []
  | n + 1 => ((k : Int), ((k + 1 : Nat) : Int)) :: markedL (k + 2) n

theorem setRange_midL0 (P R : List Ld) (r : Ld) (a : Int) : setRange (encL (P ++ r :: R)) (P.length * 2) [.int .i64 a] = encL (P ++ (a, r.2) :: R) := by
  induction P with
  | nil => simp [encL, setRange]
  | cons p P ih =>
    simp only [encL, List.cons_append, List.length_cons, Nat.add_mul, Nat.one_mul] at *
    rw [setRange_k, setRange_k, ih]

theorem setRange_midL1 (P R : List Ld) (r : Ld) (a : Int) : setRange (encL (P ++ r :: R)) (P.length * 2 + 1) [.int .i64 a] = encL (P ++ (r.1, a) :: R) := by
  induction P with
  | nil => simp [encL, setRange]
  | cons p P ih =>
    simp only [encL, List.cons_append, List.length_cons, Nat.add_mul, Nat.one_mul] at *
    rw [show P.length * 2 + 2 + 1 = P.length * 2 + 1 + 1 + 1 by omega, setRange_k, setRange_k, ih]

theorem loop_l_markLoadS {L : List Blk} {b n : Nat} {c : Option Nat} {r : AV} (hb : b < L.length) (hn : n ≤ 4194304) :
    ∀ (R P : List Ld) (k : Nat) (y4 : AV), P.length + R.length = n → k + R.length * 2 ≤ 16777216 → ∃ z4, run T pr (.loop w_l_markLoadS_1) ⟨[slL b n c, .int .i64 k, r, .int .i64 P.length, y4], ⟨L.set b (.cells (encL (P ++ R)) true), e⟩⟩ =
      some (Ex.exit 0, ⟨[slL b n c, .int .i64 ((k + R.length * 2 : Nat) : Int), r, .int .i64 n, z4], ⟨L.set b (.cells (encL (P ++ markedL k R.length)) true), e⟩⟩)
  | [], P, k, y4, hP, hk => by
    refine ⟨.bool false, ?_⟩
    obtain rfl : n = P.length := by simp at hP; omega
    rw [run_loop]
    generalize run T pr (.loop w_l_markLoadS_1) = R'
    simp +contextual only [w_l_markLoadS_1, Nat.lt_irrefl, decide_false, markedL, Nat.zero_mul, go_sem, entry, joinEsc, if_pos, reduceIte, Nat.reduceAdd, Nat.reduceLeDiff, Nat.reduceLT, Nat.reduceEqDiff]
  | x :: R, P, k, y4, hP, hk => by
    simp only [List.length_cons] at hP hk
    have hi : P.length < n := by omega
    obtain ⟨z4, ih⟩ := loop_l_markLoadS (c := c) (r := r) hb hn R (P ++ [((k : Int), ((k + 1 : Nat) : Int))]) (k + 2) (.bool true) (by simp; omega) (by omega)
    refine ⟨z4, ?_⟩
    rw [run_loop]
    generalize run T pr (.loop w_l_markLoadS_1) = R' at ih ⊢
    have hg : ∀ y : Ld, (L.set b (.cells (encL (P ++ y :: R)) true))[b]? = some (.cells (encL (P ++ y :: R)) true) := fun y => List.getElem?_set_self hb
    have hle : ∀ y : Ld, P.length * 2 + 1 ≤ (encL (P ++ y :: R)).length := by intro y; rw [encL_length]; simp; omega
    have hle' : ∀ y : Ld, P.length * 2 + 1 + 1 ≤ (encL (P ++ y :: R)).length := by intro y; rw [encL_length]; simp; omega
    have hle2 : ∀ y : Ld, P.length * 2 + 2 ≤ (encL (P ++ y :: R)).length := by intro y; rw [encL_length]; simp; omega
    rw [show k + 2 + R.length * 2 = k + (R.length + 1) * 2 by omega] at ih
    simp only [List.append_assoc, List.singleton_append, List.length_append, List.length_cons, List.length_nil, Nat.zero_add] at ih
    have hw1 : IntKind.i64.wrap ((k : Int) + 1) = ((k + 1 : Nat) : Int) := wrap_succ (show k < 9223372036854775807 by omega)
    have hw2 : IntKind.i64.wrap (((k + 1 : Nat) : Int) + 1) = ((k + 2 : Nat) : Int) := wrap_succ (show k + 1 < 9223372036854775807 by omega)
    simp +contextual only [w_l_markLoadS_1, hi, hg, hle, hle', hle2, setRange_midL0, setRange_midL1, List.set_set, markedL, hw1, hw2, wrap_succ (show P.length < 9223372036854775807 by omega), decide_true, go_sem, entry, joinEsc, if_pos, reduceIte, Nat.reduceAdd, Nat.reduceLeDiff, Nat.reduceLT, Nat.reduceEqDiff]
    exact ih

theorem e_l_markLoadS {L : List Blk} {b : Nat} {c : Option Nat} {ls : List Ld} (h : L[b]? = some (.cells (encL ls) true)) (hn : ls.length ≤ 4194304) (k : Nat) (hk : k ≤ 4194304) : call T pr f_l_markLoadS [slL b ls.length c, .int .i64 k] ⟨L, e⟩ =
    some (.int .i64 ((k + ls.length * 2 : Nat) : Int), ⟨L.set b (.cells (encL (markedL k ls.length)) true), e⟩) := by
  have hb := (List.getElem?_eq_some_iff.mp h).1
  obtain ⟨z4, hl⟩ := loop_l_markLoadS (pr := pr) (e := none) (c := c) (r := .int .i64 0) hb hn ls [] k .undef (by simp) (by omega)
  have h0 : ((0 : Nat) : Int) = 0 := rfl
  rw [List.length_nil, h0, List.nil_append, List.nil_append, set_same h] at hl
  rw [call_eq t_l_markLoadS]
  simp +contextual only [a_l_markLoadS, c_l_markLoadS, hl, finish_one_set, go_sem, entry, joinEsc, if_pos, reduceIte, Nat.reduceAdd, Nat.reduceLeDiff, Nat.reduceLT, Nat.reduceEqDiff]

end Go.Proofs.Ytlocjmbfcdfjfaa.Slim

/- Rafts: sets that rise, and the next safe steps; the law. -/
namespace Go.Proofs.Ytlocjmbfcdfjfaa.Slim

open Go

set_option linter.unusedSimpArgs false

set_option linter.unusedVariables false

variable {pr : Prims} {H : List Blk} {e : Option Nat}

/-- does a list rise, above lo and below n? -/
def rises (n : Int) : Int → List Int → Bool
  | _, [] => true
  | lo, x :: xs => (decide (lo < x) && decide (x ≤ n - 1)) && rises n x xs

def bitsF (acc : Int) : List Int → Int
  | [] => acc
  | x :: xs => bitsF (orI .i64 acc (shlI .i64 1 x)) xs

def codeN (m : Nat) : List Int → Nat
  | [] => m
  | x :: xs => codeN (m + 2 ^ x.toNat) xs

/-- what stands before place i -/
def before (os : List Int) (i : Nat) (lo : Int) : Prop := (i = 0 ∧ lo = -1) ∨ ∃ i', i = i' + 1 ∧ os[i']? = some lo ∧ 0 ≤ lo

theorem before_next {os : List Int} {i : Nat} {x : Int} (h : os[i]? = some x) (h0 : 0 ≤ x) : before os (i + 1) x := .inr ⟨i, rfl, h, h0⟩

theorem before_in {os : List Int} {i : Nat} {lo : Int} {x n : Int} (h : before os i lo) (hw : (decide (0 ≤ x) && decide (x ≤ n)) = false) : (decide (lo < x) && decide (x ≤ n)) = false := by
  have : -1 ≤ lo := by
    rcases h with ⟨_, rfl⟩ | ⟨_, _, _, h⟩ <;> omega
  simp only [Bool.and_eq_false_iff, decide_eq_false_iff_not] at *
  omega

theorem low_bits : ∀ m : Nat, m < 256 → ∀ x : Nat, x < 8 → m < 2 ^ x → (m.testBit x = false ∧ m + 2 ^ x < 2 ^ (x + 1)) := by decide +kernel

theorem pow_mono8 : ∀ n : Nat, n < 9 → ∀ x : Nat, x < n → 2 ^ (x + 1) ≤ 2 ^ n := by decide +kernel

theorem bitsF_code {n : Nat} (hn8 : n ≤ 8) : ∀ (os : List Int) (lo : Int) (m : Nat), -1 ≤ lo → lo < n → m < 2 ^ (lo + 1).toNat → rises n lo os = true → bitsF m os = (codeN m os : Nat) ∧ codeN m os < 2 ^ n
  | [], lo, m, h1, h2, h3, _ => by
    refine ⟨rfl, ?_⟩
    rw [codeN]
    have : (2 : Nat) ^ (lo + 1).toNat ≤ 2 ^ n := Nat.pow_le_pow_right (by omega) (by omega)
    omega
  | x :: xs, lo, m, h1, h2, h3, hr => by
    rw [rises, Bool.and_eq_true, Bool.and_eq_true, decide_eq_true_eq, decide_eq_true_eq] at hr
    obtain ⟨⟨r1, r2⟩, r3⟩ := hr
    obtain ⟨y, rfl⟩ : ∃ y : Nat, x = y := ⟨x.toNat, by omega⟩
    have hp : (2 : Nat) ^ (lo + 1).toNat ≤ 2 ^ y := Nat.pow_le_pow_right (by omega) (by omega)
    have hp8 : (2 : Nat) ^ y ≤ 2 ^ 8 := Nat.pow_le_pow_right (by omega) (by omega)
    have h256 : (2 : Nat) ^ 8 = 256 := by decide
    obtain ⟨l1, l2⟩ := low_bits m (by omega) y (by omega) (by omega)
    obtain ⟨_, _, f3⟩ := bits_facts m (by omega) y (by omega)
    obtain ⟨g1, _, _, _⟩ := f3 l1
    rw [bitsF, codeN, g1, Int.toNat_natCast]
    exact bitsF_code hn8 xs y (m + 2 ^ y) (by omega) (by omega) (by rw [show ((y : Int) + 1).toNat = y + 1 by omega]; exact l2) r3

/-- a set of a cargo -/
def setOk (a b o : Int) (ls : List Ld) (os : List Int) : Bool := cargoOk a b o ls && rises ls.length (-1) os

/-- is the set one from which steps are told? -/
def canS (a b o : Int) (ls : List Ld) (os : List Int) : Bool := setOk a b o ls os && safeW a b o ls ((codeN 0 os : Nat) : Int)

def ssW (a b o : Int) (ls : List Ld) (os : List Int) : List Int := stepsW (waysW a b o ls) ls.length (codeN 0 os)

theorem ssW_le (a b o : Int) (ls : List Ld) (os : List Int) : (ssW a b o ls os).length ≤ ls.length := by
  unfold ssW stepsW
  rw [List.length_map]
  have := List.length_filter_le (okStep (waysW a b o ls) (codeN 0 os)) (List.range ls.length)
  simpa using this

end Go.Proofs.Ytlocjmbfcdfjfaa.Slim

/- Stages of a chain: what is valid, copies, marks. -/
namespace Go.Proofs.Ytlocjmbfcdfjfaa.Slim

open Go

set_option linter.unusedSimpArgs false

set_option linter.unusedVariables false

variable {pr : Prims} {H : List Blk} {e : Option Nat}

def ratioOk (x : Int) : Bool := decide (1 ≤ x) && decide (x ≤ 24)

theorem e_i_isRatio (x : Int) : call T pr f_i_isRatio [.int .i64 x] ⟨H, e⟩ = some (.bool (ratioOk x), ⟨H, e⟩) := by
  rw [call_eq t_i_isRatio]
  simp +contextual only [a_i_isRatio, c_i_isRatio, e_i_within, go_sem, entry, joinEsc, if_pos, reduceIte, Nat.reduceAdd, Nat.reduceLeDiff, Nat.reduceLT, Nat.reduceEqDiff]
  rfl

theorem e_s_l7Two (x y : Int) : call T pr f_s_l7Two [.int .i64 x, .int .i64 y] ⟨H, e⟩ = some (.bool (ratioOk x && ratioOk y), ⟨H, e⟩) := by
  rw [call_eq t_s_l7Two]
  simp +contextual only [a_s_l7Two, c_s_l7Two, e_s_l1In, go_sem, entry, joinEsc, if_pos, reduceIte, Nat.reduceAdd, Nat.reduceLeDiff, Nat.reduceLT, Nat.reduceEqDiff]
  rfl

/-- a stage: its kind and its two numbers -/
abbrev Sg := Int × Int × Int

def stageOk (s : Sg) : Bool :=
  if s.1 = 1 then ratioOk s.2.1 && ratioOk s.2.2 else if s.1 = 3 then ratioOk s.2.1 && ratioOk s.2.2 else if s.1 = 2 then ratioOk s.2.1 && decide (s.2.2 = 0)
  else if s.1 = 4 then (ratioOk s.2.1 && ratioOk s.2.2) && decide (s.2.2 ≤ s.2.1) else if s.1 = 5 then (ratioOk s.2.1 && ratioOk s.2.2) && decide (s.2.2 < s.2.1) else false

abbrev sgV (s : Sg) : AV := .agg [.int .i64 s.1, .int .i64 s.2.1, .int .i64 s.2.2]

theorem e_i_IsStage (k a b : Int) : call T pr f_i_IsStage [.agg [.int .i64 k, .int .i64 a, .int .i64 b]] ⟨H, e⟩ = some (.bool (stageOk (k, a, b)), ⟨H, e⟩) := by
  rw [call_eq t_i_IsStage]
  unfold stageOk
  by_cases h1 : k = 1
  · simp +contextual only [a_i_IsStage, c_i_IsStage, e_i_isRatio, h1, decide_true, go_sem, entry, joinEsc, if_pos, reduceIte, Nat.reduceAdd, Nat.reduceLeDiff, Nat.reduceLT, Nat.reduceEqDiff]
  by_cases h3 : k = 3
  · simp +contextual only [a_i_IsStage, c_i_IsStage, e_i_isRatio, h3, show ¬ ((3 : Int) = 1) by omega, decide_true, decide_false, go_sem, entry, joinEsc, if_pos, reduceIte, Nat.reduceAdd, Nat.reduceLeDiff, Nat.reduceLT, Nat.reduceEqDiff]
  by_cases h2 : k = 2
  · simp +contextual only [a_i_IsStage, c_i_IsStage, e_i_isRatio, h2, show ¬ ((2 : Int) = 1) by omega, show ¬ ((2 : Int) = 3) by omega, decide_true, decide_false, go_sem, entry, joinEsc, if_pos, reduceIte, Nat.reduceAdd, Nat.reduceLeDiff, Nat.reduceLT, Nat.reduceEqDiff]
  by_cases h4 : k = 4
  · simp +contextual only [a_i_IsStage, c_i_IsStage, e_i_isRatio, h4, show ¬ ((4 : Int) = 1) by omega, show ¬ ((4 : Int) = 3) by omega, show ¬ ((4 : Int) = 2) by omega, decide_true, decide_false, go_sem, entry, joinEsc, if_pos, reduceIte, Nat.reduceAdd, Nat.reduceLeDiff, Nat.reduceLT, Nat.reduceEqDiff]
  by_cases h5 : k = 5
  · simp +contextual only [a_i_IsStage, c_i_IsStage, e_i_isRatio, h5, show ¬ ((5 : Int) = 1) by omega, show ¬ ((5 : Int) = 3) by omega, show ¬ ((5 : Int) = 2) by omega, show ¬ ((5 : Int) = 4) by omega, decide_true, decide_false, go_sem, entry, joinEsc, if_pos, reduceIte, Nat.reduceAdd, Nat.reduceLeDiff, Nat.reduceLT, Nat.reduceEqDiff]
  · simp +contextual only [a_i_IsStage, c_i_IsStage, e_i_isRatio, h1, h2, h3, h4, h5, decide_true, decide_false, go_sem, entry, joinEsc, if_pos, reduceIte, Nat.reduceAdd, Nat.reduceLeDiff, Nat.reduceLT, Nat.reduceEqDiff]

theorem e_s_l7Stage (k a b : Int) : call T pr f_s_l7Stage [.agg [.int .i64 k, .int .i64 a, .int .i64 b]] ⟨H, e⟩ = some (.bool (stageOk (k, a, b)), ⟨H, e⟩) := by
  rw [call_eq t_s_l7Stage]
  have hr : ∀ x : Int, (decide (1 ≤ x) && decide (x ≤ 24)) = ratioOk x := fun x => rfl
  unfold stageOk
  by_cases h1 : k = 1
  · simp +contextual only [a_s_l7Stage, c_s_l7Stage, e_s_l7Two, e_s_l1In, hr, h1, decide_true, go_sem, entry, joinEsc, if_pos, reduceIte, Nat.reduceAdd, Nat.reduceLeDiff, Nat.reduceLT, Nat.reduceEqDiff]
  by_cases h3 : k = 3
  · simp +contextual only [a_s_l7Stage, c_s_l7Stage, e_s_l7Two, e_s_l1In, hr, h3, show ¬ ((3 : Int) = 1) by omega, decide_true, decide_false, go_sem, entry, joinEsc, if_pos, reduceIte, Nat.reduceAdd, Nat.reduceLeDiff, Nat.reduceLT, Nat.reduceEqDiff]
  by_cases h2 : k = 2
  · simp +contextual only [a_s_l7Stage, c_s_l7Stage, e_s_l7Two, e_s_l1In, hr, h2, show ¬ ((2 : Int) = 1) by omega, show ¬ ((2 : Int) = 3) by omega, decide_true, decide_false, go_sem, entry, joinEsc, if_pos, reduceIte, Nat.reduceAdd, Nat.reduceLeDiff, Nat.reduceLT, Nat.reduceEqDiff]
  by_cases h4 : k = 4
  · simp +contextual only [a_s_l7Stage, c_s_l7Stage, e_s_l7Two, e_s_l1In, hr, h4, show ¬ ((4 : Int) = 1) by omega, show ¬ ((4 : Int) = 3) by omega, show ¬ ((4 : Int) = 2) by omega, decide_true, decide_false, go_sem, entry, joinEsc, if_pos, reduceIte, Nat.reduceAdd, Nat.reduceLeDiff, Nat.reduceLT, Nat.reduceEqDiff]
  by_cases h5 : k = 5
  · simp +contextual only [a_s_l7Stage, c_s_l7Stage, e_s_l7Two, e_s_l1In, hr, h5, show ¬ ((5 : Int) = 1) by omega, show ¬ ((5 : Int) = 3) by omega, show ¬ ((5 : Int) = 2) by omega, show ¬ ((5 : Int) = 4) by omega, decide_true, decide_false, go_sem, entry, joinEsc, if_pos, reduceIte, Nat.reduceAdd, Nat.reduceLeDiff, Nat.reduceLT, Nat.reduceEqDiff]
  · simp +contextual only [a_s_l7Stage, c_s_l7Stage, e_s_l7Two, e_s_l1In, hr, h1, h2, h3, h4, h5, decide_true, decide_false, go_sem, entry, joinEsc, if_pos, reduceIte, Nat.reduceAdd, Nat.reduceLeDiff, Nat.reduceLT, Nat.reduceEqDiff]

def encS : List Sg → List AV
  | [] => []
  | s :: ss => .int .i64 s.1 :: .int .i64 s.2.1 :: .int .i64 s.2.2 :: encS ss

theorem encS_length : ∀ ss : List Sg, (encS ss).length = ss.length * 3
  | [] => rfl
  | s :: ss => by simp [encS, encS_length ss]; omega

theorem part_encS {ss : List Sg} {i : Nat} {s : Sg} (h : ss[i]? = some s) : part true (encS ss) (i * 3) 3 = some (.agg [.int .i64 s.1, .int .i64 s.2.1, .int .i64 s.2.2]) := by
  induction ss generalizing i with
  | nil => simp at h
  | cons a ss ih =>
    cases i with
    | zero => simp at h; subst h; simp [encS, part]
    | succ i =>
      simp at h
      rw [show (i + 1) * 3 = i * 3 + 1 + 1 + 1 by omega, encS, part_tk, part_tk, part_tk]
      exact ih h

theorem setRange_encS {X : List Sg} {i : Nat} {k a b : Int} (h : i < X.length) : setRange (encS X) (i * 3) [.int .i64 k, .int .i64 a, .int .i64 b] = encS (X.set i (k, a, b)) := by
  induction X generalizing i with
  | nil => simp at h
  | cons x X ih =>
    cases i with
    | zero => simp [encS, setRange]
    | succ i =>
      rw [show (i + 1) * 3 = i * 3 + 1 + 1 + 1 by omega, encS, setRange_k, setRange_k, setRange_k, ih (by simpa using h)]
      rfl

theorem under_encS (n : Nat) : ∀ ss : List Sg, ((encS ss).all fun c => c.under n) = true
  | [] => rfl
  | s :: ss => by simp [encS, AV.under, under_encS n ss]

theorem zeros_encS : ∀ n, zeros n [.int .i64 0, .int .i64 0, .int .i64 0] = encS (List.replicate n (0, 0, 0))
  | 0 => rfl
  | n + 1 => by
    have := zeros_encS n
    unfold zeros at *
    simp only [List.replicate_succ, List.flatten_cons, encS, List.cons_append, List.nil_append, this]

theorem take_set_succS {X ss : List Sg} {i : Nat} (hi : i < ss.length) (hX : X.length = ss.length) (h : X.take i = ss.take i) : (X.set i ss[i]).take (i + 1) = ss.take (i + 1) := by
  rw [List.take_succ_eq_append_getElem (by rw [List.length_set]; omega), List.take_succ_eq_append_getElem hi]
  rw [List.take_set_of_le (Nat.le_refl _), h]
  simp

abbrev slS (b n : Nat) (c : Option Nat) : AV := .slice (some (b, 0)) 3 n c

/-- a slice of stages, as a law is handed it -/
def ArgS (H : List Blk) (av : AV) (ss : List Sg) : Prop :=
  ∃ p sz c, av = .slice p sz ss.length c ∧ ss.length ≤ maxLen ∧ (ss ≠ [] → sz = 3 ∧ ∃ b, p = some (b, 0) ∧ cellsAt H b = some (encS ss))

theorem ArgS.more {av : AV} {ss : List Sg} (h : ArgS H av ss) (G : List Blk) : ArgS (H ++ G) av ss := by
  obtain ⟨p, sz, c, h1, h2, h3⟩ := h
  refine ⟨p, sz, c, h1, h2, fun hne => ?_⟩
  obtain ⟨h4, b, h5, h6⟩ := h3 hne
  exact ⟨h4, b, h5, cells_mono h6 G⟩

theorem stages_of : ∀ (es : List (List Int)), (∀ e ∈ es, e.length = 3) → ∃ ss : List Sg, es.flatten.map (AV.int .i64) = encS ss ∧ ss.length = es.length
  | [], _ => ⟨[], rfl, rfl⟩
  | e :: es, h => by
    obtain ⟨ss, h1, h2⟩ := stages_of es (fun e' h' => h e' (by simp [h']))
    have h0 := h e (by simp)
    match e, h0 with
    | [x, y, z], _ => exact ⟨(x, y, z) :: ss, by simp [encS, h1], by simp [h2]⟩

theorem argS_of {av : AV} {es : List (List Int)} (h : IsArg H av .i64 3 es) : ∃ ss, ArgS H av ss := by
  obtain ⟨h1, h2⟩ := h
  rcases h2 with ⟨rfl, rfl⟩ | ⟨b, cap, rfl, h3, h4, h5⟩
  · exact ⟨[], none, 0, none, rfl, Nat.zero_le _, fun h => absurd rfl h⟩
  · obtain ⟨ss, h6, h7⟩ := stages_of es (fun e he => (h1 e he).1)
    refine ⟨ss, some (b, 0), 3, some cap, by rw [h7], by omega, fun _ => ⟨rfl, b, rfl, ?_⟩⟩
    unfold cellsAt
    rw [h5, h6]

theorem e_l_toStage (k a b : Int) : call T pr f_l_toStage [.agg [.int .i64 k, .int .i64 a, .int .i64 b]] ⟨H, e⟩ = some (.agg [.int .i64 k, .int .i64 a, .int .i64 b], ⟨H, e⟩) := by
  rw [call_eq t_l_toStage]
  simp +contextual only [a_l_toStage, c_l_toStage, go_sem, entry, joinEsc, if_pos, reduceIte, Nat.reduceAdd, Nat.reduceLeDiff, Nat.reduceLT, Nat.reduceEqDiff]

theorem e_l_eqStage (k a b : Int) : call T pr f_l_eqStage [.agg [.int .i64 k, .int .i64 a, .int .i64 b], .agg [.int .i64 k, .int .i64 a, .int .i64 b]] ⟨H, e⟩ = some (.bool true, ⟨H, e⟩) := by
  rw [call_eq t_l_eqStage]
  simp +contextual only [a_l_eqStage, c_l_eqStage, decide_true, go_sem, entry, joinEsc, if_pos, reduceIte, Nat.reduceAdd, Nat.reduceLeDiff, Nat.reduceLT, Nat.reduceEqDiff]

theorem loop_l_toStageS {p : Option (Nat × Nat)} {sz : Nat} {c : Option Nat} {ls : List Sg} {r : AV} (ha : ls ≠ [] → sz = 3 ∧ ∃ b, p = some (b, 0) ∧ cellsAt H b = some (encS ls)) (hn : ls.length ≤ 1048576) :
    ∀ (k i : Nat) (X : List Sg) (y4 : AV), k + i = ls.length → X.length = ls.length → X.take i = ls.take i → ∃ z4, run T pr (.loop w_l_toStageS_1) ⟨[.slice p sz ls.length c, r, slS H.length ls.length (some ls.length), .int .i64 i, y4], ⟨H ++ [.cells (encS X) true], e⟩⟩ =
      some (Ex.exit 0, ⟨[.slice p sz ls.length c, r, slS H.length ls.length (some ls.length), .int .i64 ls.length, z4], ⟨H ++ [.cells (encS ls) true], e⟩⟩)
  | 0, i, X, y4, hk, hX, ht => by
    have hi : i = ls.length := by omega
    subst hi
    rw [List.take_of_length_le (by omega), List.take_of_length_le (by omega)] at ht
    subst ht
    refine ⟨.bool false, ?_⟩
    rw [run_loop]
    generalize run T pr (.loop w_l_toStageS_1) = R
    simp +contextual only [w_l_toStageS_1, Nat.lt_irrefl, decide_false, go_sem, entry, joinEsc, if_pos, reduceIte, Nat.reduceAdd, Nat.reduceLeDiff, Nat.reduceLT, Nat.reduceEqDiff]
  | k + 1, i, X, y4, hk, hX, ht => by
    have hi : i < ls.length := by omega
    have hl : ls[i]? = some ls[i] := List.getElem?_eq_getElem hi
    obtain ⟨rfl, b, rfl, hb⟩ := ha (by intro h; subst h; simp at hi)
    obtain ⟨z4, ih⟩ := loop_l_toStageS (c := c) (r := r) ha hn k (i + 1) (X.set i ls[i]) (.bool true) (by omega) (by simpa using hX) (take_set_succS hi hX ht)
    refine ⟨z4, ?_⟩
    rw [run_loop]
    generalize run T pr (.loop w_l_toStageS_1) = R at ih ⊢
    have hle : i * 3 + 3 ≤ (encS X).length := by rw [encS_length]; omega
    simp +contextual only [w_l_toStageS_1, cells_mono hb, hi, hl, part_encS hl, e_l_toStage, hle, setRange_encS (show i < X.length by omega), wrap_succ (show i < 9223372036854775807 by omega), decide_true, go_sem, entry, joinEsc, if_pos, reduceIte, Nat.reduceAdd, Nat.reduceLeDiff, Nat.reduceLT, Nat.reduceEqDiff]
    exact ih

theorem e_l_toStageS {av : AV} {ls : List Sg} (ha : ArgS H av ls) (hn : ls.length ≤ 1048576) : call T pr f_l_toStageS [av] ⟨H, e⟩ = some (slS H.length ls.length (some ls.length), ⟨H ++ [.cells (encS ls) true], e⟩) := by
  obtain ⟨p, sz, c, rfl, _, ha⟩ := ha
  obtain ⟨z4, hl⟩ := loop_l_toStageS (pr := pr) (e := none) (c := c) (r := .slice none 0 0 none) ha hn ls.length 0 (List.replicate ls.length (0, 0, 0)) .undef (by omega) (by simp) (by simp)
  rw [call_eq t_l_toStageS]
  have h0 : ((0 : Nat) : Int) = 0 := rfl
  have hmb : (ls.length : Int) * ((24 : Nat) : Int) ≤ ((maxBytes : Nat) : Int) := by unfold maxBytes; omega
  rw [h0, ← zeros_encS] at hl
  simp +contextual only [a_l_toStageS, c_l_toStageS, hmb, hl, under_encS, go_sem, entry, joinEsc, if_pos, reduceIte, Nat.reduceAdd, Nat.reduceLeDiff, Nat.reduceLT, Nat.reduceEqDiff]

theorem loop_l_eqStageS {b1 b2 : Nat} {c1 c2 : Option Nat} {ls : List Sg} (h1 : cellsAt H b1 = some (encS ls)) (h2 : cellsAt H b2 = some (encS ls)) (hn : ls.length ≤ 9223372036854775806) :
    ∀ (k i : Nat) (x5 x6 x7 : AV), k + i = ls.length → ∃ y5 y6, run T pr (.loop w_l_eqStageS_1) ⟨[slS b1 ls.length c1, slS b2 ls.length c2, .bool false, .int .i64 i, x7, x5, x6], ⟨H, e⟩⟩ =
      some (.exit 0, ⟨[slS b1 ls.length c1, slS b2 ls.length c2, .bool false, .int .i64 ls.length, x7, y5, y6], ⟨H, e⟩⟩)
  | 0, i, x5, x6, x7, hk => by
    have hi : i = ls.length := by omega
    subst hi
    refine ⟨.bool false, x6, ?_⟩
    rw [run_loop]
    generalize run T pr (.loop w_l_eqStageS_1) = R
    simp +contextual only [w_l_eqStageS_1, Nat.lt_irrefl, decide_false, go_sem, entry, joinEsc, if_pos, reduceIte, Nat.reduceAdd, Nat.reduceLeDiff, Nat.reduceLT, Nat.reduceEqDiff]
  | k + 1, i, x5, x6, x7, hk => by
    have hi : i < ls.length := by omega
    obtain ⟨y5, y6, ih⟩ := loop_l_eqStageS (c1 := c1) (c2 := c2) h1 h2 hn k (i + 1) (.bool true) (.bool false) x7 (by omega)
    refine ⟨y5, y6, ?_⟩
    rw [run_loop]
    have hl : ls[i]? = some ls[i] := List.getElem?_eq_getElem hi
    generalize run T pr (.loop w_l_eqStageS_1) = R at ih ⊢
    simp +contextual only [w_l_eqStageS_1, h1, h2, hi, hl, part_encS hl, e_l_eqStage, wrap_succ (show i < 9223372036854775807 by omega), decide_true, Bool.not_true, go_sem, entry, joinEsc, if_pos, reduceIte, Nat.reduceAdd, Nat.reduceLeDiff, Nat.reduceLT, Nat.reduceEqDiff]
    exact ih

theorem e_l_eqStageS {b1 b2 : Nat} {c1 c2 : Option Nat} {ls : List Sg} (h1 : cellsAt H b1 = some (encS ls)) (h2 : cellsAt H b2 = some (encS ls)) (hn : ls.length ≤ 9223372036854775806) :
    call T pr f_l_eqStageS [slS b1 ls.length c1, slS b2 ls.length c2] ⟨H, e⟩ = some (.bool true, ⟨H, e⟩) := by
  obtain ⟨z5, z6, hl⟩ := loop_l_eqStageS (pr := pr) (e := none) (c1 := c1) (c2 := c2) h1 h2 hn ls.length 0 .undef .undef (.bool false) rfl
  have h0 : ((0 : Nat) : Int) = 0 := rfl
  rw [h0] at hl
  rw [call_eq t_l_eqStageS]
  simp +contextual only [a_l_eqStageS, c_l_eqStageS, hl, decide_true, go_sem, entry, joinEsc, if_pos, reduceIte, Nat.reduceAdd, Nat.reduceLeDiff, Nat.reduceLT, Nat.reduceEqDiff]

def chainOk (ls : List Sg) : Bool := ls.all stageOk && decide (ls.length ≤ 5)

theorem loop_i_isChain {q : Nat} {c : Option Nat} {ls : List Sg} (h : cellsAt H q = some (encS ls)) (hn : ls.length ≤ 9223372036854775806) :
    ∀ (k i : Nat) (G : List Blk) (y2 y6 y7 : AV), k + i = ls.length → ∃ (G' : List Blk) (z2 z5 z6 z7 : AV), run T pr (.loop w_i_isChain_1) ⟨[slS q ls.length c, .bool false, y2, slS q ls.length c, .int .i64 ls.length, .int .i64 i, y6, y7], ⟨H ++ G, e⟩⟩ =
      some (if (ls.drop i).all stageOk = true then Ex.exit 0 else Ex.ret, ⟨[slS q ls.length c, .bool false, z2, slS q ls.length c, .int .i64 ls.length, z5, z6, z7], ⟨H ++ G', e⟩⟩)
  | 0, i, G, y2, y6, y7, hk => by
    have hi : i = ls.length := by omega
    subst hi
    refine ⟨G, y2, .int .i64 ls.length, .bool false, y7, ?_⟩
    rw [run_loop]
    generalize run T pr (.loop w_i_isChain_1) = R
    simp +contextual only [w_i_isChain_1, Nat.lt_irrefl, decide_false, List.drop_length, List.all_nil, go_sem, entry, joinEsc, if_pos, reduceIte, Nat.reduceAdd, Nat.reduceLeDiff, Nat.reduceLT, Nat.reduceEqDiff]
  | k + 1, i, G, y2, y6, y7, hk => by
    have hi : i < ls.length := by omega
    have hl : ls[i]? = some ls[i] := List.getElem?_eq_getElem hi
    rw [run_loop, List.drop_eq_getElem_cons hi, List.all_cons]
    cases h1 : stageOk ls[i] with
    | false =>
      refine ⟨G ++ [.cells [.int .i64 ls[i].1, .int .i64 ls[i].2.1, .int .i64 ls[i].2.2] true], .ptr (some (H.length + G.length, 0)), .int .i64 i, .bool true, .bool true, ?_⟩
      generalize run T pr (.loop w_i_isChain_1) = R
      simp +contextual only [w_i_isChain_1, cells_mono h, hi, hl, part_encS hl, e_i_IsStage, h1, decide_true, go_sem, entry, joinEsc, if_pos, reduceIte, Nat.reduceAdd, Nat.reduceLeDiff, Nat.reduceLT, Nat.reduceEqDiff]
    | true =>
      obtain ⟨G', z2, z5, z6, z7, ih⟩ := loop_i_isChain (c := c) h hn k (i + 1) (G ++ [.cells [.int .i64 ls[i].1, .int .i64 ls[i].2.1, .int .i64 ls[i].2.2] true]) (.ptr (some (H.length + G.length, 0))) (.bool true) (.bool false) (by omega)
      refine ⟨G', z2, z5, z6, z7, ?_⟩
      generalize run T pr (.loop w_i_isChain_1) = R at ih ⊢
      simp +contextual only [w_i_isChain_1, cells_mono h, hi, hl, part_encS hl, e_i_IsStage, h1, wrap_succ (show i < 9223372036854775807 by omega), decide_true, go_sem, entry, joinEsc, if_pos, reduceIte, Nat.reduceAdd, Nat.reduceLeDiff, Nat.reduceLT, Nat.reduceEqDiff]
      exact ih

theorem e_i_isChain {q : Nat} {c : Option Nat} {ls : List Sg} (h : cellsAt H q = some (encS ls)) (hn : ls.length ≤ 9223372036854775806) : call T pr f_i_isChain [slS q ls.length c] ⟨H, e⟩ = some (.bool (chainOk ls), ⟨H, e⟩) := by
  obtain ⟨G', z2, z5, z6, z7, hl⟩ := loop_i_isChain (pr := pr) (e := none) (c := c) h hn ls.length 0 [] .undef .undef .undef rfl
  have h0 : ((0 : Nat) : Int) = 0 := rfl
  have hi : decide (((ls.length : Nat) : Int) ≤ 5) = decide (ls.length ≤ 5) := decide_eq_decide.mpr (by omega)
  rw [h0, List.append_nil, List.drop_zero] at hl
  rw [call_eq t_i_isChain]
  unfold chainOk
  cases h1 : ls.all stageOk <;> rw [h1] at hl <;> simp +contextual only [a_i_isChain, c_i_isChain, hl, hi, go_sem, entry, joinEsc, if_pos, reduceIte, Nat.reduceAdd, Nat.reduceLeDiff, Nat.reduceLT, Nat.reduceEqDiff]

theorem e_i_isChain_none {p : Option (Nat × Nat)} {sz : Nat} {c : Option Nat} : call T pr f_i_isChain [.slice p sz 0 c] ⟨H, e⟩ = some (.bool true, ⟨H, e⟩) := by
  have h0 : ((0 : Nat) : Int) = 0 := rfl
  rw [call_eq t_i_isChain]
  have hl : run T pr (.loop w_i_isChain_1) ⟨[.slice p sz 0 c, .bool false, .undef, .slice p sz 0 c, .int .i64 0, .int .i64 0, .undef, .undef], ⟨H, none⟩⟩ = some (.exit 0, ⟨[.slice p sz 0 c, .bool false, .undef, .slice p sz 0 c, .int .i64 0, .int .i64 0, .bool false, .undef], ⟨H, none⟩⟩) := by
    rw [run_loop]
    generalize run T pr (.loop w_i_isChain_1) = R
    simp +contextual only [w_i_isChain_1, h0, Int.lt_irrefl, decide_false, go_sem, entry, joinEsc, if_pos, reduceIte, Nat.reduceAdd, Nat.reduceLeDiff, Nat.reduceLT, Nat.reduceEqDiff]
  simp +contextual only [a_i_isChain, c_i_isChain, hl, h0, show ((0 : Int) ≤ 5) by omega, decide_true, go_sem, entry, joinEsc, if_pos, reduceIte, Nat.reduceAdd, Nat.reduceLeDiff, Nat.reduceLT, Nat.reduceEqDiff]

theorem loop_s_l7Stages {q : Nat} {c : Option Nat} {ls : List Sg} {x : AV} (h : cellsAt H q = some (encS ls)) (hn : ls.length ≤ 9223372036854775806) :
    ∀ (k i : Nat) (y4 y5 : AV), k + i = ls.length → ∃ (z3 z4 z5 : AV), run T pr (.loop w_s_l7Stages_1) ⟨[slS q ls.length c, x, .bool false, .int .i64 i, y4, y5], ⟨H, e⟩⟩ =
      some (if (ls.drop i).all stageOk = true then Ex.exit 0 else Ex.ret, ⟨[slS q ls.length c, x, .bool false, z3, z4, z5], ⟨H, e⟩⟩)
  | 0, i, y4, y5, hk => by
    have hi : i = ls.length := by omega
    subst hi
    refine ⟨.int .i64 ls.length, .bool false, y5, ?_⟩
    rw [run_loop]
    generalize run T pr (.loop w_s_l7Stages_1) = R
    simp +contextual only [w_s_l7Stages_1, Nat.lt_irrefl, decide_false, List.drop_length, List.all_nil, go_sem, entry, joinEsc, if_pos, reduceIte, Nat.reduceAdd, Nat.reduceLeDiff, Nat.reduceLT, Nat.reduceEqDiff]
  | k + 1, i, y4, y5, hk => by
    have hi : i < ls.length := by omega
    have hl : ls[i]? = some ls[i] := List.getElem?_eq_getElem hi
    rw [run_loop, List.drop_eq_getElem_cons hi, List.all_cons]
    cases h1 : stageOk ls[i] with
    | false =>
      refine ⟨.int .i64 i, .bool true, .bool true, ?_⟩
      generalize run T pr (.loop w_s_l7Stages_1) = R
      simp +contextual only [w_s_l7Stages_1, h, hi, hl, part_encS hl, e_s_l7Stage, h1, decide_true, go_sem, entry, joinEsc, if_pos, reduceIte, Nat.reduceAdd, Nat.reduceLeDiff, Nat.reduceLT, Nat.reduceEqDiff]
    | true =>
      obtain ⟨z3, z4, z5, ih⟩ := loop_s_l7Stages (c := c) (x := x) h hn k (i + 1) (.bool true) (.bool false) (by omega)
      refine ⟨z3, z4, z5, ?_⟩
      generalize run T pr (.loop w_s_l7Stages_1) = R at ih ⊢
      simp +contextual only [w_s_l7Stages_1, h, hi, hl, part_encS hl, e_s_l7Stage, h1, wrap_succ (show i < 9223372036854775807 by omega), decide_true, go_sem, entry, joinEsc, if_pos, reduceIte, Nat.reduceAdd, Nat.reduceLeDiff, Nat.reduceLT, Nat.reduceEqDiff]
      exact ih

theorem e_s_l7Stages {q : Nat} {c : Option Nat} {ls : List Sg} (h : cellsAt H q = some (encS ls)) (hn : ls.length ≤ 9223372036854775806) : call T pr f_s_l7Stages [slS q ls.length c, .int .i64 5] ⟨H, e⟩ = some (.bool (chainOk ls), ⟨H, e⟩) := by
  obtain ⟨z3, z4, z5, hl⟩ := loop_s_l7Stages (pr := pr) (e := none) (c := c) (x := .int .i64 5) h hn ls.length 0 .undef .undef rfl
  have h0 : ((0 : Nat) : Int) = 0 := rfl
  have hi : decide (((ls.length : Nat) : Int) ≤ 5) = decide (ls.length ≤ 5) := decide_eq_decide.mpr (by omega)
  rw [h0, List.drop_zero] at hl
  rw [call_eq t_s_l7Stages]
  unfold chainOk
  cases h1 : ls.all stageOk <;> rw [h1] at hl <;> simp +contextual only [a_s_l7Stages, c_s_l7Stages, hl, hi, go_sem, entry, joinEsc, if_pos, reduceIte, Nat.reduceAdd, Nat.reduceLeDiff, Nat.reduceLT, Nat.reduceEqDiff]

end Go.Proofs.Ytlocjmbfcdfjfaa.Slim

/- Stands: what is valid, copies, new ones; their laws. -/
namespace Go.Proofs.Ytlocjmbfcdfjfaa.Slim

open Go

set_option linter.unusedSimpArgs false

set_option linter.unusedVariables false

variable {pr : Prims} {H : List Blk} {e : Option Nat}

abbrev stV (row : AV) (a b : Int) (chain : AV) (t k : Int) : AV := .agg [row, .int .i64 a, .int .i64 b, chain, .int .i64 t, .int .i64 k]

theorem clean_minEsc (lim b : Nat) (e : Option Nat) : clean lim (minEsc e b) = (clean lim e && decide (lim ≤ b)) := by
  cases e with
  | none => simp [clean, minEsc]
  | some x => simp [clean, minEsc, Nat.le_min]

theorem clean_none (lim : Nat) : clean lim none = true := Eq.trans rfl rfl

theorem under_slice (n b o sz k : Nat) (c : Option Nat) : (AV.slice (some (b, o)) sz k c).under n = decide (b < n) := by simp [AV.under]

theorem under_sliceN (n sz k : Nat) (c : Option Nat) : (AV.slice none sz k c).under n = true := by simp [AV.under]

theorem finish_stand {G : List Blk} {j1 j2 n1 n2 : Nat} {c1 c2 : Option Nat} {cs1 cs2 : List AV} {w1 w2 : Bool} (a b t k : Int) (e0 e1 : Option Nat) (hc : clean H.length e1 = true) (h1 : G[j1]? = some (.cells cs1 w1)) (h2 : G[j2]? = some (.cells cs2 w2)) (hne : j1 ≠ j2)
    (u1 : (cs1.all fun c => c.under H.length) = true) (u2 : (cs2.all fun c => c.under H.length) = true) :
    finish 2 H.length e0 (stV (slL (H.length + j1) n1 c1) a b (slS (H.length + j2) n2 c2) t k) ⟨H ++ G, e1⟩ = some (stV (slL H.length n1 c1) a b (slS (H.length + 1) n2 c2) t k, ⟨H ++ [.cells cs1 w1, .cells cs2 w2], e0⟩) := by
  have hlt1 : ¬ H.length + j1 < H.length := by omega
  have hlt2 : ¬ H.length + j2 < H.length := by omega
  have hne' : ¬ H.length + j2 = H.length + j1 := by omega
  have hr : dedup (AV.roots H.length (stV (slL (H.length + j1) n1 c1) a b (slS (H.length + j2) n2 c2) t k)) = [H.length + j1, H.length + j2] := by
    simp only [AV.roots, AV.roots.go, if_neg hlt1, if_neg hlt2, List.nil_append, List.cons_append, List.append_nil]
    simp [dedup, hne', hne, Ne.symm hne]
  have hb1 : (H ++ G)[H.length + j1]? = some (.cells cs1 w1) := by rw [List.getElem?_append_right (by omega)]; simpa using h1
  have hb2 : (H ++ G)[H.length + j2]? = some (.cells cs2 w2) := by rw [List.getElem?_append_right (by omega)]; simpa using h2
  unfold finish
  simp only [hr]
  have h3 : ([H.length + j1, H.length + j2].all fun b => flatBlk H.length (H ++ G)[b]?) = true := by
    simp only [List.all_cons, List.all_nil, Bool.and_true, hb1, hb2, flatBlk, u1, u2, Bool.and_self]
  simp only [hc, h3, and_self, if_true]
  have hq : (H.length + j1 == H.length + j2) = false := by simpa using hne
  simp [AV.rename, AV.rename.go, renum, hb1, hb2, List.idxOf_cons]
  refine ⟨fun h => by omega, ?_⟩
  rw [if_neg hlt2, hq]
  rfl

theorem finish_standB {G : List Blk} {j1 j2 n1 n2 : Nat} {c1 c2 : Option Nat} {cs1 cs2 : List AV} {w1 w2 : Bool} (a b t k : Int) (x : Bool) (e0 e1 : Option Nat) (hc : clean H.length e1 = true) (h1 : G[j1]? = some (.cells cs1 w1)) (h2 : G[j2]? = some (.cells cs2 w2)) (hne : j1 ≠ j2)
    (u1 : (cs1.all fun c => c.under H.length) = true) (u2 : (cs2.all fun c => c.under H.length) = true) :
    finish 2 H.length e0 (.tup [stV (slL (H.length + j1) n1 c1) a b (slS (H.length + j2) n2 c2) t k, .bool x]) ⟨H ++ G, e1⟩ = some (.tup [stV (slL H.length n1 c1) a b (slS (H.length + 1) n2 c2) t k, .bool x], ⟨H ++ [.cells cs1 w1, .cells cs2 w2], e0⟩) := by
  have hlt1 : ¬ H.length + j1 < H.length := by omega
  have hlt2 : ¬ H.length + j2 < H.length := by omega
  have hne' : ¬ H.length + j2 = H.length + j1 := by omega
  have hr : dedup (AV.roots H.length (.tup [stV (slL (H.length + j1) n1 c1) a b (slS (H.length + j2) n2 c2) t k, .bool x])) = [H.length + j1, H.length + j2] := by
    simp only [AV.roots, AV.roots.go, if_neg hlt1, if_neg hlt2, List.nil_append, List.cons_append, List.append_nil]
    simp [dedup, hne', hne, Ne.symm hne]
  have hb1 : (H ++ G)[H.length + j1]? = some (.cells cs1 w1) := by rw [List.getElem?_append_right (by omega)]; simpa using h1
  have hb2 : (H ++ G)[H.length + j2]? = some (.cells cs2 w2) := by rw [List.getElem?_append_right (by omega)]; simpa using h2
  unfold finish
  simp only [hr]
  have h3 : ([H.length + j1, H.length + j2].all fun b => flatBlk H.length (H ++ G)[b]?) = true := by
    simp only [List.all_cons, List.all_nil, Bool.and_true, hb1, hb2, flatBlk, u1, u2, Bool.and_self]
  simp only [hc, h3, and_self, if_true]
  have hq : (H.length + j1 == H.length + j2) = false := by simpa using hne
  simp [AV.rename, AV.rename.go, renum, hb1, hb2, List.idxOf_cons]
  refine ⟨fun h => by omega, ?_⟩
  rw [if_neg hlt2, hq]
  rfl

theorem finish_standN {G : List Blk} {s1 s2 n1 n2 : Nat} {c1 c2 : Option Nat} (a b t k : Int) (x : Bool) (e0 e1 : Option Nat) (hc : clean H.length e1 = true) :
    finish 2 H.length e0 (.tup [stV (.slice none s1 n1 c1) a b (.slice none s2 n2 c2) t k, .bool x]) ⟨H ++ G, e1⟩ = some (.tup [stV (.slice none s1 n1 c1) a b (.slice none s2 n2 c2) t k, .bool x], ⟨H, e0⟩) := by
  have hr : dedup (AV.roots H.length (.tup [stV (.slice none s1 n1 c1) a b (.slice none s2 n2 c2) t k, .bool x])) = [] := rfl
  unfold finish
  simp only [hr]
  simp [AV.rename, AV.rename.go, hc]

theorem e_l_szStageS (n : Nat) (p : Option (Nat × Nat)) (sz : Nat) (c : Option Nat) (hn : n ≤ maxLen) (left : Int) (h0 : 0 ≤ left) (h1 : left ≤ 1048576) : call T pr f_l_szStageS [.slice p sz n c, .int .i64 left] ⟨H, e⟩ = some (.int .i64 (if (n : Int) ≤ left then left - n else -1), ⟨H, e⟩) := by
  rw [call_eq t_l_szStageS]
  have hm : maxLen = 9223372036854775807 := by decide
  have hw : IntKind.i64.wrap (left - n) = left - n := wrap64 (by omega) (by omega)
  by_cases h2 : (n : Int) ≤ left
  · have h3 : ¬ (left - n < 0) := by omega
    simp +contextual only [a_l_szStageS, c_l_szStageS, hw, h2, h3, decide_false, go_sem, entry, joinEsc, if_pos, reduceIte, Nat.reduceAdd, Nat.reduceLeDiff, Nat.reduceLT, Nat.reduceEqDiff]
  · have h3 : left - n < 0 := by omega
    simp +contextual only [a_l_szStageS, c_l_szStageS, hw, h2, h3, decide_true, go_sem, entry, joinEsc, if_pos, reduceIte, Nat.reduceAdd, Nat.reduceLeDiff, Nat.reduceLT, Nat.reduceEqDiff]

theorem e_l_szStand {p1 p2 : Option (Nat × Nat)} {s1 s2 n1 n2 : Nat} {c1 c2 : Option Nat} (hn1 : n1 ≤ maxLen) (hn2 : n2 ≤ maxLen) (a b t k : Int) : call T pr f_l_szStand [stV (.slice p1 s1 n1 c1) a b (.slice p2 s2 n2 c2) t k, .int .i64 1048576] ⟨H, e⟩ =
    some (.int .i64 (if n1 + n2 ≤ 1048576 then 1048576 - ((n1 + n2 : Nat) : Int) else -1), ⟨H, e⟩) := by
  rw [call_eq t_l_szStand]
  by_cases h1 : n1 ≤ 1048576
  · have hz := fun G e' => e_l_szStageS (pr := pr) (H := G) (e := e') n2 p2 s2 c2 hn2 (1048576 - (n1 : Int)) (by omega) (by omega)
    have h2 : ¬ (1048576 - (n1 : Int) < 0) := by omega
    by_cases h3 : n1 + n2 ≤ 1048576
    · have h4 : (n2 : Int) ≤ 1048576 - (n1 : Int) := by omega
      have h5 : ¬ (1048576 - (n1 : Int) - (n2 : Int) < 0) := by omega
      have h6 : 1048576 - (n1 : Int) - (n2 : Int) = 1048576 - ((n1 + n2 : Nat) : Int) := by omega
      simp +contextual only [a_l_szStand, c_l_szStand, e_l_szLoadS _ _ _ _ hn1, h1, h2, hz, h3, h4, h5, decide_false, go_sem, entry, joinEsc, if_pos, reduceIte, Nat.reduceAdd, Nat.reduceLeDiff, Nat.reduceLT, Nat.reduceEqDiff]
      rw [h6]
    · have h4 : ¬ ((n2 : Int) ≤ 1048576 - (n1 : Int)) := by omega
      simp +contextual only [a_l_szStand, c_l_szStand, e_l_szLoadS _ _ _ _ hn1, h1, h2, hz, h3, h4, decide_false, decide_true, show ((-1 : Int) < 0) by omega, go_sem, entry, joinEsc, if_pos, reduceIte, Nat.reduceAdd, Nat.reduceLeDiff, Nat.reduceLT, Nat.reduceEqDiff]
  · have h3 : ¬ (n1 + n2 ≤ 1048576) := by omega
    simp +contextual only [a_l_szStand, c_l_szStand, e_l_szLoadS _ _ _ _ hn1, h1, h3, decide_true, show ((-1 : Int) < 0) by omega, go_sem, entry, joinEsc, if_pos, reduceIte, Nat.reduceAdd, Nat.reduceLeDiff, Nat.reduceLT, Nat.reduceEqDiff]

theorem e_l_toStand {row chain : AV} {ls : List Ld} {ss : List Sg} (ha : ArgL H row ls) (hs : ArgS H chain ss) (hn : ls.length ≤ 1048576) (hm : ss.length ≤ 1048576) (a b t k : Int) : call T pr f_l_toStand [stV row a b chain t k] ⟨H, e⟩ =
    some (stV (slL H.length ls.length (some ls.length)) a b (slS (H.length + 1) ss.length (some ss.length)) t k, ⟨H ++ [.cells (encL ls) true, .cells (encS ss) true], e⟩) := by
  have h1 := fun G e' => e_l_toLoadS (pr := pr) (e := e') (ha.more G) hn
  have h2 := fun G e' => e_l_toStageS (pr := pr) (e := e') (hs.more G) hm
  have hf : ∀ (B1 B2 B3 : Blk) (e0 e1 : Option Nat), clean H.length e1 = true → finish 2 H.length e0 (stV (slL (H.length + 3) ls.length (some ls.length)) a b (slS (H.length + 4) ss.length (some ss.length)) t k) ⟨H ++ [B1, B2, B3, .cells (encL ls) true, .cells (encS ss) true], e1⟩ = some (stV (slL H.length ls.length (some ls.length)) a b (slS (H.length + 1) ss.length (some ss.length)) t k, ⟨H ++ [.cells (encL ls) true, .cells (encS ss) true], e0⟩) :=
    fun B1 B2 B3 e0 e1 hc => finish_stand a b t k e0 e1 hc rfl rfl (by decide) (under_encL _ _) (under_encS _ _)
  rw [call_eq t_l_toStand]
  simp +contextual only [a_l_toStand, c_l_toStand, h1, h2, hf, under_slice, Nat.add_assoc, Nat.add_lt_add_iff_left, Nat.lt_irrefl, decide_false, clean_minEsc, clean_none, Nat.le_add_right, decide_true, go_sem, entry, joinEsc, if_pos, reduceIte, Nat.reduceAdd, Nat.reduceLeDiff, Nat.reduceLT, Nat.reduceEqDiff]

theorem e_l_eqLoadS_none {p1 p2 : Option (Nat × Nat)} {s1 s2 : Nat} {c1 c2 : Option Nat} : call T pr f_l_eqLoadS [.slice p1 s1 0 c1, .slice p2 s2 0 c2] ⟨H, e⟩ = some (.bool true, ⟨H, e⟩) := by
  have h0 : ((0 : Nat) : Int) = 0 := rfl
  rw [call_eq t_l_eqLoadS]
  have hl : run T pr (.loop w_l_eqLoadS_1) ⟨[.slice p1 s1 0 c1, .slice p2 s2 0 c2, .bool false, .int .i64 0, .bool false, .undef, .undef], ⟨H, none⟩⟩ = some (.exit 0, ⟨[.slice p1 s1 0 c1, .slice p2 s2 0 c2, .bool false, .int .i64 0, .bool false, .bool false, .undef], ⟨H, none⟩⟩) := by
    rw [run_loop]
    generalize run T pr (.loop w_l_eqLoadS_1) = R
    simp +contextual only [w_l_eqLoadS_1, h0, Int.lt_irrefl, decide_false, go_sem, entry, joinEsc, if_pos, reduceIte, Nat.reduceAdd, Nat.reduceLeDiff, Nat.reduceLT, Nat.reduceEqDiff]
  simp +contextual only [a_l_eqLoadS, c_l_eqLoadS, hl, h0, decide_true, go_sem, entry, joinEsc, if_pos, reduceIte, Nat.reduceAdd, Nat.reduceLeDiff, Nat.reduceLT, Nat.reduceEqDiff]

theorem e_l_eqStageS_none {p1 p2 : Option (Nat × Nat)} {s1 s2 : Nat} {c1 c2 : Option Nat} : call T pr f_l_eqStageS [.slice p1 s1 0 c1, .slice p2 s2 0 c2] ⟨H, e⟩ = some (.bool true, ⟨H, e⟩) := by
  have h0 : ((0 : Nat) : Int) = 0 := rfl
  rw [call_eq t_l_eqStageS]
  have hl : run T pr (.loop w_l_eqStageS_1) ⟨[.slice p1 s1 0 c1, .slice p2 s2 0 c2, .bool false, .int .i64 0, .bool false, .undef, .undef], ⟨H, none⟩⟩ = some (.exit 0, ⟨[.slice p1 s1 0 c1, .slice p2 s2 0 c2, .bool false, .int .i64 0, .bool false, .bool false, .undef], ⟨H, none⟩⟩) := by
    rw [run_loop]
    generalize run T pr (.loop w_l_eqStageS_1) = R
    simp +contextual only [w_l_eqStageS_1, h0, Int.lt_irrefl, decide_false, go_sem, entry, joinEsc, if_pos, reduceIte, Nat.reduceAdd, Nat.reduceLeDiff, Nat.reduceLT, Nat.reduceEqDiff]
  simp +contextual only [a_l_eqStageS, c_l_eqStageS, hl, h0, decide_true, go_sem, entry, joinEsc, if_pos, reduceIte, Nat.reduceAdd, Nat.reduceLeDiff, Nat.reduceLT, Nat.reduceEqDiff]

theorem e_l_markLoadS_none {p1 : Option (Nat × Nat)} {s1 : Nat} {c1 : Option Nat} (x : Int) : call T pr f_l_markLoadS [.slice p1 s1 0 c1, .int .i64 x] ⟨H, e⟩ = some (.int .i64 x, ⟨H, e⟩) := by
  have h0 : ((0 : Nat) : Int) = 0 := rfl
  rw [call_eq t_l_markLoadS]
  have hl : run T pr (.loop w_l_markLoadS_1) ⟨[.slice p1 s1 0 c1, .int .i64 x, .int .i64 0, .int .i64 0, .undef], ⟨H, none⟩⟩ = some (.exit 0, ⟨[.slice p1 s1 0 c1, .int .i64 x, .int .i64 0, .int .i64 0, .bool false], ⟨H, none⟩⟩) := by
    rw [run_loop]
    generalize run T pr (.loop w_l_markLoadS_1) = R
    simp +contextual only [w_l_markLoadS_1, h0, Int.lt_irrefl, decide_false, go_sem, entry, joinEsc, if_pos, reduceIte, Nat.reduceAdd, Nat.reduceLeDiff, Nat.reduceLT, Nat.reduceEqDiff]
  simp +contextual only [a_l_markLoadS, c_l_markLoadS, hl, h0, decide_true, go_sem, entry, joinEsc, if_pos, reduceIte, Nat.reduceAdd, Nat.reduceLeDiff, Nat.reduceLT, Nat.reduceEqDiff]

theorem e_l_markStageS_none {p1 : Option (Nat × Nat)} {s1 : Nat} {c1 : Option Nat} (x : Int) : call T pr f_l_markStageS [.slice p1 s1 0 c1, .int .i64 x] ⟨H, e⟩ = some (.int .i64 x, ⟨H, e⟩) := by
  have h0 : ((0 : Nat) : Int) = 0 := rfl
  rw [call_eq t_l_markStageS]
  have hl : run T pr (.loop w_l_markStageS_1) ⟨[.slice p1 s1 0 c1, .int .i64 x, .int .i64 0, .int .i64 0, .undef], ⟨H, none⟩⟩ = some (.exit 0, ⟨[.slice p1 s1 0 c1, .int .i64 x, .int .i64 0, .int .i64 0, .bool false], ⟨H, none⟩⟩) := by
    rw [run_loop]
    generalize run T pr (.loop w_l_markStageS_1) = R
    simp +contextual only [w_l_markStageS_1, h0, Int.lt_irrefl, decide_false, go_sem, entry, joinEsc, if_pos, reduceIte, Nat.reduceAdd, Nat.reduceLeDiff, Nat.reduceLT, Nat.reduceEqDiff]
  simp +contextual only [a_l_markStageS, c_l_markStageS, hl, h0, decide_true, go_sem, entry, joinEsc, if_pos, reduceIte, Nat.reduceAdd, Nat.reduceLeDiff, Nat.reduceLT, Nat.reduceEqDiff]

theorem e_l_heldLoadS_none {p1 : Option (Nat × Nat)} {s1 : Nat} {c1 : Option Nat} (x : Int) : call T pr f_l_heldLoadS [.slice p1 s1 0 c1, .int .i64 x] ⟨H, e⟩ = some (.int .i64 x, ⟨H, e⟩) := by
  have h0 : ((0 : Nat) : Int) = 0 := rfl
  rw [call_eq t_l_heldLoadS]
  have hl : run T pr (.loop w_l_heldLoadS_1) ⟨[.slice p1 s1 0 c1, .int .i64 x, .int .i64 0, .int .i64 0, .undef, .undef, .undef], ⟨H, none⟩⟩ = some (.exit 0, ⟨[.slice p1 s1 0 c1, .int .i64 x, .int .i64 0, .int .i64 0, .bool false, .undef, .undef], ⟨H, none⟩⟩) := by
    rw [run_loop]
    generalize run T pr (.loop w_l_heldLoadS_1) = R
    simp +contextual only [w_l_heldLoadS_1, h0, Int.lt_irrefl, decide_false, go_sem, entry, joinEsc, if_pos, reduceIte, Nat.reduceAdd, Nat.reduceLeDiff, Nat.reduceLT, Nat.reduceEqDiff]
  simp +contextual only [a_l_heldLoadS, c_l_heldLoadS, hl, h0, decide_true, go_sem, entry, joinEsc, if_pos, reduceIte, Nat.reduceAdd, Nat.reduceLeDiff, Nat.reduceLT, Nat.reduceEqDiff]

theorem e_l_heldStageS_none {p1 : Option (Nat × Nat)} {s1 : Nat} {c1 : Option Nat} (x : Int) : call T pr f_l_heldStageS [.slice p1 s1 0 c1, .int .i64 x] ⟨H, e⟩ = some (.int .i64 x, ⟨H, e⟩) := by
  have h0 : ((0 : Nat) : Int) = 0 := rfl
  rw [call_eq t_l_heldStageS]
  have hl : run T pr (.loop w_l_heldStageS_1) ⟨[.slice p1 s1 0 c1, .int .i64 x, .int .i64 0, .int .i64 0, .undef, .undef, .undef, .undef], ⟨H, none⟩⟩ = some (.exit 0, ⟨[.slice p1 s1 0 c1, .int .i64 x, .int .i64 0, .int .i64 0, .bool false, .undef, .undef, .undef], ⟨H, none⟩⟩) := by
    rw [run_loop]
    generalize run T pr (.loop w_l_heldStageS_1) = R
    simp +contextual only [w_l_heldStageS_1, h0, Int.lt_irrefl, decide_false, go_sem, entry, joinEsc, if_pos, reduceIte, Nat.reduceAdd, Nat.reduceLeDiff, Nat.reduceLT, Nat.reduceEqDiff]
  simp +contextual only [a_l_heldStageS, c_l_heldStageS, hl, h0, decide_true, go_sem, entry, joinEsc, if_pos, reduceIte, Nat.reduceAdd, Nat.reduceLeDiff, Nat.reduceLT, Nat.reduceEqDiff]

theorem e_i_IsRow_none {p1 : Option (Nat × Nat)} {s1 : Nat} {c1 : Option Nat} : call T pr f_i_IsRow [.slice p1 s1 0 c1] ⟨H, e⟩ = some (.bool true, ⟨H, e⟩) := by
  have h0 : ((0 : Nat) : Int) = 0 := rfl
  have hl : run T pr (.loop w_slices_IndexFunc_Si_Load_i_Load_1) ⟨[.slice p1 s1 0 c1, .fn f_i_IsRow_1 [] [], .int .i64 0, .undef, .int .i64 0, .int .i64 0, .undef, .undef], ⟨H, none⟩⟩ = some (.exit 0, ⟨[.slice p1 s1 0 c1, .fn f_i_IsRow_1 [] [], .int .i64 0, .undef, .int .i64 0, .int .i64 0, .bool false, .undef], ⟨H, none⟩⟩) := by
    rw [run_loop]
    generalize run T pr (.loop w_slices_IndexFunc_Si_Load_i_Load_1) = R
    simp +contextual only [w_slices_IndexFunc_Si_Load_i_Load_1, h0, Int.lt_irrefl, decide_false, go_sem, entry, joinEsc, if_pos, reduceIte, Nat.reduceAdd, Nat.reduceLeDiff, Nat.reduceLT, Nat.reduceEqDiff]
  have h1 : ∀ e', call T pr f_slices_IndexFunc_Si_Load_i_Load [.slice p1 s1 0 c1, .fn f_i_IsRow_1 [] []] ⟨H, e'⟩ = some (.int .i64 (-1), ⟨H, e'⟩) := by
    intro e'
    rw [call_eq t_slices_IndexFunc_Si_Load_i_Load]
    simp +contextual only [a_slices_IndexFunc_Si_Load_i_Load, c_slices_IndexFunc_Si_Load_i_Load, hl, h0, go_sem, entry, joinEsc, if_pos, reduceIte, Nat.reduceAdd, Nat.reduceLeDiff, Nat.reduceLT, Nat.reduceEqDiff]
  have h2 : ∀ e', call T pr f_slices_ContainsFunc_Si_Load_i_Load [.slice p1 s1 0 c1, .fn f_i_IsRow_1 [] []] ⟨H, e'⟩ = some (.bool false, ⟨H, e'⟩) := by
    intro e'
    rw [call_eq t_slices_ContainsFunc_Si_Load_i_Load]
    simp +contextual only [a_slices_ContainsFunc_Si_Load_i_Load, c_slices_ContainsFunc_Si_Load_i_Load, h1, show ¬ ((0 : Int) ≤ -1) by omega, decide_false, go_sem, entry, joinEsc, if_pos, reduceIte, Nat.reduceAdd, Nat.reduceLeDiff, Nat.reduceLT, Nat.reduceEqDiff]
  rw [call_eq t_i_IsRow]
  simp +contextual only [a_i_IsRow, c_i_IsRow, h2, h0, show ¬ ((12 : Int) < 0) by omega, decide_false, go_sem, entry, joinEsc, if_pos, reduceIte, Nat.reduceAdd, Nat.reduceLeDiff, Nat.reduceLT, Nat.reduceEqDiff]

/-- the rest of a stand -/
def restOk (a b t k : Int) : Bool := baseOk a b && ((decide (0 ≤ k) && decide (k ≤ 1000)) && (decide (0 ≤ t) && decide (t ≤ k)))

theorem e_i_IsStand {row chain : AV} {x y : Bool} (hr : ∀ G, call T pr f_i_IsRow [row] ⟨H ++ G, none⟩ = some (.bool x, ⟨H ++ G, none⟩)) (hc : ∀ G, call T pr f_i_isChain [chain] ⟨H ++ G, none⟩ = some (.bool y, ⟨H ++ G, none⟩)) (a b t k : Int) :
    call T pr f_i_IsStand [stV row a b chain t k] ⟨H, e⟩ = some (.bool (x && (y && restOk a b t k)), ⟨H, e⟩) := by
  rw [call_eq t_i_IsStand]
  cases x with
  | false => simp +contextual only [a_i_IsStand, c_i_IsStand, hr, go_sem, entry, joinEsc, if_pos, reduceIte, Nat.reduceAdd, Nat.reduceLeDiff, Nat.reduceLT, Nat.reduceEqDiff]
  | true =>
    unfold restOk
    cases h1 : baseOk a b with
    | false => simp +contextual only [a_i_IsStand, c_i_IsStand, hr, e_i_isBase, h1, go_sem, entry, joinEsc, if_pos, reduceIte, Nat.reduceAdd, Nat.reduceLeDiff, Nat.reduceLT, Nat.reduceEqDiff]
    | true =>
      cases y with
      | false => simp +contextual only [a_i_IsStand, c_i_IsStand, hr, hc, e_i_isBase, h1, go_sem, entry, joinEsc, if_pos, reduceIte, Nat.reduceAdd, Nat.reduceLeDiff, Nat.reduceLT, Nat.reduceEqDiff]
      | true =>
        cases h2 : (decide (0 ≤ k) && decide (k ≤ 1000)) with
        | false => simp +contextual only [a_i_IsStand, c_i_IsStand, hr, hc, e_i_isBase, e_i_within, h1, h2, go_sem, entry, joinEsc, if_pos, reduceIte, Nat.reduceAdd, Nat.reduceLeDiff, Nat.reduceLT, Nat.reduceEqDiff]
        | true => simp +contextual only [a_i_IsStand, c_i_IsStand, hr, hc, e_i_isBase, e_i_within, h1, h2, go_sem, entry, joinEsc, if_pos, reduceIte, Nat.reduceAdd, Nat.reduceLeDiff, Nat.reduceLT, Nat.reduceEqDiff]

theorem e_s_l12Good {row chain : AV} {x y : Bool} (hr : ∀ G, call T pr f_s_l2Row [row] ⟨H ++ G, none⟩ = some (.bool x, ⟨H ++ G, none⟩)) (hc : ∀ G, call T pr f_s_l7Stages [chain, .int .i64 5] ⟨H ++ G, none⟩ = some (.bool y, ⟨H ++ G, none⟩)) (a b t k : Int) :
    call T pr f_s_l12Good [stV row a b chain t k] ⟨H, e⟩ = some (.bool (x && (y && restOk a b t k)), ⟨H, e⟩) := by
  have h0 : ∀ G, call T pr f_s_l2On [row, .int .i64 a, .int .i64 b] ⟨H ++ G, none⟩ = some (.bool (x && baseOk a b), ⟨H ++ G, none⟩) := by
    intro G
    have hrG := hr G
    generalize H ++ G = L at hrG ⊢
    rw [call_eq t_s_l2On]
    cases x with
    | false => simp +contextual only [a_s_l2On, c_s_l2On, hrG, go_sem, entry, joinEsc, if_pos, reduceIte, Nat.reduceAdd, Nat.reduceLeDiff, Nat.reduceLT, Nat.reduceEqDiff]
    | true => simp +contextual only [a_s_l2On, c_s_l2On, hrG, e_s_l2Base, go_sem, entry, joinEsc, if_pos, reduceIte, Nat.reduceAdd, Nat.reduceLeDiff, Nat.reduceLT, Nat.reduceEqDiff]
  rw [call_eq t_s_l12Good]
  unfold restOk
  cases h2 : (x && baseOk a b) with
  | false =>
    have h3 : (x && (y && (baseOk a b && ((decide (0 ≤ k) && decide (k ≤ 1000)) && (decide (0 ≤ t) && decide (t ≤ k)))))) = false := by
      cases x <;> cases hb : baseOk a b <;> simp_all
    rw [h3]
    simp +contextual only [a_s_l12Good, c_s_l12Good, h0, h2, go_sem, entry, joinEsc, if_pos, reduceIte, Nat.reduceAdd, Nat.reduceLeDiff, Nat.reduceLT, Nat.reduceEqDiff]
  | true =>
    obtain ⟨rfl, h4⟩ := Bool.and_eq_true_iff.mp h2
    rw [h4]
    cases y with
    | false => simp +contextual only [a_s_l12Good, c_s_l12Good, h0, h2, hc, go_sem, entry, joinEsc, if_pos, reduceIte, Nat.reduceAdd, Nat.reduceLeDiff, Nat.reduceLT, Nat.reduceEqDiff]
    | true =>
      cases h5 : (decide (0 ≤ k) && decide (k ≤ 1000)) with
      | false => simp +contextual only [a_s_l12Good, c_s_l12Good, h0, h2, hc, e_s_l1In, h5, go_sem, entry, joinEsc, if_pos, reduceIte, Nat.reduceAdd, Nat.reduceLeDiff, Nat.reduceLT, Nat.reduceEqDiff]
      | true => simp +contextual only [a_s_l12Good, c_s_l12Good, h0, h2, hc, e_s_l1In, h5, go_sem, entry, joinEsc, if_pos, reduceIte, Nat.reduceAdd, Nat.reduceLeDiff, Nat.reduceLT, Nat.reduceEqDiff]

theorem e_s_IsStand {row chain : AV} {x y : Bool} (hr : ∀ G, call T pr f_s_l2Row [row] ⟨H ++ G, none⟩ = some (.bool x, ⟨H ++ G, none⟩)) (hc : ∀ G, call T pr f_s_l7Stages [chain, .int .i64 5] ⟨H ++ G, none⟩ = some (.bool y, ⟨H ++ G, none⟩)) (a b t k : Int) :
    call T pr f_s_IsStand [stV row a b chain t k] ⟨H, e⟩ = some (.bool (x && (y && restOk a b t k)), ⟨H, e⟩) := by
  have h1 : ∀ G, call T pr f_s_l12Good [stV row a b chain t k] ⟨H ++ G, none⟩ = some (.bool (x && (y && restOk a b t k)), ⟨H ++ G, none⟩) :=
    fun G => e_s_l12Good (fun X => by rw [List.append_assoc]; exact hr _) (fun X => by rw [List.append_assoc]; exact hc _) a b t k
  rw [call_eq t_s_IsStand]
  simp +contextual only [a_s_IsStand, c_s_IsStand, h1, go_sem, entry, joinEsc, if_pos, reduceIte, Nat.reduceAdd, Nat.reduceLeDiff, Nat.reduceLT, Nat.reduceEqDiff]

end Go.Proofs.Ytlocjmbfcdfjfaa.Slim

/- New stands, and the first laws of stands. -/
namespace Go.Proofs.Ytlocjmbfcdfjfaa.Slim

open Go

set_option linter.unusedSimpArgs false

set_option linter.unusedVariables false

variable {pr : Prims} {H : List Blk} {e : Option Nat}

theorem e_l_eqStand {r1 r2 c1 c2 : AV} (h1 : ∀ G, call T pr f_l_eqLoadS [r1, r2] ⟨H ++ G, none⟩ = some (.bool true, ⟨H ++ G, none⟩)) (h2 : ∀ G, call T pr f_l_eqStageS [c1, c2] ⟨H ++ G, none⟩ = some (.bool true, ⟨H ++ G, none⟩)) (a b t k : Int) :
    call T pr f_l_eqStand [stV r1 a b c1 t k, stV r2 a b c2 t k] ⟨H, e⟩ = some (.bool true, ⟨H, e⟩) := by
  rw [call_eq t_l_eqStand]
  simp +contextual only [a_l_eqStand, c_l_eqStand, h1, h2, decide_true, go_sem, entry, joinEsc, if_pos, reduceIte, Nat.reduceAdd, Nat.reduceLeDiff, Nat.reduceLT, Nat.reduceEqDiff]

theorem e_l_markStand_none {p1 p2 : Option (Nat × Nat)} {s1 s2 : Nat} {c1 c2 : Option Nat} (a b t k x : Int) : call T pr f_l_markStand [stV (.slice p1 s1 0 c1) a b (.slice p2 s2 0 c2) t k, .int .i64 x] ⟨H, e⟩ = some (.int .i64 x, ⟨H, e⟩) := by
  rw [call_eq t_l_markStand]
  simp +contextual only [a_l_markStand, c_l_markStand, e_l_markLoadS_none, e_l_markStageS_none, go_sem, entry, joinEsc, if_pos, reduceIte, Nat.reduceAdd, Nat.reduceLeDiff, Nat.reduceLT, Nat.reduceEqDiff]

theorem e_l_heldStand_none {p1 p2 : Option (Nat × Nat)} {s1 s2 : Nat} {c1 c2 : Option Nat} (a b t k x : Int) (hx : 0 ≤ x) : call T pr f_l_heldStand [stV (.slice p1 s1 0 c1) a b (.slice p2 s2 0 c2) t k, .int .i64 x] ⟨H, e⟩ = some (.int .i64 x, ⟨H, e⟩) := by
  have h : ¬ (x < 0) := by omega
  rw [call_eq t_l_heldStand]
  simp +contextual only [a_l_heldStand, c_l_heldStand, e_l_heldLoadS_none, e_l_heldStageS_none, h, decide_false, go_sem, entry, joinEsc, if_pos, reduceIte, Nat.reduceAdd, Nat.reduceLeDiff, Nat.reduceLT, Nat.reduceEqDiff]

theorem append_nil0 {L : List Blk} {b : Nat} (sz bytes : Nat) (h : L[b]? = some (.cells [] true)) : appendV L e false sz bytes (.slice (some (b, 0)) sz 0 (some 0)) (.slice none 0 0 none) = some (.slice (some (L.length, 0)) sz 0 none, ⟨L.set b .dead ++ [.cells [] true], e⟩) := by
  unfold appendV
  simp [h, srcCells]

theorem e_s_l12Own_nil (a b t k : Int) : call T pr f_s_l12Own [stV (.slice none 0 0 none) a b (.slice none 0 0 none) t k] ⟨H, e⟩ =
    some (stV (slL H.length 0 none) a b (slS (H.length + 1) 0 none) t k, ⟨H ++ [.cells [] true, .cells [] true], e⟩) := by
  have hf : ∀ (B0 B1 B2 B3 B5 : Blk) (e0 e1 : Option Nat), clean H.length e1 = true → finish 2 H.length e0 (stV (slL (H.length + 4) 0 none) a b (slS (H.length + 6) 0 none) t k) ⟨H ++ [B0, B1, B2, B3, .cells [] true, B5, .cells [] true], e1⟩ = some (stV (slL H.length 0 none) a b (slS (H.length + 1) 0 none) t k, ⟨H ++ [.cells [] true, .cells [] true], e0⟩) :=
    fun B0 B1 B2 B3 B5 e0 e1 hc => finish_stand a b t k e0 e1 hc rfl rfl (by decide) rfl rfl
  rw [call_eq t_s_l12Own]
  simp +contextual only [a_s_l12Own, c_s_l12Own, fillParts, append_nil0, hf, under_slice, under_sliceN, Nat.add_assoc, Nat.add_lt_add_iff_left, Nat.lt_irrefl, decide_false, clean_minEsc, clean_none, Nat.le_add_right, Nat.le_refl, decide_true, go_sem, entry, joinEsc, if_pos, reduceIte, Nat.reduceAdd, Nat.reduceLeDiff, Nat.reduceLT, Nat.reduceEqDiff]

theorem e_s_NewStand_yes (a b : Int) (h : baseOk a b = true) : call T pr f_s_NewStand [.int .i64 a, .int .i64 b] ⟨H, e⟩ =
    some (.tup [stV (slL H.length 0 none) a b (slS (H.length + 1) 0 none) 0 0, .bool true], ⟨H ++ [.cells [] true, .cells [] true], e⟩) := by
  have hf : ∀ (B0 : Blk) (e0 e1 : Option Nat), clean H.length e1 = true → finish 2 H.length e0 (.tup [stV (slL (H.length + 1) 0 none) a b (slS (H.length + 2) 0 none) 0 0, .bool true]) ⟨H ++ [B0, .cells [] true, .cells [] true], e1⟩ = some (.tup [stV (slL H.length 0 none) a b (slS (H.length + 1) 0 none) 0 0, .bool true], ⟨H ++ [.cells [] true, .cells [] true], e0⟩) :=
    fun B0 e0 e1 hc => finish_standB a b 0 0 true e0 e1 hc rfl rfl (by decide) rfl rfl
  rw [call_eq t_s_NewStand]
  simp +contextual only [a_s_NewStand, c_s_NewStand, e_s_l2Base, h, fillParts, e_s_l12Own_nil, hf, under_slice, under_sliceN, Nat.add_assoc, Nat.add_lt_add_iff_left, Nat.lt_irrefl, decide_false, clean_minEsc, clean_none, Nat.le_add_right, Nat.le_refl, decide_true, go_sem, entry, joinEsc, if_pos, reduceIte, Nat.reduceAdd, Nat.reduceLeDiff, Nat.reduceLT, Nat.reduceEqDiff]

theorem e_s_NewStand_no (a b : Int) (h : baseOk a b = false) : call T pr f_s_NewStand [.int .i64 a, .int .i64 b] ⟨H, e⟩ =
    some (.tup [stV (.slice none 0 0 none) 0 0 (.slice none 0 0 none) 0 0, .bool false], ⟨H, e⟩) := by
  rw [call_eq t_s_NewStand]
  simp +contextual only [a_s_NewStand, c_s_NewStand, e_s_l2Base, h, fillParts, finish_standN, under_sliceN, clean_none, go_sem, entry, joinEsc, if_pos, reduceIte, Nat.reduceAdd, Nat.reduceLeDiff, Nat.reduceLT, Nat.reduceEqDiff]

theorem e_i_NewStand (a b : Int) : call T pr f_i_NewStand [.int .i64 a, .int .i64 b] ⟨H, e⟩ =
    some (if baseOk a b = true then .tup [stV (.slice none 0 0 none) a b (.slice none 0 0 none) 0 0, .bool true] else .tup [stV (.slice none 0 0 none) 0 0 (.slice none 0 0 none) 0 0, .bool false], ⟨H, e⟩) := by
  have hs := fun L => e_i_IsStand (pr := pr) (H := L) (e := none) (row := .slice none 0 0 none) (chain := .slice none 0 0 none) (x := true) (y := true) (fun G => e_i_IsRow_none) (fun G => e_i_isChain_none) a b 0 0
  have hro : restOk a b 0 0 = baseOk a b := by simp [restOk]
  simp only [Bool.true_and, hro] at hs
  rw [call_eq t_i_NewStand]
  cases h : baseOk a b with
  | false => simp +contextual only [a_i_NewStand, c_i_NewStand, hs, h, fillParts, setRange_0, setRange_k, setRange_nil, finish_standN, under_sliceN, clean_none, go_sem, entry, joinEsc, if_pos, reduceIte, Nat.reduceAdd, Nat.reduceLeDiff, Nat.reduceLT, Nat.reduceEqDiff]
  | true => simp +contextual only [a_i_NewStand, c_i_NewStand, hs, h, fillParts, setRange_0, setRange_k, setRange_nil, finish_standN, under_sliceN, clean_none, go_sem, entry, joinEsc, if_pos, reduceIte, Nat.reduceAdd, Nat.reduceLeDiff, Nat.reduceLT, Nat.reduceEqDiff]

theorem law_NewStand (a b : Int) : ∃ m', call T pr f_l_FnExactNewStand [.int .i64 a, .int .i64 b] ⟨H, none⟩ = some (.bool true, m') := by
  refine ⟨⟨H, none⟩, ?_⟩
  have h10 : ¬ ((1 : Int) < 0) := by omega
  have heq := fun L p1 p2 p3 p4 s1 s2 s3 s4 k1 k2 k3 k4 x y z w => e_l_eqStand (pr := pr) (H := L) (e := none) (r1 := .slice p1 s1 0 k1) (r2 := .slice p2 s2 0 k2) (c1 := .slice p3 s3 0 k3) (c2 := .slice p4 s4 0 k4) (fun G => e_l_eqLoadS_none) (fun G => e_l_eqStageS_none) x y z w
  have hheld := fun L p1 p2 s1 s2 c1 c2 x y z w => e_l_heldStand_none (pr := pr) (H := L) (e := none) (p1 := p1) (p2 := p2) (s1 := s1) (s2 := s2) (c1 := c1) (c2 := c2) x y z w 1 (by omega)
  rw [call_eq t_l_FnExactNewStand]
  cases h : baseOk a b with
  | false =>
    have hi := fun L => e_i_NewStand (pr := pr) (H := L) (e := none) a b
    simp only [h, Bool.false_eq_true, if_false] at hi
    simp +contextual only [a_l_FnExactNewStand, c_l_FnExactNewStand, e_s_NewStand_no a b h, hi, heq, hheld, e_l_markStand_none, h10, under_slice, under_sliceN, decide_true, decide_false, beq_self_eq_true, go_sem, entry, joinEsc, if_pos, reduceIte, Nat.reduceAdd, Nat.reduceLeDiff, Nat.reduceLT, Nat.reduceEqDiff]
  | true =>
    have hi := fun L => e_i_NewStand (pr := pr) (H := L) (e := none) a b
    simp only [h, if_true] at hi
    simp +contextual only [a_l_FnExactNewStand, c_l_FnExactNewStand, e_s_NewStand_yes a b h, hi, heq, hheld, e_l_markStand_none, h10, under_slice, under_sliceN, Nat.add_assoc, Nat.add_lt_add_iff_left, Nat.lt_add_right_iff_pos, decide_true, decide_false, beq_self_eq_true, go_sem, entry, joinEsc, if_pos, reduceIte, Nat.reduceAdd, Nat.reduceLeDiff, Nat.reduceLT, Nat.reduceEqDiff]

/-- a stand, as a law is handed it -/
theorem law_IsStand {row chain : AV} {ls : List Ld} {ss : List Sg} (ha : ArgL H row ls) (hs : ArgS H chain ss) (a b t k : Int) : ∃ m', call T pr f_l_FnExactIsStand [stV row a b chain t k] ⟨H, none⟩ = some (.bool true, m') := by
  refine ⟨⟨H, none⟩, ?_⟩
  have hsz : ∀ G e', call T pr f_l_szStand [stV row a b chain t k, .int .i64 1048576] ⟨G, e'⟩ = some (.int .i64 (if ls.length + ss.length ≤ 1048576 then 1048576 - ((ls.length + ss.length : Nat) : Int) else -1), ⟨G, e'⟩) := by
    obtain ⟨p, sz, c, rfl, h2, h3⟩ := ha
    obtain ⟨p', sz', c', rfl, h2', h3'⟩ := hs
    exact fun G e' => e_l_szStand h2 h2' a b t k
  rw [call_eq t_l_FnExactIsStand]
  by_cases hn : ls.length + ss.length ≤ 1048576
  · have hneg : ¬ (1048576 - ((ls.length + ss.length : Nat) : Int) < 0) := by omega
    have hto := fun G => e_l_toStand (pr := pr) (e := none) (ha.more G) (hs.more G) (by omega) (by omega) a b t k
    have hsi : ∀ L q q' c c', cellsAt L q = some (encL ls) → cellsAt L q' = some (encS ss) → call T pr f_s_IsStand [stV (slL q ls.length c) a b (slS q' ss.length c') t k] ⟨L, none⟩ = some (.bool (rowOk ls && (chainOk ss && restOk a b t k)), ⟨L, none⟩) :=
      fun L q q' c c' h1 h2 => e_s_IsStand (fun G => e_s_l2Row (cells_mono h1 G)) (fun G => e_s_l7Stages (cells_mono h2 G) (by omega)) a b t k
    have hii : ∀ L q q' c c', cellsAt L q = some (encL ls) → cellsAt L q' = some (encS ss) → call T pr f_i_IsStand [stV (slL q ls.length c) a b (slS q' ss.length c') t k] ⟨L, none⟩ = some (.bool (rowOk ls && (chainOk ss && restOk a b t k)), ⟨L, none⟩) :=
      fun L q q' c c' h1 h2 => e_i_IsStand (fun G => e_i_IsRow (cells_mono h1 G)) (fun G => e_i_isChain (cells_mono h2 G) (by omega)) a b t k
    have heq : ∀ L q1 q2 k1 k2 q3 q4 k3 k4, cellsAt L q1 = some (encL ls) → cellsAt L q2 = some (encL ls) → cellsAt L q3 = some (encS ss) → cellsAt L q4 = some (encS ss) → call T pr f_l_eqStand [stV (slL q1 ls.length k1) a b (slS q3 ss.length k3) t k, stV (slL q2 ls.length k2) a b (slS q4 ss.length k4) t k] ⟨L, none⟩ = some (.bool true, ⟨L, none⟩) :=
      fun L q1 q2 k1 k2 q3 q4 k3 k4 h1 h2 h3 h4 => e_l_eqStand (fun G => e_l_eqLoadS (cells_mono h1 G) (cells_mono h2 G) (by omega)) (fun G => e_l_eqStageS (cells_mono h3 G) (cells_mono h4 G) (by omega)) a b t k
    simp +contextual only [a_l_FnExactIsStand, c_l_FnExactIsStand, hsz, hn, hneg, hto, hsi, hii, heq, under_slice, under_sliceN, Nat.add_assoc, Nat.add_lt_add_iff_left, Nat.lt_add_right_iff_pos, decide_true, decide_false, beq_self_eq_true, go_sem, entry, joinEsc, if_pos, reduceIte, Nat.reduceAdd, Nat.reduceLeDiff, Nat.reduceLT, Nat.reduceEqDiff]
  · simp +contextual only [a_l_FnExactIsStand, c_l_FnExactIsStand, hsz, hn, decide_true, show ((-1 : Int) < 0) by omega, go_sem, entry, joinEsc, if_pos, reduceIte, Nat.reduceAdd, Nat.reduceLeDiff, Nat.reduceLT, Nat.reduceEqDiff]

end Go.Proofs.Ytlocjmbfcdfjfaa.Slim

/- Fractions, the gain of a chain, and the pull of a row; the law. -/
namespace Go.Proofs.Ytlocjmbfcdfjfaa.Slim

open Go

set_option linter.unusedSimpArgs false

set_option linter.unusedVariables false

variable {pr : Prims} {H : List Blk} {e : Option Nat}

theorem wrapN {x : Nat} (h : x ≤ 9223372036854775807) : IntKind.i64.wrap (x : Int) = (x : Int) := wrap64 (by omega) (by omega)

theorem loop_i_divisor {r : AV} : ∀ (k b a : Nat) (y : AV), b ≤ k → ∃ z, run T pr (.loop w_i_divisor_1) ⟨[.int .i64 a, .int .i64 b, r, y], ⟨H, e⟩⟩ = some (Ex.exit 0, ⟨[.int .i64 (Nat.gcd b a : Nat), .int .i64 0, r, z], ⟨H, e⟩⟩)
  | k, 0, a, y, hk => by
    refine ⟨.bool false, ?_⟩
    have h0 : ((0 : Nat) : Int) = 0 := rfl
    rw [run_loop, Nat.gcd_zero_left, h0]
    generalize run T pr (.loop w_i_divisor_1) = R
    simp +contextual only [w_i_divisor_1, Int.lt_irrefl, decide_false, go_sem, entry, joinEsc, if_pos, reduceIte, Nat.reduceAdd, Nat.reduceLeDiff, Nat.reduceLT, Nat.reduceEqDiff]
  | 0, b + 1, a, y, hk => by omega
  | k + 1, b + 1, a, y, hk => by
    have hm : a % (b + 1) < b + 1 := Nat.mod_lt _ (by omega)
    obtain ⟨z, ih⟩ := loop_i_divisor (r := r) k (a % (b + 1)) (b + 1) (.bool true) (by omega)
    refine ⟨z, ?_⟩
    have hg : Nat.gcd (b + 1) a = Nat.gcd (a % (b + 1)) (b + 1) := Nat.gcd_rec _ _
    have ht : Int.tmod (a : Int) ((b + 1 : Nat) : Int) = ((a % (b + 1) : Nat) : Int) := rfl
    have hp : (0 : Int) < ((b + 1 : Nat) : Int) := by omega
    have hne : ¬ ((b + 1 : Nat) : Int) = 0 := by omega
    rw [run_loop, hg]
    generalize run T pr (.loop w_i_divisor_1) = R at ih ⊢
    simp +contextual only [w_i_divisor_1, hp, hne, ht, decide_true, go_sem, entry, joinEsc, if_pos, reduceIte, Nat.reduceAdd, Nat.reduceLeDiff, Nat.reduceLT, Nat.reduceEqDiff]
    exact ih

theorem e_i_divisor (a b : Nat) : call T pr f_i_divisor [.int .i64 a, .int .i64 b] ⟨H, e⟩ = some (.int .i64 (Nat.gcd b a : Nat), ⟨H, e⟩) := by
  obtain ⟨z, hl⟩ := loop_i_divisor (pr := pr) (H := H) (e := none) (r := .int .i64 0) b b a .undef (Nat.le_refl _)
  rw [call_eq t_i_divisor]
  simp +contextual only [a_i_divisor, c_i_divisor, hl, go_sem, entry, joinEsc, if_pos, reduceIte, Nat.reduceAdd, Nat.reduceLeDiff, Nat.reduceLT, Nat.reduceEqDiff]

theorem loop_s_l2Gcd {r : AV} : ∀ (k b a : Nat) (y : AV), b ≤ k → ∃ z, run T pr (.loop w_s_l2Gcd_1) ⟨[.int .i64 a, .int .i64 b, r, y], ⟨H, e⟩⟩ = some (Ex.exit 0, ⟨[.int .i64 (Nat.gcd b a : Nat), .int .i64 0, r, z], ⟨H, e⟩⟩)
  | k, 0, a, y, hk => by
    refine ⟨.bool false, ?_⟩
    have h0 : ((0 : Nat) : Int) = 0 := rfl
    rw [run_loop, Nat.gcd_zero_left, h0]
    generalize run T pr (.loop w_s_l2Gcd_1) = R
    simp +contextual only [w_s_l2Gcd_1, Int.lt_irrefl, decide_false, go_sem, entry, joinEsc, if_pos, reduceIte, Nat.reduceAdd, Nat.reduceLeDiff, Nat.reduceLT, Nat.reduceEqDiff]
  | 0, b + 1, a, y, hk => by omega
  | k + 1, b + 1, a, y, hk => by
    have hm : a % (b + 1) < b + 1 := Nat.mod_lt _ (by omega)
    obtain ⟨z, ih⟩ := loop_s_l2Gcd (r := r) k (a % (b + 1)) (b + 1) (.bool true) (by omega)
    refine ⟨z, ?_⟩
    have hg : Nat.gcd (b + 1) a = Nat.gcd (a % (b + 1)) (b + 1) := Nat.gcd_rec _ _
    have ht : Int.tmod (a : Int) ((b + 1 : Nat) : Int) = ((a % (b + 1) : Nat) : Int) := rfl
    have hp : (0 : Int) < ((b + 1 : Nat) : Int) := by omega
    have hne : ¬ ((b + 1 : Nat) : Int) = 0 := by omega
    rw [run_loop, hg]
    generalize run T pr (.loop w_s_l2Gcd_1) = R at ih ⊢
    simp +contextual only [w_s_l2Gcd_1, hp, hne, ht, decide_true, go_sem, entry, joinEsc, if_pos, reduceIte, Nat.reduceAdd, Nat.reduceLeDiff, Nat.reduceLT, Nat.reduceEqDiff]
    exact ih

theorem e_s_l2Gcd (a b : Nat) : call T pr f_s_l2Gcd [.int .i64 a, .int .i64 b] ⟨H, e⟩ = some (.int .i64 (Nat.gcd b a : Nat), ⟨H, e⟩) := by
  obtain ⟨z, hl⟩ := loop_s_l2Gcd (pr := pr) (H := H) (e := none) (r := .int .i64 0) b b a .undef (Nat.le_refl _)
  rw [call_eq t_s_l2Gcd]
  simp +contextual only [a_s_l2Gcd, c_s_l2Gcd, hl, go_sem, entry, joinEsc, if_pos, reduceIte, Nat.reduceAdd, Nat.reduceLeDiff, Nat.reduceLT, Nat.reduceEqDiff]

theorem e_s_l1Most (a b : Int) : call T pr f_s_l1Most [.int .i64 a, .int .i64 b] ⟨H, e⟩ = some (.int .i64 (if b < a then a else b), ⟨H, e⟩) := by
  rw [call_eq t_s_l1Most]
  by_cases h : b < a <;> simp +contextual only [a_s_l1Most, c_s_l1Most, h, decide_true, decide_false, go_sem, entry, joinEsc, if_pos, reduceIte, Nat.reduceAdd, Nat.reduceLeDiff, Nat.reduceLT, Nat.reduceEqDiff]

/-- a fraction in lowest terms -/
def fracA (x y : Nat) : Nat := x / Nat.gcd y x
def fracB (x y : Nat) : Nat := y / Nat.gcd y x

abbrev fvV (x y : Nat) : AV := .agg [.int .i64 x, .int .i64 y]

theorem frac_facts {x y : Nat} (hy : 0 < y) (hx1 : x ≤ 4611686018427387904) (hy1 : y ≤ 4611686018427387904) :
    ¬ ((Nat.gcd y x : Nat) : Int) = 0 ∧ IntKind.i64.wrap (Int.tdiv (x : Int) (Nat.gcd y x : Nat)) = (fracA x y : Int) ∧ IntKind.i64.wrap (Int.tdiv (y : Int) (Nat.gcd y x : Nat)) = (fracB x y : Int) := by
  have hg : 0 < Nat.gcd y x := Nat.gcd_pos_of_pos_left _ hy
  have h1 : fracA x y ≤ x := Nat.div_le_self _ _
  have h2 : fracB x y ≤ y := Nat.div_le_self _ _
  refine ⟨by omega, ?_, ?_⟩
  · have : Int.tdiv (x : Int) (Nat.gcd y x : Nat) = (fracA x y : Int) := rfl
    rw [this]; exact wrapN (by omega)
  · have : Int.tdiv (y : Int) (Nat.gcd y x : Nat) = (fracB x y : Int) := rfl
    rw [this]; exact wrapN (by omega)

theorem e_i_fraction {x y : Nat} (hy : 0 < y) (hx1 : x ≤ 4611686018427387904) (hy1 : y ≤ 4611686018427387904) : call T pr f_i_fraction [.int .i64 x, .int .i64 y] ⟨H, e⟩ = some (fvV (fracA x y) (fracB x y), ⟨H, e⟩) := by
  obtain ⟨h1, h2, h3⟩ := frac_facts hy hx1 hy1
  have hw : IntKind.i64.wrap (0 - (x : Int)) = 0 - (x : Int) := wrap64 (by omega) (by omega)
  have hm : ¬ (0 - (x : Int) > (x : Int)) := by omega
  have hm' : ¬ ((x : Int) < 0 - (x : Int)) := by omega
  rw [call_eq t_i_fraction]
  simp +contextual only [a_i_fraction, c_i_fraction, hw, hm, hm', e_i_divisor, fillParts, h1, h2, h3, go_sem, entry, joinEsc, if_pos, reduceIte, Nat.reduceAdd, Nat.reduceLeDiff, Nat.reduceLT, Nat.reduceEqDiff]

theorem e_s_l2Cut {x y : Nat} (hy : 0 < y) (hx1 : x ≤ 4611686018427387904) (hy1 : y ≤ 4611686018427387904) : call T pr f_s_l2Cut [.int .i64 x, .int .i64 y] ⟨H, e⟩ = some (fvV (fracA x y) (fracB x y), ⟨H, e⟩) := by
  obtain ⟨h1, h2, h3⟩ := frac_facts hy hx1 hy1
  have hw : IntKind.i64.wrap (0 - (x : Int)) = 0 - (x : Int) := wrap64 (by omega) (by omega)
  have hm : (if 0 - (x : Int) < (x : Int) then (x : Int) else 0 - (x : Int)) = (x : Int) := by
    split
    · rfl
    · omega
  rw [call_eq t_s_l2Cut]
  simp +contextual only [a_s_l2Cut, c_s_l2Cut, hw, e_s_l1Most, hm, e_s_l2Gcd, fillParts, h1, h2, h3, go_sem, entry, joinEsc, if_pos, reduceIte, Nat.reduceAdd, Nat.reduceLeDiff, Nat.reduceLT, Nat.reduceEqDiff]

theorem frac_pos {x y : Nat} (hx : 0 < x) (hy : 0 < y) : 0 < fracA x y ∧ 0 < fracB x y ∧ fracA x y ≤ x ∧ fracB x y ≤ y := by
  have hg : 0 < Nat.gcd y x := Nat.gcd_pos_of_pos_left _ hy
  refine ⟨Nat.div_pos (Nat.le_of_dvd hx (Nat.gcd_dvd_right _ _)) hg, Nat.div_pos (Nat.le_of_dvd hy (Nat.gcd_dvd_left _ _)) hg, Nat.div_le_self _ _, Nat.div_le_self _ _⟩

/-- the gain of a valid stage -/
def gainA (s : Sg) : Nat := if s.1 = 2 then s.2.1.toNat else if s.1 = 5 then fracA (2 * s.2.1.toNat) (s.2.1.toNat - s.2.2.toNat) else fracA s.2.1.toNat s.2.2.toNat
def gainB (s : Sg) : Nat := if s.1 = 2 then 1 else if s.1 = 5 then fracB (2 * s.2.1.toNat) (s.2.1.toNat - s.2.2.toNat) else fracB s.2.1.toNat s.2.2.toNat

theorem stage_cases {s : Sg} (h : stageOk s = true) : (1 ≤ s.2.1 ∧ s.2.1 ≤ 24) ∧ (s.1 ≠ 2 → 1 ≤ s.2.2 ∧ s.2.2 ≤ 24) ∧ (s.1 = 5 → s.2.2 < s.2.1) := by
  unfold stageOk ratioOk at h
  by_cases h1 : s.1 = 1
  · rw [if_pos h1] at h
    simp at h
    exact ⟨h.1, fun _ => h.2, fun h5 => by omega⟩
  rw [if_neg h1] at h
  by_cases h3 : s.1 = 3
  · rw [if_pos h3] at h
    simp at h
    exact ⟨h.1, fun _ => h.2, fun h5 => by omega⟩
  rw [if_neg h3] at h
  by_cases h2 : s.1 = 2
  · rw [if_pos h2] at h
    simp at h
    exact ⟨h.1, fun hn => absurd h2 hn, fun h5 => by omega⟩
  rw [if_neg h2] at h
  by_cases h4 : s.1 = 4
  · rw [if_pos h4] at h
    simp at h
    exact ⟨h.1.1, fun _ => h.1.2, fun h5 => by omega⟩
  rw [if_neg h4] at h
  by_cases h5 : s.1 = 5
  · rw [if_pos h5] at h
    simp at h
    exact ⟨h.1.1, fun _ => h.1.2, fun _ => h.2⟩
  rw [if_neg h5] at h
  cases h

theorem gain_bounds {s : Sg} (h : stageOk s = true) : 0 < gainA s ∧ gainA s ≤ 48 ∧ 0 < gainB s ∧ gainB s ≤ 24 := by
  obtain ⟨h1, h2, h3⟩ := stage_cases h
  unfold gainA gainB
  by_cases k2 : s.1 = 2
  · simp only [if_pos k2]; omega
  · simp only [if_neg k2]
    have := h2 k2
    by_cases k5 : s.1 = 5
    · simp only [if_pos k5]
      have := h3 k5
      obtain ⟨f1, f2, f3, f4⟩ := frac_pos (x := 2 * s.2.1.toNat) (y := s.2.1.toNat - s.2.2.toNat) (by omega) (by omega)
      omega
    · simp only [if_neg k5]
      obtain ⟨f1, f2, f3, f4⟩ := frac_pos (x := s.2.1.toNat) (y := s.2.2.toNat) (by omega) (by omega)
      omega

theorem e_i_stageGain (s : Sg) (h : stageOk s = true) : call T pr f_i_stageGain [.agg [.int .i64 s.1, .int .i64 s.2.1, .int .i64 s.2.2]] ⟨H, e⟩ = some (fvV (gainA s) (gainB s), ⟨H, e⟩) := by
  obtain ⟨h1, h2, h3⟩ := stage_cases h
  obtain ⟨k, a, b⟩ := s
  simp only at h1 h2 h3 ⊢
  obtain ⟨a, rfl⟩ : ∃ n : Nat, a = n := ⟨a.toNat, by omega⟩
  rw [call_eq t_i_stageGain]
  unfold gainA gainB
  simp only [Int.toNat_natCast]
  by_cases k2 : k = 2
  · subst k2
    simp +contextual only [a_i_stageGain, c_i_stageGain, fillParts, decide_true, go_sem, entry, joinEsc, if_pos, reduceIte, Nat.reduceAdd, Nat.reduceLeDiff, Nat.reduceLT, Nat.reduceEqDiff]
    rfl
  · have hb := h2 k2
    obtain ⟨b, rfl⟩ : ∃ n : Nat, b = n := ⟨b.toNat, by omega⟩
    simp only [Int.toNat_natCast]
    by_cases k5 : k = 5
    · subst k5
      have hlt := h3 rfl
      have hw1 : IntKind.i64.wrap (2 * (a : Int)) = ((2 * a : Nat) : Int) := by rw [show (2 * (a : Int)) = ((2 * a : Nat) : Int) by omega]; exact wrapN (by omega)
      have hw2 : IntKind.i64.wrap ((a : Int) - (b : Int)) = ((a - b : Nat) : Int) := by rw [show ((a : Int) - (b : Int)) = ((a - b : Nat) : Int) by omega]; exact wrapN (by omega)
      have hf := fun L e' => e_i_fraction (pr := pr) (H := L) (e := e') (x := 2 * a) (y := a - b) (by omega) (by omega) (by omega)
      simp +contextual only [a_i_stageGain, c_i_stageGain, fillParts, show ¬ ((5 : Int) = 2) by omega, hw1, hw2, hf, decide_true, decide_false, go_sem, entry, joinEsc, if_pos, reduceIte, Nat.reduceAdd, Nat.reduceLeDiff, Nat.reduceLT, Nat.reduceEqDiff]
    · have hf := fun L e' => e_i_fraction (pr := pr) (H := L) (e := e') (x := a) (y := b) (by omega) (by omega) (by omega)
      simp +contextual only [a_i_stageGain, c_i_stageGain, fillParts, k2, k5, hf, decide_true, decide_false, go_sem, entry, joinEsc, if_pos, reduceIte, Nat.reduceAdd, Nat.reduceLeDiff, Nat.reduceLT, Nat.reduceEqDiff]

theorem e_s_l7Gain (s : Sg) (h : stageOk s = true) : call T pr f_s_l7Gain [.agg [.int .i64 s.1, .int .i64 s.2.1, .int .i64 s.2.2]] ⟨H, e⟩ = some (fvV (gainA s) (gainB s), ⟨H, e⟩) := by
  obtain ⟨h1, h2, h3⟩ := stage_cases h
  obtain ⟨k, a, b⟩ := s
  simp only at h1 h2 h3 ⊢
  obtain ⟨a, rfl⟩ : ∃ n : Nat, a = n := ⟨a.toNat, by omega⟩
  rw [call_eq t_s_l7Gain]
  unfold gainA gainB
  simp only [Int.toNat_natCast]
  by_cases k2 : k = 2
  · subst k2
    simp +contextual only [a_s_l7Gain, c_s_l7Gain, fillParts, decide_true, go_sem, entry, joinEsc, if_pos, reduceIte, Nat.reduceAdd, Nat.reduceLeDiff, Nat.reduceLT, Nat.reduceEqDiff]
    rfl
  · have hb := h2 k2
    obtain ⟨b, rfl⟩ : ∃ n : Nat, b = n := ⟨b.toNat, by omega⟩
    simp only [Int.toNat_natCast]
    by_cases k5 : k = 5
    · subst k5
      have hlt := h3 rfl
      have hw1 : IntKind.i64.wrap (2 * (a : Int)) = ((2 * a : Nat) : Int) := by rw [show (2 * (a : Int)) = ((2 * a : Nat) : Int) by omega]; exact wrapN (by omega)
      have hw2 : IntKind.i64.wrap ((a : Int) - (b : Int)) = ((a - b : Nat) : Int) := by rw [show ((a : Int) - (b : Int)) = ((a - b : Nat) : Int) by omega]; exact wrapN (by omega)
      have hf := fun L e' => e_s_l2Cut (pr := pr) (H := L) (e := e') (x := 2 * a) (y := a - b) (by omega) (by omega) (by omega)
      simp +contextual only [a_s_l7Gain, c_s_l7Gain, fillParts, show ¬ ((5 : Int) = 2) by omega, hw1, hw2, hf, decide_true, decide_false, go_sem, entry, joinEsc, if_pos, reduceIte, Nat.reduceAdd, Nat.reduceLeDiff, Nat.reduceLT, Nat.reduceEqDiff]
    · have hf := fun L e' => e_s_l2Cut (pr := pr) (H := L) (e := e') (x := a) (y := b) (by omega) (by omega) (by omega)
      simp +contextual only [a_s_l7Gain, c_s_l7Gain, fillParts, k2, k5, hf, decide_true, decide_false, go_sem, entry, joinEsc, if_pos, reduceIte, Nat.reduceAdd, Nat.reduceLeDiff, Nat.reduceLT, Nat.reduceEqDiff]

/-- the gain of stages, from some gain on -/
def chainA : Nat → Nat → List Sg → Nat
  | P, _, [] => P
  | P, Q, s :: ss => chainA (fracA (P * gainA s) (Q * gainB s)) (fracB (P * gainA s) (Q * gainB s)) ss
def chainB : Nat → Nat → List Sg → Nat
  | _, Q, [] => Q
  | P, Q, s :: ss => chainB (fracA (P * gainA s) (Q * gainB s)) (fracB (P * gainA s) (Q * gainB s)) ss

theorem gain_step {s : Sg} {P Q i : Nat} (h : stageOk s = true) (hP : 0 < P ∧ P ≤ 48 ^ i) (hQ : 0 < Q ∧ Q ≤ 24 ^ i) (hi : i < 5) :
    (0 < P * gainA s ∧ P * gainA s ≤ 48 ^ (i + 1)) ∧ (0 < Q * gainB s ∧ Q * gainB s ≤ 24 ^ (i + 1)) ∧ 48 ^ (i + 1) ≤ 254803968 ∧ 24 ^ (i + 1) ≤ 254803968 := by
  obtain ⟨g1, g2, g3, g4⟩ := gain_bounds h
  refine ⟨⟨Nat.mul_pos hP.1 g1, ?_⟩, ⟨Nat.mul_pos hQ.1 g3, ?_⟩, ?_, ?_⟩
  · rw [Nat.pow_succ]; exact Nat.mul_le_mul hP.2 g2
  · rw [Nat.pow_succ]; exact Nat.mul_le_mul hQ.2 g4
  · have : 48 ^ (i + 1) ≤ 48 ^ 5 := Nat.pow_le_pow_right (by omega) (by omega)
    have h2 : (48 : Nat) ^ 5 = 254803968 := by decide
    omega
  · have : 24 ^ (i + 1) ≤ 24 ^ 5 := Nat.pow_le_pow_right (by omega) (by omega)
    have h2 : (24 : Nat) ^ 5 = 7962624 := by decide
    omega

theorem chain_bounds : ∀ (ss : List Sg) (i P Q : Nat), ss.all stageOk = true → ss.length + i ≤ 5 → (0 < P ∧ P ≤ 48 ^ i) → (0 < Q ∧ Q ≤ 24 ^ i) → 0 < chainA P Q ss ∧ chainA P Q ss ≤ 254803968 ∧ 0 < chainB P Q ss ∧ chainB P Q ss ≤ 254803968
  | [], i, P, Q, _, hi, hP, hQ => by
    have h1 : 48 ^ i ≤ 48 ^ 5 := Nat.pow_le_pow_right (by omega) (by simpa using hi)
    have h2 : (48 : Nat) ^ 5 = 254803968 := by decide
    have h3 : 24 ^ i ≤ 24 ^ 5 := Nat.pow_le_pow_right (by omega) (by simpa using hi)
    have h4 : (24 : Nat) ^ 5 = 7962624 := by decide
    rw [chainA, chainB]
    omega
  | s :: ss, i, P, Q, ha, hi, hP, hQ => by
    rw [List.all_cons, Bool.and_eq_true] at ha
    rw [List.length_cons] at hi
    obtain ⟨⟨g1, g2⟩, ⟨g3, g4⟩, _, _⟩ := gain_step ha.1 hP hQ (by omega)
    obtain ⟨f1, f2, f3, f4⟩ := frac_pos g1 g3
    rw [chainA, chainB]
    exact chain_bounds ss (i + 1) _ _ ha.2 (by omega) ⟨f1, by omega⟩ ⟨f2, by omega⟩

theorem ix02 : (0 : Int) < ((2 : Nat) : Int) := by omega
theorem ix12 : (1 : Int) < ((2 : Nat) : Int) := by omega
theorem ix01 : (0 : Int) ≤ 1 := by omega

theorem loop_i_chainGain {q : Nat} {c : Option Nat} {ls : List Sg} {R0 : Blk} {y1 : AV} (h : cellsAt H q = some (encS ls)) (hall : ls.all stageOk = true) (hn : ls.length ≤ 5) :
    ∀ (k i P Q : Nat) (G : List Blk) (y3 y4 y8 : AV), k + i = ls.length → (0 < P ∧ P ≤ 48 ^ i) → (0 < Q ∧ Q ≤ 24 ^ i) → ∃ (G' : List Blk) (z3 z4 z8 : AV), run T pr (.loop w_i_chainGain_1) ⟨[slS q ls.length c, y1, .ptr (some (H.length + 1, 0)), y3, y4, slS q ls.length c, .int .i64 ls.length, .int .i64 i, y8], ⟨H ++ (R0 :: .cells [.int .i64 P, .int .i64 Q] true :: G), none⟩⟩ =
      some (Ex.exit 0, ⟨[slS q ls.length c, y1, .ptr (some (H.length + 1, 0)), z3, z4, slS q ls.length c, .int .i64 ls.length, .int .i64 ls.length, z8], ⟨H ++ (R0 :: .cells [.int .i64 (chainA P Q (ls.drop i)), .int .i64 (chainB P Q (ls.drop i))] true :: G'), none⟩⟩)
  | 0, i, P, Q, G, y3, y4, y8, hk, hP, hQ => by
    have hi : i = ls.length := by omega
    subst hi
    refine ⟨G, y3, y4, .bool false, ?_⟩
    rw [run_loop]
    generalize run T pr (.loop w_i_chainGain_1) = R
    simp +contextual only [w_i_chainGain_1, Nat.lt_irrefl, decide_false, List.drop_length, chainA, chainB, go_sem, entry, joinEsc, if_pos, reduceIte, Nat.reduceAdd, Nat.reduceLeDiff, Nat.reduceLT, Nat.reduceEqDiff]
  | k + 1, i, P, Q, G, y3, y4, y8, hk, hP, hQ => by
    have hi : i < ls.length := by omega
    have hl : ls[i]? = some ls[i] := List.getElem?_eq_getElem hi
    have hs : stageOk ls[i] = true := (List.all_eq_true.mp hall) _ (List.getElem_mem hi)
    rw [run_loop, List.drop_eq_getElem_cons hi, chainA, chainB]
    generalize hx : ls[i] = s at hl hs ⊢
    obtain ⟨⟨g1, g2⟩, ⟨g3, g4⟩, g5, g6⟩ := gain_step hs hP hQ (by omega)
    obtain ⟨f1, f2, f3, f4⟩ := frac_pos g1 g3
    have w1 : IntKind.i64.wrap ((P : Int) * (gainA s : Int)) = ((P * gainA s : Nat) : Int) := by rw [← Int.natCast_mul]; exact wrapN (by omega)
    have w2 : IntKind.i64.wrap ((Q : Int) * (gainB s : Int)) = ((Q * gainB s : Nat) : Int) := by rw [← Int.natCast_mul]; exact wrapN (by omega)
    have hf := fun L => e_i_fraction (pr := pr) (H := L) (e := none) (x := P * gainA s) (y := Q * gainB s) g3 (by omega) (by omega)
    obtain ⟨G', z3, z4, z8, ih⟩ := loop_i_chainGain (c := c) (R0 := R0) (y1 := y1) h hall hn k (i + 1) (fracA (P * gainA s) (Q * gainB s)) (fracB (P * gainA s) (Q * gainB s)) (G ++ [.cells [.int .i64 s.1, .int .i64 s.2.1, .int .i64 s.2.2] true, .cells [.int .i64 (gainA s : Nat), .int .i64 (gainB s : Nat)] true]) (.ptr (some (H.length + (G.length + 1 + 1), 0))) (.ptr (some (H.length + (G.length + 1 + 1 + 1), 0))) (.bool true) (by omega) ⟨f1, by omega⟩ ⟨f2, by omega⟩
    refine ⟨G', z3, z4, z8, ?_⟩
    generalize run T pr (.loop w_i_chainGain_1) = R at ih ⊢
    simp +contextual only [w_i_chainGain_1, cells_mono h, hi, hl, part_encS hl, e_i_stageGain s hs, ix02, ix12, ix01, Int.le_refl, Int.toNat_zero, Int.toNat_one, Nat.zero_mul, Nat.one_mul, w1, w2, hf, wrap_succ (show i < 9223372036854775807 by omega), decide_true, go_sem, entry, joinEsc, if_pos, reduceIte, Nat.reduceAdd, Nat.reduceLeDiff, Nat.reduceLT, Nat.reduceEqDiff]
    exact ih

theorem e_i_chainGain {q : Nat} {c : Option Nat} {ls : List Sg} (h : cellsAt H q = some (encS ls)) (hc : chainOk ls = true) : call T pr f_i_chainGain [slS q ls.length c] ⟨H, e⟩ = some (fvV (chainA 1 1 ls) (chainB 1 1 ls), ⟨H, e⟩) := by
  unfold chainOk at hc
  rw [Bool.and_eq_true, decide_eq_true_eq] at hc
  obtain ⟨G', z3, z4, z8, hl⟩ := loop_i_chainGain (pr := pr) (c := c) (R0 := .cells [.int .i64 0, .int .i64 0] true) (y1 := .ptr (some (H.length, 0))) h hc.1 hc.2 ls.length 0 1 1 [] .undef .undef .undef rfl (by decide) (by decide)
  have h0 : ((0 : Nat) : Int) = 0 := rfl
  have h1 : ((1 : Nat) : Int) = 1 := rfl
  rw [h0, h1, List.drop_zero] at hl
  rw [call_eq t_i_chainGain]
  simp +contextual only [a_i_chainGain, c_i_chainGain, fillParts, hl, go_sem, entry, joinEsc, if_pos, reduceIte, Nat.reduceAdd, Nat.reduceLeDiff, Nat.reduceLT, Nat.reduceEqDiff]

theorem loop_s_l7Chain {q : Nat} {c : Option Nat} {ls : List Sg} {R0 : Blk} {y1 : AV} (h : cellsAt H q = some (encS ls)) (hall : ls.all stageOk = true) (hn : ls.length ≤ 5) :
    ∀ (k i P Q : Nat) (G : List Blk) (y4 y5 : AV), k + i = ls.length → (0 < P ∧ P ≤ 48 ^ i) → (0 < Q ∧ Q ≤ 24 ^ i) → ∃ (G' : List Blk) (z4 z5 : AV), run T pr (.loop w_s_l7Chain_1) ⟨[slS q ls.length c, y1, .ptr (some (H.length + 1, 0)), .int .i64 i, y4, y5], ⟨H ++ (R0 :: .cells [.int .i64 P, .int .i64 Q] true :: G), none⟩⟩ =
      some (Ex.exit 0, ⟨[slS q ls.length c, y1, .ptr (some (H.length + 1, 0)), .int .i64 ls.length, z4, z5], ⟨H ++ (R0 :: .cells [.int .i64 (chainA P Q (ls.drop i)), .int .i64 (chainB P Q (ls.drop i))] true :: G'), none⟩⟩)
  | 0, i, P, Q, G, y4, y5, hk, hP, hQ => by
    have hi : i = ls.length := by omega
    subst hi
    refine ⟨G, y4, .bool false, ?_⟩
    rw [run_loop]
    generalize run T pr (.loop w_s_l7Chain_1) = R
    simp +contextual only [w_s_l7Chain_1, Nat.lt_irrefl, decide_false, List.drop_length, chainA, chainB, go_sem, entry, joinEsc, if_pos, reduceIte, Nat.reduceAdd, Nat.reduceLeDiff, Nat.reduceLT, Nat.reduceEqDiff]
  | k + 1, i, P, Q, G, y4, y5, hk, hP, hQ => by
    have hi : i < ls.length := by omega
    have hl : ls[i]? = some ls[i] := List.getElem?_eq_getElem hi
    have hs : stageOk ls[i] = true := (List.all_eq_true.mp hall) _ (List.getElem_mem hi)
    rw [run_loop, List.drop_eq_getElem_cons hi, chainA, chainB]
    generalize hx : ls[i] = s at hl hs ⊢
    obtain ⟨⟨g1, g2⟩, ⟨g3, g4⟩, g5, g6⟩ := gain_step hs hP hQ (by omega)
    obtain ⟨f1, f2, f3, f4⟩ := frac_pos g1 g3
    have w1 : IntKind.i64.wrap ((P : Int) * (gainA s : Int)) = ((P * gainA s : Nat) : Int) := by rw [← Int.natCast_mul]; exact wrapN (by omega)
    have w2 : IntKind.i64.wrap ((Q : Int) * (gainB s : Int)) = ((Q * gainB s : Nat) : Int) := by rw [← Int.natCast_mul]; exact wrapN (by omega)
    have hf := fun L => e_s_l2Cut (pr := pr) (H := L) (e := none) (x := P * gainA s) (y := Q * gainB s) g3 (by omega) (by omega)
    obtain ⟨G', z4, z5, ih⟩ := loop_s_l7Chain (c := c) (R0 := R0) (y1 := y1) h hall hn k (i + 1) (fracA (P * gainA s) (Q * gainB s)) (fracB (P * gainA s) (Q * gainB s)) (G ++ [.cells [.int .i64 (gainA s : Nat), .int .i64 (gainB s : Nat)] true]) (.ptr (some (H.length + (G.length + 1 + 1), 0))) (.bool true) (by omega) ⟨f1, by omega⟩ ⟨f2, by omega⟩
    refine ⟨G', z4, z5, ?_⟩
    generalize run T pr (.loop w_s_l7Chain_1) = R at ih ⊢
    simp +contextual only [w_s_l7Chain_1, cells_mono h, hi, hl, part_encS hl, e_s_l7Gain s hs, ix02, ix12, ix01, Int.le_refl, Int.toNat_zero, Int.toNat_one, Nat.zero_mul, Nat.one_mul, w1, w2, hf, wrap_succ (show i < 9223372036854775807 by omega), decide_true, go_sem, entry, joinEsc, if_pos, reduceIte, Nat.reduceAdd, Nat.reduceLeDiff, Nat.reduceLT, Nat.reduceEqDiff]
    exact ih

theorem e_s_l7Chain {q : Nat} {c : Option Nat} {ls : List Sg} (h : cellsAt H q = some (encS ls)) (hc : chainOk ls = true) : call T pr f_s_l7Chain [slS q ls.length c] ⟨H, e⟩ = some (fvV (chainA 1 1 ls) (chainB 1 1 ls), ⟨H, e⟩) := by
  unfold chainOk at hc
  rw [Bool.and_eq_true, decide_eq_true_eq] at hc
  obtain ⟨G', z4, z5, hl⟩ := loop_s_l7Chain (pr := pr) (c := c) (R0 := .cells [.int .i64 0, .int .i64 0] true) (y1 := .ptr (some (H.length, 0))) h hc.1 hc.2 ls.length 0 1 1 [] .undef .undef rfl (by decide) (by decide)
  have h0 : ((0 : Nat) : Int) = 0 := rfl
  have h1 : ((1 : Nat) : Int) = 1 := rfl
  rw [h0, h1, List.drop_zero] at hl
  rw [call_eq t_s_l7Chain]
  simp +contextual only [a_s_l7Chain, c_s_l7Chain, fillParts, hl, go_sem, entry, joinEsc, if_pos, reduceIte, Nat.reduceAdd, Nat.reduceLeDiff, Nat.reduceLT, Nat.reduceEqDiff]

end Go.Proofs.Ytlocjmbfcdfjfaa.Slim

/- The pull that holds a row; the law. -/
namespace Go.Proofs.Ytlocjmbfcdfjfaa.Slim

open Go

set_option linter.unusedSimpArgs false

set_option linter.unusedVariables false

variable {pr : Prims} {H : List Blk} {e : Option Nat}

def weightW (ls : List Ld) : Int := ls.foldl (fun a l => IntKind.i64.wrap (a + l.2)) 0

theorem loop_i_weightOf {q : Nat} {c : Option Nat} {ls : List Ld} {r : AV} (h : cellsAt H q = some (encL ls)) (hn : ls.length ≤ 9223372036854775806) :
    ∀ (k i : Nat) (a : Int) (G : List Blk) (y3 y7 : AV), k + i = ls.length → ∃ (G' : List Blk) (z3 z7 : AV), run T pr (.loop w_i_weightOf_1) ⟨[slL q ls.length c, r, .int .i64 a, y3, slL q ls.length c, .int .i64 ls.length, .int .i64 i, y7], ⟨H ++ G, e⟩⟩ =
      some (Ex.exit 0, ⟨[slL q ls.length c, r, .int .i64 ((ls.drop i).foldl (fun a l => IntKind.i64.wrap (a + l.2)) a), z3, slL q ls.length c, .int .i64 ls.length, .int .i64 ls.length, z7], ⟨H ++ G', e⟩⟩)
  | 0, i, a, G, y3, y7, hk => by
    have hi : i = ls.length := by omega
    subst hi
    refine ⟨G, y3, .bool false, ?_⟩
    rw [run_loop]
    generalize run T pr (.loop w_i_weightOf_1) = R
    simp +contextual only [w_i_weightOf_1, Nat.lt_irrefl, decide_false, List.drop_length, List.foldl_nil, go_sem, entry, joinEsc, if_pos, reduceIte, Nat.reduceAdd, Nat.reduceLeDiff, Nat.reduceLT, Nat.reduceEqDiff]
  | k + 1, i, a, G, y3, y7, hk => by
    have hi : i < ls.length := by omega
    have hl : ls[i]? = some ls[i] := List.getElem?_eq_getElem hi
    rw [run_loop, List.drop_eq_getElem_cons hi, List.foldl_cons]
    obtain ⟨G', z3, z7, ih⟩ := loop_i_weightOf (c := c) (r := r) h hn k (i + 1) (IntKind.i64.wrap (a + ls[i].2)) (G ++ [.cells [.int .i64 ls[i].1, .int .i64 ls[i].2] true]) (.ptr (some (H.length + G.length, 0))) (.bool true) (by omega)
    refine ⟨G', z3, z7, ?_⟩
    generalize run T pr (.loop w_i_weightOf_1) = R at ih ⊢
    simp +contextual only [w_i_weightOf_1, cells_mono h, hi, hl, part_encL hl, wrap_succ (show i < 9223372036854775807 by omega), decide_true, go_sem, entry, joinEsc, if_pos, reduceIte, Nat.reduceAdd, Nat.reduceLeDiff, Nat.reduceLT, Nat.reduceEqDiff]
    exact ih

theorem e_i_weightOf {q : Nat} {c : Option Nat} {ls : List Ld} (h : cellsAt H q = some (encL ls)) (hn : ls.length ≤ 9223372036854775806) : call T pr f_i_weightOf [slL q ls.length c] ⟨H, e⟩ = some (.int .i64 (weightW ls), ⟨H, e⟩) := by
  obtain ⟨G', z3, z7, hl⟩ := loop_i_weightOf (pr := pr) (e := none) (c := c) (r := .int .i64 0) h hn ls.length 0 0 [] .undef .undef rfl
  have h0 : ((0 : Nat) : Int) = 0 := rfl
  rw [h0, List.append_nil, List.drop_zero] at hl
  rw [call_eq t_i_weightOf]
  simp +contextual only [a_i_weightOf, c_i_weightOf, hl, go_sem, entry, joinEsc, if_pos, reduceIte, Nat.reduceAdd, Nat.reduceLeDiff, Nat.reduceLT, Nat.reduceEqDiff]
  rfl

theorem loop_s_l2Weight {q : Nat} {c : Option Nat} {ls : List Ld} {r : AV} (h : cellsAt H q = some (encL ls)) (hn : ls.length ≤ 9223372036854775806) :
    ∀ (k i : Nat) (a : Int) (y4 : AV), k + i = ls.length → ∃ (z4 : AV), run T pr (.loop w_s_l2Weight_1) ⟨[slL q ls.length c, r, .int .i64 a, .int .i64 i, y4], ⟨H, e⟩⟩ =
      some (Ex.exit 0, ⟨[slL q ls.length c, r, .int .i64 ((ls.drop i).foldl (fun a l => IntKind.i64.wrap (a + l.2)) a), .int .i64 ls.length, z4], ⟨H, e⟩⟩)
  | 0, i, a, y4, hk => by
    have hi : i = ls.length := by omega
    subst hi
    refine ⟨.bool false, ?_⟩
    rw [run_loop]
    generalize run T pr (.loop w_s_l2Weight_1) = R
    simp +contextual only [w_s_l2Weight_1, Nat.lt_irrefl, decide_false, List.drop_length, List.foldl_nil, go_sem, entry, joinEsc, if_pos, reduceIte, Nat.reduceAdd, Nat.reduceLeDiff, Nat.reduceLT, Nat.reduceEqDiff]
  | k + 1, i, a, y4, hk => by
    have hi : i < ls.length := by omega
    have hl : ls[i]? = some ls[i] := List.getElem?_eq_getElem hi
    rw [run_loop, List.drop_eq_getElem_cons hi, List.foldl_cons]
    obtain ⟨z4, ih⟩ := loop_s_l2Weight (c := c) (r := r) h hn k (i + 1) (IntKind.i64.wrap (a + ls[i].2)) (.bool true) (by omega)
    refine ⟨z4, ?_⟩
    generalize run T pr (.loop w_s_l2Weight_1) = R at ih ⊢
    simp +contextual only [w_s_l2Weight_1, h, hi, hl, part_encL1 _ hl, wrap_succ (show i < 9223372036854775807 by omega), decide_true, go_sem, entry, joinEsc, if_pos, reduceIte, Nat.reduceAdd, Nat.reduceLeDiff, Nat.reduceLT, Nat.reduceEqDiff]
    exact ih

theorem e_s_l2Weight {q : Nat} {c : Option Nat} {ls : List Ld} (h : cellsAt H q = some (encL ls)) (hn : ls.length ≤ 9223372036854775806) : call T pr f_s_l2Weight [slL q ls.length c] ⟨H, e⟩ = some (.int .i64 (weightW ls), ⟨H, e⟩) := by
  obtain ⟨z4, hl⟩ := loop_s_l2Weight (pr := pr) (e := none) (c := c) (r := .int .i64 0) h hn ls.length 0 0 .undef rfl
  have h0 : ((0 : Nat) : Int) = 0 := rfl
  rw [h0, List.drop_zero] at hl
  rw [call_eq t_s_l2Weight]
  simp +contextual only [a_s_l2Weight, c_s_l2Weight, hl, go_sem, entry, joinEsc, if_pos, reduceIte, Nat.reduceAdd, Nat.reduceLeDiff, Nat.reduceLT, Nat.reduceEqDiff]
  rfl

theorem weight_fold : ∀ (ls : List Ld) (a : Nat), ls.all okL = true → a + ls.length * 99 ≤ 1000000 → ∃ n : Nat, ls.foldl (fun a l => IntKind.i64.wrap (a + l.2)) (a : Int) = (n : Int) ∧ n ≤ a + ls.length * 99
  | [], a, _, _ => ⟨a, rfl, by simp⟩
  | l :: ls, a, h, hb => by
    rw [List.all_cons, Bool.and_eq_true] at h
    rw [List.length_cons] at hb
    have h1 := h.1
    unfold okL at h1
    simp only [Bool.and_eq_true, decide_eq_true_eq] at h1
    have hw : IntKind.i64.wrap ((a : Int) + l.2) = ((a + l.2.toNat : Nat) : Int) := by rw [show (a : Int) + l.2 = ((a + l.2.toNat : Nat) : Int) by omega]; exact wrapN (by omega)
    obtain ⟨n, n1, n2⟩ := weight_fold ls (a + l.2.toNat) h.2 (by omega)
    refine ⟨n, ?_, by rw [List.length_cons]; omega⟩
    rw [List.foldl_cons, hw, n1]

theorem weight_ok {ls : List Ld} (h : rowOk ls = true) : ∃ n : Nat, weightW ls = n ∧ n ≤ 1000000 := by
  unfold rowOk at h
  rw [Bool.and_eq_true, decide_eq_true_eq] at h
  obtain ⟨n, n1, n2⟩ := weight_fold ls 0 h.2 (by omega)
  exact ⟨n, n1, by omega⟩

theorem e_i_isHaul (x : Int) : call T pr f_i_isHaul [.int .i64 x] ⟨H, e⟩ = some (.bool (decide (0 ≤ x) && decide (x ≤ 1000000)), ⟨H, e⟩) := by
  rw [call_eq t_i_isHaul]
  simp +contextual only [a_i_isHaul, c_i_isHaul, e_i_within, go_sem, entry, joinEsc, if_pos, reduceIte, Nat.reduceAdd, Nat.reduceLeDiff, Nat.reduceLT, Nat.reduceEqDiff]

theorem ceil_frac (x y : Nat) (hy : 0 < y) : (fracA x y + fracB x y - 1) / fracB x y = (x + y - 1) / y := by
  have hg : 0 < Nat.gcd y x := Nat.gcd_pos_of_pos_left _ hy
  obtain ⟨x', hx'⟩ := Nat.gcd_dvd_right y x
  obtain ⟨y', hy'⟩ := Nat.gcd_dvd_left y x
  unfold fracA fracB
  generalize hgg : Nat.gcd y x = g at *
  have h1 : x / g = x' := by rw [hx', Nat.mul_div_cancel_left _ hg]
  have h2 : y / g = y' := by rw [hy', Nat.mul_div_cancel_left _ hg]
  rw [h1, h2]
  have hy'0 : 0 < y' := by
    rcases Nat.eq_zero_or_pos y' with h | h
    · rw [h, Nat.mul_zero] at hy'; omega
    · exact h
  have h3 : (x + y - 1) / g = x' + y' - 1 := by
    have h5 : x + y - 1 = g * (x' + y' - 1) + (g - 1) := by
      have e1 : g * (x' + y' - 1) = g * (x' + y') - g := by rw [Nat.mul_sub, Nat.mul_one]
      have e2 : g * (x' + y') = g * x' + g * y' := Nat.mul_add _ _ _
      have e3 : g * y' ≥ g := Nat.le_mul_of_pos_right _ hy'0
      rw [← hx', ← hy'] at e2
      omega
    rw [h5, Nat.mul_add_div hg, Nat.div_eq_of_lt (by omega), Nat.add_zero]
  rw [← h3, Nat.div_div_eq_div_mul, ← hy']

/-- the least pull, for a valid chain -/
def pullW (ss : List Sg) (n : Nat) : Nat := (n * chainB 1 1 ss + chainA 1 1 ss - 1) / chainA 1 1 ss

theorem e_i_LeastPull {q : Nat} {c : Option Nat} {ss : List Sg} (h : cellsAt H q = some (encS ss)) (hc : chainOk ss = true) (n : Nat) (hn : n ≤ 1000000) : call T pr f_i_LeastPull [slS q ss.length c, .int .i64 n] ⟨H, e⟩ = some (.tup [.int .i64 (pullW ss n), .bool true], ⟨H, e⟩) := by
  have hc' := hc
  unfold chainOk at hc'
  rw [Bool.and_eq_true, decide_eq_true_eq] at hc'
  obtain ⟨b1, b2, b3, b4⟩ := chain_bounds ss 0 1 1 hc'.1 (by omega) (by decide) (by decide)
  have hch := fun G => e_i_isChain (pr := pr) (e := none) (c := c) (cells_mono h G) (by omega)
  have hcg := fun G => e_i_chainGain (pr := pr) (e := none) (c := c) (cells_mono h G) hc
  have hw1 : decide ((n : Int) ≤ 1000000) = true := decide_eq_true (by omega)
  have hpull : pullW ss n = (n * chainB 1 1 ss + chainA 1 1 ss - 1) / chainA 1 1 ss := rfl
  have hcf := ceil_frac (n * chainB 1 1 ss) (chainA 1 1 ss) b1
  rw [← hpull] at hcf
  have hmul : n * chainB 1 1 ss ≤ 1000000 * 254803968 := Nat.mul_le_mul hn b4
  generalize chainA 1 1 ss = P at *
  generalize chainB 1 1 ss = Q at *
  have hw2 : IntKind.i64.wrap ((n : Int) * (Q : Int)) = ((n * Q : Nat) : Int) := by rw [← Int.natCast_mul]; exact wrapN (by omega)
  have hf := fun L => e_i_fraction (pr := pr) (H := L) (e := none) (x := n * Q) (y := P) b1 (by omega) (by omega)
  have hfb : 0 < fracB (n * Q) P := Nat.div_pos (Nat.le_of_dvd b1 (Nat.gcd_dvd_left _ _)) (Nat.gcd_pos_of_pos_left _ b1)
  have hfa : fracA (n * Q) P ≤ n * Q := Nat.div_le_self _ _
  have hfb' : fracB (n * Q) P ≤ P := Nat.div_le_self _ _
  have hpf : ∀ G, call T pr f_i_PullFor [slS q ss.length c, .int .i64 n] ⟨H ++ G, none⟩ = some (.tup [fvV (fracA (n * Q) P) (fracB (n * Q) P), .bool true], ⟨H ++ G, none⟩) := by
    intro G
    have hch' : ∀ X, call T pr f_i_isChain [slS q ss.length c] ⟨(H ++ G) ++ X, none⟩ = some (.bool (chainOk ss), ⟨(H ++ G) ++ X, none⟩) := fun X => by rw [List.append_assoc]; exact hch _
    have hcg' : ∀ X, call T pr f_i_chainGain [slS q ss.length c] ⟨(H ++ G) ++ X, none⟩ = some (fvV P Q, ⟨(H ++ G) ++ X, none⟩) := fun X => by rw [List.append_assoc]; exact hcg _
    generalize H ++ G = L at hch' hcg' ⊢
    rw [call_eq t_i_PullFor]
    simp +contextual only [a_i_PullFor, c_i_PullFor, hch', hc, e_i_isHaul, hw1, decide_true, hcg', fillParts, ix02, ix12, ix01, Int.le_refl, Int.toNat_zero, Int.toNat_one, Nat.zero_mul, Nat.one_mul, hw2, hf, go_sem, entry, joinEsc, if_pos, reduceIte, Nat.reduceAdd, Nat.reduceLeDiff, Nat.reduceLT, Nat.reduceEqDiff]
  have hpf0 := hpf []
  rw [List.append_nil] at hpf0
  generalize fracA (n * Q) P = x at *
  generalize fracB (n * Q) P = y at *
  have hw3 : IntKind.i64.wrap ((x : Int) + (y : Int)) = ((x + y : Nat) : Int) := by rw [← Int.natCast_add]; exact wrapN (by omega)
  have hw4 : IntKind.i64.wrap (((x + y : Nat) : Int) - 1) = ((x + y - 1 : Nat) : Int) := by rw [show ((x + y : Nat) : Int) - 1 = ((x + y - 1 : Nat) : Int) by omega]; exact wrapN (by omega)
  have hy0 : ¬ (y : Int) = 0 := by omega
  have hd : Int.tdiv ((x + y - 1 : Nat) : Int) (y : Int) = ((pullW ss n : Nat) : Int) := by rw [← hcf]; rfl
  have hle : (x + y - 1) / y ≤ x + y - 1 := Nat.div_le_self _ _
  have hw5 : IntKind.i64.wrap ((pullW ss n : Nat) : Int) = ((pullW ss n : Nat) : Int) := wrapN (by omega)
  rw [call_eq t_i_LeastPull]
  simp +contextual only [a_i_LeastPull, c_i_LeastPull, hpf, hpf0, ix02, ix12, ix01, Int.le_refl, Int.toNat_zero, Int.toNat_one, Nat.zero_mul, Nat.one_mul, hw3, hw4, hy0, hd, hw5, go_sem, entry, joinEsc, if_pos, reduceIte, Nat.reduceAdd, Nat.reduceLeDiff, Nat.reduceLT, Nat.reduceEqDiff]

theorem e_s_LeastPull {q : Nat} {c : Option Nat} {ss : List Sg} (h : cellsAt H q = some (encS ss)) (hc : chainOk ss = true) (n : Nat) (hn : n ≤ 1000000) : call T pr f_s_LeastPull [slS q ss.length c, .int .i64 n] ⟨H, e⟩ = some (.tup [.int .i64 (pullW ss n), .bool true], ⟨H, e⟩) := by
  have hc' := hc
  unfold chainOk at hc'
  rw [Bool.and_eq_true, decide_eq_true_eq] at hc'
  obtain ⟨b1, b2, b3, b4⟩ := chain_bounds ss 0 1 1 hc'.1 (by omega) (by decide) (by decide)
  have hst : ∀ e', call T pr f_s_l7Stages [slS q ss.length c, .int .i64 5] ⟨H, e'⟩ = some (.bool (chainOk ss), ⟨H, e'⟩) := fun e' => e_s_l7Stages h (by omega)
  have hcg := fun G => e_s_l7Chain (pr := pr) (e := none) (c := c) (cells_mono h G) hc
  have hcg0 := e_s_l7Chain (pr := pr) (e := none) (c := c) h hc
  have hw1 : decide ((n : Int) ≤ 1000000) = true := decide_eq_true (by omega)
  have hask : ∀ e', call T pr f_s_l7Ask [slS q ss.length c, .int .i64 n] ⟨H, e'⟩ = some (.bool true, ⟨H, e'⟩) := by
    intro e'
    rw [call_eq t_s_l7Ask]
    simp +contextual only [a_s_l7Ask, c_s_l7Ask, hst, hc, e_s_l1In, hw1, decide_true, go_sem, entry, joinEsc, if_pos, reduceIte, Nat.reduceAdd, Nat.reduceLeDiff, Nat.reduceLT, Nat.reduceEqDiff]
  have hpull : pullW ss n = (n * chainB 1 1 ss + chainA 1 1 ss - 1) / chainA 1 1 ss := rfl
  have hmul : n * chainB 1 1 ss ≤ 1000000 * 254803968 := Nat.mul_le_mul hn b4
  generalize chainA 1 1 ss = P at *
  generalize chainB 1 1 ss = Q at *
  have hw2 : IntKind.i64.wrap ((n : Int) * (Q : Int)) = ((n * Q : Nat) : Int) := by rw [← Int.natCast_mul]; exact wrapN (by omega)
  generalize n * Q = x at *
  have hw3 : IntKind.i64.wrap ((x : Int) + (P : Int)) = ((x + P : Nat) : Int) := by rw [← Int.natCast_add]; exact wrapN (by omega)
  have hw4 : IntKind.i64.wrap (((x + P : Nat) : Int) - 1) = ((x + P - 1 : Nat) : Int) := by rw [show ((x + P : Nat) : Int) - 1 = ((x + P - 1 : Nat) : Int) by omega]; exact wrapN (by omega)
  have hy0 : ¬ (P : Int) = 0 := by omega
  have hd : Int.tdiv ((x + P - 1 : Nat) : Int) (P : Int) = ((pullW ss n : Nat) : Int) := by rw [hpull]; rfl
  have hle : (x + P - 1) / P ≤ x + P - 1 := Nat.div_le_self _ _
  have hw5 : IntKind.i64.wrap ((pullW ss n : Nat) : Int) = ((pullW ss n : Nat) : Int) := wrapN (by omega)
  rw [call_eq t_s_LeastPull]
  simp +contextual only [a_s_LeastPull, c_s_LeastPull, hask, hcg, hcg0, ix02, ix12, ix01, Int.le_refl, Int.toNat_zero, Int.toNat_one, Nat.zero_mul, Nat.one_mul, hw2, hw3, hw4, hy0, hd, hw5, go_sem, entry, joinEsc, if_pos, reduceIte, Nat.reduceAdd, Nat.reduceLeDiff, Nat.reduceLT, Nat.reduceEqDiff]

/-- what RowPull returns -/
def rowPullW (ls : List Ld) (ss : List Sg) (ok : Bool) : Nat := if ok = true then pullW ss (weightW ls).toNat else 0

theorem e_i_RowPull {q q' : Nat} {c c' : Option Nat} {ls : List Ld} {ss : List Sg} (h1 : cellsAt H q = some (encL ls)) (h2 : cellsAt H q' = some (encS ss)) (hn : ls.length ≤ 9223372036854775806) (hm : ss.length ≤ 9223372036854775806) (a b t k : Int) :
    call T pr f_i_RowPull [stV (slL q ls.length c) a b (slS q' ss.length c') t k] ⟨H, e⟩ = some (.tup [.int .i64 (rowPullW ls ss (rowOk ls && (chainOk ss && restOk a b t k))), .bool (rowOk ls && (chainOk ss && restOk a b t k))], ⟨H, e⟩) := by
  have his : ∀ G, call T pr f_i_IsStand [stV (slL q ls.length c) a b (slS q' ss.length c') t k] ⟨H ++ G, none⟩ = some (.bool (rowOk ls && (chainOk ss && restOk a b t k)), ⟨H ++ G, none⟩) :=
    fun G => e_i_IsStand (fun X => by rw [List.append_assoc]; exact e_i_IsRow (cells_mono h1 _)) (fun X => by rw [List.append_assoc]; exact e_i_isChain (cells_mono h2 _) hm) a b t k
  rw [call_eq t_i_RowPull]
  cases hok : (rowOk ls && (chainOk ss && restOk a b t k)) with
  | false =>
    have h0 : ((rowPullW ls ss false : Nat) : Int) = 0 := rfl
    rw [h0]
    simp +contextual only [a_i_RowPull, c_i_RowPull, his, hok, go_sem, entry, joinEsc, if_pos, reduceIte, Nat.reduceAdd, Nat.reduceLeDiff, Nat.reduceLT, Nat.reduceEqDiff]
  | true =>
    obtain ⟨k1, k2⟩ := Bool.and_eq_true_iff.mp hok
    obtain ⟨k3, k4⟩ := Bool.and_eq_true_iff.mp k2
    obtain ⟨n, n1, n2⟩ := weight_ok k1
    have hr : rowPullW ls ss true = pullW ss n := by unfold rowPullW; rw [if_pos rfl, n1, Int.toNat_natCast]
    have hwt := fun G => e_i_weightOf (pr := pr) (e := none) (c := c) (cells_mono h1 G) hn
    rw [n1] at hwt
    rw [hr]
    simp +contextual only [a_i_RowPull, c_i_RowPull, his, hok, hwt, e_i_LeastPull (cells_mono h2 _) k3 n n2, go_sem, entry, joinEsc, if_pos, reduceIte, Nat.reduceAdd, Nat.reduceLeDiff, Nat.reduceLT, Nat.reduceEqDiff]

theorem e_s_RowPull {q q' : Nat} {c c' : Option Nat} {ls : List Ld} {ss : List Sg} (h1 : cellsAt H q = some (encL ls)) (h2 : cellsAt H q' = some (encS ss)) (hn : ls.length ≤ 9223372036854775806) (hm : ss.length ≤ 9223372036854775806) (a b t k : Int) :
    call T pr f_s_RowPull [stV (slL q ls.length c) a b (slS q' ss.length c') t k] ⟨H, e⟩ = some (.tup [.int .i64 (rowPullW ls ss (rowOk ls && (chainOk ss && restOk a b t k))), .bool (rowOk ls && (chainOk ss && restOk a b t k))], ⟨H, e⟩) := by
  have his : ∀ G, call T pr f_s_l12Good [stV (slL q ls.length c) a b (slS q' ss.length c') t k] ⟨H ++ G, none⟩ = some (.bool (rowOk ls && (chainOk ss && restOk a b t k)), ⟨H ++ G, none⟩) :=
    fun G => e_s_l12Good (fun X => by rw [List.append_assoc]; exact e_s_l2Row (cells_mono h1 _)) (fun X => by rw [List.append_assoc]; exact e_s_l7Stages (cells_mono h2 _) hm) a b t k
  rw [call_eq t_s_RowPull]
  cases hok : (rowOk ls && (chainOk ss && restOk a b t k)) with
  | false =>
    have h0 : ((rowPullW ls ss false : Nat) : Int) = 0 := rfl
    rw [h0]
    simp +contextual only [a_s_RowPull, c_s_RowPull, his, hok, go_sem, entry, joinEsc, if_pos, reduceIte, Nat.reduceAdd, Nat.reduceLeDiff, Nat.reduceLT, Nat.reduceEqDiff]
  | true =>
    obtain ⟨k1, k2⟩ := Bool.and_eq_true_iff.mp hok
    obtain ⟨k3, k4⟩ := Bool.and_eq_true_iff.mp k2
    obtain ⟨n, n1, n2⟩ := weight_ok k1
    have hr : rowPullW ls ss true = pullW ss n := by unfold rowPullW; rw [if_pos rfl, n1, Int.toNat_natCast]
    have hwt := fun G => e_s_l2Weight (pr := pr) (e := none) (c := c) (cells_mono h1 G) hn
    rw [n1] at hwt
    rw [hr]
    simp +contextual only [a_s_RowPull, c_s_RowPull, his, hok, hwt, e_s_LeastPull (cells_mono h2 _) k3 n n2, go_sem, entry, joinEsc, if_pos, reduceIte, Nat.reduceAdd, Nat.reduceLeDiff, Nat.reduceLT, Nat.reduceEqDiff]

theorem law_RowPull {row chain : AV} {ls : List Ld} {ss : List Sg} (ha : ArgL H row ls) (hs : ArgS H chain ss) (a b t k : Int) : ∃ m', call T pr f_l_FnExactRowPull [stV row a b chain t k] ⟨H, none⟩ = some (.bool true, m') := by
  refine ⟨⟨H, none⟩, ?_⟩
  have hsz : ∀ G e', call T pr f_l_szStand [stV row a b chain t k, .int .i64 1048576] ⟨G, e'⟩ = some (.int .i64 (if ls.length + ss.length ≤ 1048576 then 1048576 - ((ls.length + ss.length : Nat) : Int) else -1), ⟨G, e'⟩) := by
    obtain ⟨p, sz, c, rfl, h2, h3⟩ := ha
    obtain ⟨p', sz', c', rfl, h2', h3'⟩ := hs
    exact fun G e' => e_l_szStand h2 h2' a b t k
  rw [call_eq t_l_FnExactRowPull]
  by_cases hn : ls.length + ss.length ≤ 1048576
  · have hneg : ¬ (1048576 - ((ls.length + ss.length : Nat) : Int) < 0) := by omega
    have hto := fun G => e_l_toStand (pr := pr) (e := none) (ha.more G) (hs.more G) (by omega) (by omega) a b t k
    have hn1 : ls.length ≤ 9223372036854775806 := by omega
    have hm1 : ss.length ≤ 9223372036854775806 := by omega
    have hsi := fun L q q' c c' h1 h2 => e_s_RowPull (pr := pr) (H := L) (e := none) (q := q) (q' := q') (c := c) (c' := c') (ls := ls) (ss := ss) h1 h2 hn1 hm1 a b t k
    have hii := fun L q q' c c' h1 h2 => e_i_RowPull (pr := pr) (H := L) (e := none) (q := q) (q' := q') (c := c) (c' := c') (ls := ls) (ss := ss) h1 h2 hn1 hm1 a b t k
    have heq : ∀ L q1 q2 k1 k2 q3 q4 k3 k4, cellsAt L q1 = some (encL ls) → cellsAt L q2 = some (encL ls) → cellsAt L q3 = some (encS ss) → cellsAt L q4 = some (encS ss) → call T pr f_l_eqStand [stV (slL q1 ls.length k1) a b (slS q3 ss.length k3) t k, stV (slL q2 ls.length k2) a b (slS q4 ss.length k4) t k] ⟨L, none⟩ = some (.bool true, ⟨L, none⟩) :=
      fun L q1 q2 k1 k2 q3 q4 k3 k4 h1 h2 h3 h4 => e_l_eqStand (fun G => e_l_eqLoadS (cells_mono h1 G) (cells_mono h2 G) (by omega)) (fun G => e_l_eqStageS (cells_mono h3 G) (cells_mono h4 G) (by omega)) a b t k
    simp +contextual only [a_l_FnExactRowPull, c_l_FnExactRowPull, hsz, hn, hneg, hto, hsi, hii, heq, under_slice, under_sliceN, Nat.add_assoc, Nat.add_lt_add_iff_left, Nat.lt_add_right_iff_pos, decide_true, decide_false, beq_self_eq_true, go_sem, entry, joinEsc, if_pos, reduceIte, Nat.reduceAdd, Nat.reduceLeDiff, Nat.reduceLT, Nat.reduceEqDiff]
  · simp +contextual only [a_l_FnExactRowPull, c_l_FnExactRowPull, hsz, hn, decide_true, show ((-1 : Int) < 0) by omega, go_sem, entry, joinEsc, if_pos, reduceIte, Nat.reduceAdd, Nat.reduceLeDiff, Nat.reduceLT, Nat.reduceEqDiff]

end Go.Proofs.Ytlocjmbfcdfjfaa.Slim

/- Marks on stands, copies of stands. -/
namespace Go.Proofs.Ytlocjmbfcdfjfaa.Slim

open Go

set_option linter.unusedSimpArgs false

set_option linter.unusedVariables false

variable {pr : Prims} {H : List Blk} {e : Option Nat}

theorem markedL_get : ∀ (n k i : Nat), i < n → (markedL k n)[i]? = some (((k + i * 2 : Nat) : Int), ((k + i * 2 + 1 : Nat) : Int))
  | 0, k, i, h => by omega
  | n + 1, k, 0, h => by simp [markedL]
  | n + 1, k, i + 1, h => by
    rw [markedL, List.getElem?_cons_succ, markedL_get n (k + 2) i (by omega), show k + 2 + i * 2 = k + (i + 1) * 2 by omega]

theorem markedL_length : ∀ (n k : Nat), (markedL k n).length = n
  | 0, k => rfl
  | n + 1, k => by rw [markedL, List.length_cons, markedL_length n (k + 2)]

theorem loop_l_heldLoadS {q n k0 : Nat} {c : Option Nat} {r : AV} (h : cellsAt H q = some (encL (markedL k0 n))) (hn : n ≤ 4194304) (hk0 : k0 ≤ 16777216) :
    ∀ (k i : Nat) (y4 y5 y6 : AV), k + i = n → ∃ z4 z5 z6, run T pr (.loop w_l_heldLoadS_1) ⟨[slL q n c, .int .i64 ((k0 + i * 2 : Nat) : Int), r, .int .i64 i, y4, y5, y6], ⟨H, e⟩⟩ =
      some (Ex.exit 0, ⟨[slL q n c, .int .i64 ((k0 + n * 2 : Nat) : Int), r, .int .i64 n, z4, z5, z6], ⟨H, e⟩⟩)
  | 0, i, y4, y5, y6, hk => by
    have hi : i = n := by omega
    subst hi
    refine ⟨.bool false, y5, y6, ?_⟩
    rw [run_loop]
    generalize run T pr (.loop w_l_heldLoadS_1) = R
    simp +contextual only [w_l_heldLoadS_1, Nat.lt_irrefl, decide_false, go_sem, entry, joinEsc, if_pos, reduceIte, Nat.reduceAdd, Nat.reduceLeDiff, Nat.reduceLT, Nat.reduceEqDiff]
  | k + 1, i, y4, y5, y6, hk => by
    have hi : i < n := by omega
    have hl := markedL_get n k0 i hi
    obtain ⟨z4, z5, z6, ih⟩ := loop_l_heldLoadS (c := c) (r := r) h hn hk0 k (i + 1) (.bool true) (.bool false) (.bool false) (by omega)
    refine ⟨z4, z5, z6, ?_⟩
    rw [run_loop]
    rw [show k0 + (i + 1) * 2 = (k0 + i * 2) + 1 + 1 by omega] at ih
    have hK : k0 + i * 2 ≤ 33554432 := by omega
    generalize k0 + i * 2 = K at hl ih hK ⊢
    generalize run T pr (.loop w_l_heldLoadS_1) = R at ih ⊢
    simp +contextual only [w_l_heldLoadS_1, h, hi, part_encL0 _ hl, part_encL1 _ hl, wrap_succ (show K < 9223372036854775807 by omega), wrap_succ (show K + 1 < 9223372036854775807 by omega), wrap_succ (show i < 9223372036854775807 by omega), decide_true, go_sem, entry, joinEsc, if_pos, reduceIte, Nat.reduceAdd, Nat.reduceLeDiff, Nat.reduceLT, Nat.reduceEqDiff]
    exact ih

theorem e_l_heldLoadS {q n k : Nat} {c : Option Nat} (h : cellsAt H q = some (encL (markedL k n))) (hn : n ≤ 4194304) (hk : k ≤ 16777216) : call T pr f_l_heldLoadS [slL q n c, .int .i64 k] ⟨H, e⟩ = some (.int .i64 ((k + n * 2 : Nat) : Int), ⟨H, e⟩) := by
  obtain ⟨z4, z5, z6, hl⟩ := loop_l_heldLoadS (pr := pr) (e := none) (c := c) (r := .int .i64 0) h hn hk n 0 .undef .undef .undef rfl
  have h0 : ((0 : Nat) : Int) = 0 := rfl
  rw [h0, Nat.zero_mul, Nat.add_zero] at hl
  rw [call_eq t_l_heldLoadS]
  simp +contextual only [a_l_heldLoadS, c_l_heldLoadS, hl, go_sem, entry, joinEsc, if_pos, reduceIte, Nat.reduceAdd, Nat.reduceLeDiff, Nat.reduceLT, Nat.reduceEqDiff]

def markedS (k : Nat) : Nat → List Sg
  | 0 => []
  | n + 1 => ((k : Int), ((k + 1 : Nat) : Int), ((k + 2 : Nat) : Int)) :: markedS (k + 3) n

theorem markedS_get : ∀ (n k i : Nat), i < n → (markedS k n)[i]? = some (((k + i * 3 : Nat) : Int), ((k + i * 3 + 1 : Nat) : Int), ((k + i * 3 + 2 : Nat) : Int))
  | 0, k, i, h => by omega
  | n + 1, k, 0, h => by simp [markedS]
  | n + 1, k, i + 1, h => by
    rw [markedS, List.getElem?_cons_succ, markedS_get n (k + 3) i (by omega), show k + 3 + i * 3 = k + (i + 1) * 3 by omega]

theorem part_encS0 {ss : List Sg} {i : Nat} {s : Sg} (sz : Nat) (h : ss[i]? = some s) : part false (encS ss) (i * 3) sz = some (.int .i64 s.1) := by
  induction ss generalizing i with
  | nil => simp at h
  | cons a ss ih =>
    cases i with
    | zero => simp at h; subst h; simp [encS, part]
    | succ i =>
      simp at h
      rw [show (i + 1) * 3 = i * 3 + 1 + 1 + 1 by omega, encS, part_fk, part_fk, part_fk]
      exact ih h

theorem part_encS1 {ss : List Sg} {i : Nat} {s : Sg} (sz : Nat) (h : ss[i]? = some s) : part false (encS ss) (i * 3 + 1) sz = some (.int .i64 s.2.1) := by
  induction ss generalizing i with
  | nil => simp at h
  | cons a ss ih =>
    cases i with
    | zero => simp at h; subst h; simp [encS, part]
    | succ i =>
      simp at h
      rw [show (i + 1) * 3 + 1 = i * 3 + 1 + 1 + 1 + 1 by omega, encS, part_fk, part_fk, part_fk]
      exact ih h

theorem part_encS2 {ss : List Sg} {i : Nat} {s : Sg} (sz : Nat) (h : ss[i]? = some s) : part false (encS ss) (i * 3 + 2) sz = some (.int .i64 s.2.2) := by
  induction ss generalizing i with
  | nil => simp at h
  | cons a ss ih =>
    cases i with
    | zero => simp at h; subst h; simp [encS, part]
    | succ i =>
      simp at h
      rw [show (i + 1) * 3 + 2 = i * 3 + 2 + 1 + 1 + 1 by omega, encS, part_fk, part_fk, part_fk]
      exact ih h

theorem loop_l_heldStageS {q n k0 : Nat} {c : Option Nat} {r : AV} (h : cellsAt H q = some (encS (markedS k0 n))) (hn : n ≤ 4194304) (hk0 : k0 ≤ 16777216) :
    ∀ (k i : Nat) (y4 y5 y6 y7 : AV), k + i = n → ∃ z4 z5 z6 z7, run T pr (.loop w_l_heldStageS_1) ⟨[slS q n c, .int .i64 ((k0 + i * 3 : Nat) : Int), r, .int .i64 i, y4, y5, y6, y7], ⟨H, e⟩⟩ =
      some (Ex.exit 0, ⟨[slS q n c, .int .i64 ((k0 + n * 3 : Nat) : Int), r, .int .i64 n, z4, z5, z6, z7], ⟨H, e⟩⟩)
  | 0, i, y4, y5, y6, y7, hk => by
    have hi : i = n := by omega
    subst hi
    refine ⟨.bool false, y5, y6, y7, ?_⟩
    rw [run_loop]
    generalize run T pr (.loop w_l_heldStageS_1) = R
    simp +contextual only [w_l_heldStageS_1, Nat.lt_irrefl, decide_false, go_sem, entry, joinEsc, if_pos, reduceIte, Nat.reduceAdd, Nat.reduceLeDiff, Nat.reduceLT, Nat.reduceEqDiff]
  | k + 1, i, y4, y5, y6, y7, hk => by
    have hi : i < n := by omega
    have hl := markedS_get n k0 i hi
    obtain ⟨z4, z5, z6, z7, ih⟩ := loop_l_heldStageS (c := c) (r := r) h hn hk0 k (i + 1) (.bool true) (.bool false) (.bool false) (.bool false) (by omega)
    refine ⟨z4, z5, z6, z7, ?_⟩
    rw [run_loop]
    rw [show k0 + (i + 1) * 3 = (k0 + i * 3) + 1 + 1 + 1 by omega] at ih
    have hK : k0 + i * 3 ≤ 33554432 := by omega
    rw [show k0 + i * 3 + 2 = k0 + i * 3 + 1 + 1 by omega] at hl
    generalize k0 + i * 3 = K at hl ih hK ⊢
    generalize run T pr (.loop w_l_heldStageS_1) = R at ih ⊢
    simp +contextual only [w_l_heldStageS_1, h, hi, part_encS0 _ hl, part_encS1 _ hl, part_encS2 _ hl, wrap_succ (show K < 9223372036854775807 by omega), wrap_succ (show K + 1 < 9223372036854775807 by omega), wrap_succ (show K + 1 + 1 < 9223372036854775807 by omega), wrap_succ (show i < 9223372036854775807 by omega), decide_true, go_sem, entry, joinEsc, if_pos, reduceIte, Nat.reduceAdd, Nat.reduceLeDiff, Nat.reduceLT, Nat.reduceEqDiff]
    exact ih

theorem e_l_heldStageS {q n k : Nat} {c : Option Nat} (h : cellsAt H q = some (encS (markedS k n))) (hn : n ≤ 4194304) (hk : k ≤ 16777216) : call T pr f_l_heldStageS [slS q n c, .int .i64 k] ⟨H, e⟩ = some (.int .i64 ((k + n * 3 : Nat) : Int), ⟨H, e⟩) := by
  obtain ⟨z4, z5, z6, z7, hl⟩ := loop_l_heldStageS (pr := pr) (e := none) (c := c) (r := .int .i64 0) h hn hk n 0 .undef .undef .undef .undef rfl
  have h0 : ((0 : Nat) : Int) = 0 := rfl
  rw [h0, Nat.zero_mul, Nat.add_zero] at hl
  rw [call_eq t_l_heldStageS]
  simp +contextual only [a_l_heldStageS, c_l_heldStageS, hl, go_sem, entry, joinEsc, if_pos, reduceIte, Nat.reduceAdd, Nat.reduceLeDiff, Nat.reduceLT, Nat.reduceEqDiff]

theorem setRange_midS0 (P R : List Sg) (r : Sg) (a : Int) : setRange (encS (P ++ r :: R)) (P.length * 3) [.int .i64 a] = encS (P ++ (a, r.2) :: R) := by
  induction P with
  | nil => simp [encS, setRange]
  | cons p P ih =>
    simp only [encS, List.cons_append, List.length_cons, Nat.add_mul, Nat.one_mul] at *
    rw [show P.length * 3 + 3 = P.length * 3 + 1 + 1 + 1 by omega, setRange_k, setRange_k, setRange_k, ih]

theorem setRange_midS1 (P R : List Sg) (r : Sg) (a : Int) : setRange (encS (P ++ r :: R)) (P.length * 3 + 1) [.int .i64 a] = encS (P ++ (r.1, a, r.2.2) :: R) := by
  induction P with
  | nil => simp [encS, setRange]
  | cons p P ih =>
    simp only [encS, List.cons_append, List.length_cons, Nat.add_mul, Nat.one_mul] at *
    rw [show P.length * 3 + 3 + 1 = P.length * 3 + 1 + 1 + 1 + 1 by omega, setRange_k, setRange_k, setRange_k, ih]

theorem setRange_midS2 (P R : List Sg) (r : Sg) (a : Int) : setRange (encS (P ++ r :: R)) (P.length * 3 + 2) [.int .i64 a] = encS (P ++ (r.1, r.2.1, a) :: R) := by
  induction P with
  | nil => simp [encS, setRange]
  | cons p P ih =>
    simp only [encS, List.cons_append, List.length_cons, Nat.add_mul, Nat.one_mul] at *
    rw [show P.length * 3 + 3 + 2 = P.length * 3 + 2 + 1 + 1 + 1 by omega, setRange_k, setRange_k, setRange_k, ih]

theorem loop_l_markStageS {L : List Blk} {b n : Nat} {c : Option Nat} {r : AV} (hb : b < L.length) (hn : n ≤ 4194304) :
    ∀ (R P : List Sg) (k : Nat) (y4 : AV), P.length + R.length = n → k + R.length * 3 ≤ 33554432 → ∃ z4, run T pr (.loop w_l_markStageS_1) ⟨[slS b n c, .int .i64 k, r, .int .i64 P.length, y4], ⟨L.set b (.cells (encS (P ++ R)) true), e⟩⟩ =
      some (Ex.exit 0, ⟨[slS b n c, .int .i64 ((k + R.length * 3 : Nat) : Int), r, .int .i64 n, z4], ⟨L.set b (.cells (encS (P ++ markedS k R.length)) true), e⟩⟩)
  | [], P, k, y4, hP, hk => by
    refine ⟨.bool false, ?_⟩
    obtain rfl : n = P.length := by simp at hP; omega
    rw [run_loop]
    generalize run T pr (.loop w_l_markStageS_1) = R'
    simp +contextual only [w_l_markStageS_1, Nat.lt_irrefl, decide_false, markedS, Nat.zero_mul, go_sem, entry, joinEsc, if_pos, reduceIte, Nat.reduceAdd, Nat.reduceLeDiff, Nat.reduceLT, Nat.reduceEqDiff]
  | x :: R, P, k, y4, hP, hk => by
    simp only [List.length_cons] at hP hk
    have hi : P.length < n := by omega
    obtain ⟨z4, ih⟩ := loop_l_markStageS (c := c) (r := r) hb hn R (P ++ [((k : Int), ((k + 1 : Nat) : Int), ((k + 2 : Nat) : Int))]) (k + 3) (.bool true) (by simp; omega) (by omega)
    refine ⟨z4, ?_⟩
    rw [run_loop]
    generalize run T pr (.loop w_l_markStageS_1) = R' at ih ⊢
    have hg : ∀ y : Sg, (L.set b (.cells (encS (P ++ y :: R)) true))[b]? = some (.cells (encS (P ++ y :: R)) true) := fun y => List.getElem?_set_self hb
    have hle1 : ∀ y : Sg, P.length * 3 + 1 ≤ (encS (P ++ y :: R)).length := by intro y; rw [encS_length]; simp; omega
    have hle2 : ∀ y : Sg, P.length * 3 + 1 + 1 ≤ (encS (P ++ y :: R)).length := by intro y; rw [encS_length]; simp; omega
    have hle2' : ∀ y : Sg, P.length * 3 + 2 ≤ (encS (P ++ y :: R)).length := by intro y; rw [encS_length]; simp; omega
    have hle3 : ∀ y : Sg, P.length * 3 + 2 + 1 ≤ (encS (P ++ y :: R)).length := by intro y; rw [encS_length]; simp; omega
    have hle3' : ∀ y : Sg, P.length * 3 + 3 ≤ (encS (P ++ y :: R)).length := by intro y; rw [encS_length]; simp; omega
    rw [show k + 3 + R.length * 3 = k + (R.length + 1) * 3 by omega] at ih
    simp only [List.append_assoc, List.singleton_append, List.length_append, List.length_cons, List.length_nil, Nat.zero_add] at ih
    have hw1 : IntKind.i64.wrap ((k : Int) + 1) = ((k + 1 : Nat) : Int) := wrap_succ (show k < 9223372036854775807 by omega)
    have hw2 : IntKind.i64.wrap (((k + 1 : Nat) : Int) + 1) = ((k + 2 : Nat) : Int) := wrap_succ (show k + 1 < 9223372036854775807 by omega)
    have hw3 : IntKind.i64.wrap (((k + 2 : Nat) : Int) + 1) = ((k + 3 : Nat) : Int) := wrap_succ (show k + 2 < 9223372036854775807 by omega)
    simp +contextual only [w_l_markStageS_1, hi, hg, hle1, hle2, hle2', hle3, hle3', setRange_midS0, setRange_midS1, setRange_midS2, List.set_set, markedS, hw1, hw2, hw3, wrap_succ (show P.length < 9223372036854775807 by omega), decide_true, go_sem, entry, joinEsc, if_pos, reduceIte, Nat.reduceAdd, Nat.reduceLeDiff, Nat.reduceLT, Nat.reduceEqDiff]
    exact ih

theorem e_l_markStageS {L : List Blk} {b : Nat} {c : Option Nat} {ls : List Sg} (h : L[b]? = some (.cells (encS ls) true)) (hn : ls.length ≤ 4194304) (k : Nat) (hk : k ≤ 16777216) : call T pr f_l_markStageS [slS b ls.length c, .int .i64 k] ⟨L, e⟩ =
    some (.int .i64 ((k + ls.length * 3 : Nat) : Int), ⟨L.set b (.cells (encS (markedS k ls.length)) true), e⟩) := by
  have hb := (List.getElem?_eq_some_iff.mp h).1
  obtain ⟨z4, hl⟩ := loop_l_markStageS (pr := pr) (e := none) (c := c) (r := .int .i64 0) hb hn ls [] k .undef (by simp) (by omega)
  have h0 : ((0 : Nat) : Int) = 0 := rfl
  rw [List.length_nil, h0, List.nil_append, List.nil_append, set_same h] at hl
  rw [call_eq t_l_markStageS]
  simp +contextual only [a_l_markStageS, c_l_markStageS, hl, finish_one_set, go_sem, entry, joinEsc, if_pos, reduceIte, Nat.reduceAdd, Nat.reduceLeDiff, Nat.reduceLT, Nat.reduceEqDiff]

theorem finish_one_len {L' l : List Blk} {n : Nat} (v : AV) (e0 : Option Nat) (hl : L'.length = n) (h : v.under n = true) : finish 1 n e0 v ⟨L' ++ l, none⟩ = some (v, ⟨L', e0⟩) := by
  subst hl
  simp [finish, h, clean]

theorem set_left {L l : List Blk} {q : Nat} {x : Blk} (h : q < L.length) : (L ++ l).set q x = L.set q x ++ l := by
  rw [List.set_append_left _ _ h]

/-- what marking leaves of memory -/
def markMem (L : List Blk) (q1 q2 n m x : Nat) : List Blk := (L.set q1 (.cells (encL (markedL x n)) true)).set q2 (.cells (encS (markedS (x + n * 2) m)) true)

theorem e_l_markStand {L : List Blk} {q1 q2 : Nat} {c1 c2 : Option Nat} {ls : List Ld} {ss : List Sg} (h1 : L[q1]? = some (.cells (encL ls) true)) (h2 : L[q2]? = some (.cells (encS ss) true)) (hne : q1 ≠ q2) (hn : ls.length ≤ 1048576) (hm : ss.length ≤ 1048576) (a b t k : Int) (x : Nat) (hx : x ≤ 4194304) :
    call T pr f_l_markStand [stV (slL q1 ls.length c1) a b (slS q2 ss.length c2) t k, .int .i64 x] ⟨L, e⟩ = some (.int .i64 ((x + ls.length * 2 + ss.length * 3 : Nat) : Int), ⟨markMem L q1 q2 ls.length ss.length x, e⟩) := by
  have l1 := (List.getElem?_eq_some_iff.mp h1).1
  have l2 := (List.getElem?_eq_some_iff.mp h2).1
  have hM : ∀ X, call T pr f_l_markLoadS [slL q1 ls.length c1, .int .i64 x] ⟨L ++ X, none⟩ = some (.int .i64 ((x + ls.length * 2 : Nat) : Int), ⟨L.set q1 (.cells (encL (markedL x ls.length)) true) ++ X, none⟩) := fun X => by
    rw [← set_left l1]
    exact e_l_markLoadS (by rw [List.getElem?_append_left l1]; exact h1) (by omega) x hx
  have l2' : q2 < (L.set q1 (.cells (encL (markedL x ls.length)) true)).length := by rw [List.length_set]; exact l2
  have h2' : (L.set q1 (.cells (encL (markedL x ls.length)) true))[q2]? = some (.cells (encS ss) true) := by rw [List.getElem?_set_ne hne]; exact h2
  have hS : ∀ X, call T pr f_l_markStageS [slS q2 ss.length c2, .int .i64 ((x + ls.length * 2 : Nat) : Int)] ⟨L.set q1 (.cells (encL (markedL x ls.length)) true) ++ X, none⟩ = some (.int .i64 ((x + ls.length * 2 + ss.length * 3 : Nat) : Int), ⟨markMem L q1 q2 ls.length ss.length x ++ X, none⟩) := fun X => by
    unfold markMem
    rw [← set_left l2']
    exact e_l_markStageS (by rw [List.getElem?_append_left l2']; exact h2') (by omega) _ (by omega)
  have hlen : (markMem L q1 q2 ls.length ss.length x).length = L.length := by unfold markMem; simp
  have hld : ∀ X : List Blk, cellsAt (L.set q1 (.cells (encL (markedL x ls.length)) true) ++ X) L.length = cellsAt X 0 := fun X => by
    have := cellsAt_new0 (H := L.set q1 (.cells (encL (markedL x ls.length)) true)) X
    rwa [List.length_set] at this
  rw [call_eq t_l_markStand]
  simp +contextual only [a_l_markStand, c_l_markStand, hM, hS, hld, finish_one_len _ _ hlen, go_sem, entry, joinEsc, if_pos, reduceIte, Nat.reduceAdd, Nat.reduceLeDiff, Nat.reduceLT, Nat.reduceEqDiff]

theorem e_l_heldStand {L : List Blk} {q1 q2 n m : Nat} {c1 c2 : Option Nat} {x : Nat} (h1 : cellsAt L q1 = some (encL (markedL x n))) (h2 : cellsAt L q2 = some (encS (markedS (x + n * 2) m))) (hn : n ≤ 1048576) (hm : m ≤ 1048576) (a b t k : Int) (hx : x ≤ 4194304) :
    call T pr f_l_heldStand [stV (slL q1 n c1) a b (slS q2 m c2) t k, .int .i64 x] ⟨L, e⟩ = some (.int .i64 ((x + n * 2 + m * 3 : Nat) : Int), ⟨L, e⟩) := by
  have k1 := fun X => e_l_heldLoadS (pr := pr) (e := none) (c := c1) (cells_mono h1 X) (by omega) (by omega)
  have k2 := fun X => e_l_heldStageS (pr := pr) (e := none) (c := c2) (cells_mono h2 X) (by omega) (by omega)
  have h3 : ¬ (((x + n * 2 : Nat) : Int) < 0) := by omega
  have h4 : ¬ (((x + n * 2 + m * 3 : Nat) : Int) < 0) := by omega
  rw [call_eq t_l_heldStand]
  simp +contextual only [a_l_heldStand, c_l_heldStand, k1, k2, h3, h4, decide_false, go_sem, entry, joinEsc, if_pos, reduceIte, Nat.reduceAdd, Nat.reduceLeDiff, Nat.reduceLT, Nat.reduceEqDiff]

theorem binop_nil (p : Nat × Nat) (sz n : Nat) (c : Option Nat) : binop 3 .eql (.slice (some p) sz n c) (.slice none 0 0 none) = some (.bool false) := Eq.trans rfl rfl

/-- an append of none leaves a dead block -/
def kill0 (n b : Nat) (L : List Blk) : List Blk := if n = 0 then L.set b .dead else L

theorem kill0_length (n b : Nat) (L : List Blk) : (kill0 n b L).length = L.length := by unfold kill0; split <;> simp

theorem kill0_new (n k : Nat) (l : List Blk) : kill0 n (H.length + k) (H ++ l) = H ++ kill0 n k l := by
  unfold kill0
  split
  · rw [set_newk]
  · rfl

theorem kill0_new0 (n : Nat) (l : List Blk) : kill0 n H.length (H ++ l) = H ++ kill0 n 0 l := kill0_new n 0 l

theorem kill0_cons (n k : Nat) (x : Blk) (l : List Blk) : kill0 n (k + 1) (x :: l) = x :: kill0 n k l := by
  unfold kill0
  split <;> rfl

theorem kill0_0 (n : Nat) (x : Blk) (l : List Blk) : kill0 n 0 (x :: l) = (if n = 0 then Blk.dead else x) :: l := by
  unfold kill0
  split <;> rfl

theorem append_all {L : List Blk} {b q n sz bytes : Nat} {c : Option Nat} {cs : List AV} (hb : L[b]? = some (.cells [] true)) (hq : cellsAt L q = some cs) (hl : cs.length = n * sz) (hm : n * bytes ≤ maxBytes) :
    appendV L e false sz bytes (.slice (some (b, 0)) sz 0 (some 0)) (.slice (some (q, 0)) sz n c) = some (.slice (some (L.length, 0)) sz n none, ⟨kill0 n b L ++ [.cells cs true], e⟩) := by
  unfold appendV
  have hs := srcCells_new L n sz c cs q hq hl
  simp only [hb, hs]
  rw [if_pos (by simp [hm, hl])]
  unfold kill0
  by_cases hn : n = 0
  · subst hn
    have : cs = [] := by simpa using hl
    subst this
    simp
  · rw [if_pos ⟨trivial, by omega⟩, if_neg hn]
    simp

theorem e_Clone_Load {q : Nat} {c : Option Nat} {ls : List Ld} (h : cellsAt H q = some (encL ls)) (hn : ls.length ≤ 1048576) : call T pr f_slices_Clone_Si_Load_i_Load [slL q ls.length c] ⟨H, e⟩ = some (slL H.length ls.length none, ⟨H ++ [.cells (encL ls) true], e⟩) := by
  have ha := fun L b e' (hb : L[b]? = some (.cells [] true)) hq => append_all (e := e') (L := L) (b := b) (q := q) (n := ls.length) (sz := 2) (bytes := 16) (c := c) (cs := encL ls) hb hq (encL_length ls) (by unfold maxBytes; omega)
  have hf : ∀ (B : Blk) (e0 : Option Nat), finish 2 H.length e0 (slL (H.length + 1) ls.length none) ⟨H ++ [B, .cells (encL ls) true], none⟩ = some (slL H.length ls.length none, ⟨H ++ [.cells (encL ls) true], e0⟩) :=
    fun B e0 => finish_two_at e0 rfl (under_encL _ _)
  rw [call_eq t_slices_Clone_Si_Load_i_Load]
  simp +contextual only [a_slices_Clone_Si_Load_i_Load, c_slices_Clone_Si_Load_i_Load, binop_nil, fillParts, ha, cells_mono h, kill0_new0, kill0_0, hf, go_sem, entry, joinEsc, if_pos, reduceIte, Nat.reduceAdd, Nat.reduceLeDiff, Nat.reduceLT, Nat.reduceEqDiff]

theorem e_Clone_Stage {q : Nat} {c : Option Nat} {ls : List Sg} (h : cellsAt H q = some (encS ls)) (hn : ls.length ≤ 1048576) : call T pr f_slices_Clone_Si_Stage_i_Stage [slS q ls.length c] ⟨H, e⟩ = some (slS H.length ls.length none, ⟨H ++ [.cells (encS ls) true], e⟩) := by
  have ha := fun L b e' (hb : L[b]? = some (.cells [] true)) hq => append_all (e := e') (L := L) (b := b) (q := q) (n := ls.length) (sz := 3) (bytes := 24) (c := c) (cs := encS ls) hb hq (encS_length ls) (by unfold maxBytes; omega)
  have hf : ∀ (B : Blk) (e0 : Option Nat), finish 2 H.length e0 (slS (H.length + 1) ls.length none) ⟨H ++ [B, .cells (encS ls) true], none⟩ = some (slS H.length ls.length none, ⟨H ++ [.cells (encS ls) true], e0⟩) :=
    fun B e0 => finish_two_at e0 rfl (under_encS _ _)
  rw [call_eq t_slices_Clone_Si_Stage_i_Stage]
  simp +contextual only [a_slices_Clone_Si_Stage_i_Stage, c_slices_Clone_Si_Stage_i_Stage, binop_nil, fillParts, ha, cells_mono h, kill0_new0, kill0_0, hf, go_sem, entry, joinEsc, if_pos, reduceIte, Nat.reduceAdd, Nat.reduceLeDiff, Nat.reduceLT, Nat.reduceEqDiff]

theorem e_i_copyStand {q1 q2 : Nat} {c1 c2 : Option Nat} {ls : List Ld} {ss : List Sg} (h1 : cellsAt H q1 = some (encL ls)) (h2 : cellsAt H q2 = some (encS ss)) (hn : ls.length ≤ 1048576) (hm : ss.length ≤ 1048576) (a b t k : Int) :
    call T pr f_i_copyStand [stV (slL q1 ls.length c1) a b (slS q2 ss.length c2) t k] ⟨H, e⟩ = some (stV (slL H.length ls.length none) a b (slS (H.length + 1) ss.length none) t k, ⟨H ++ [.cells (encL ls) true, .cells (encS ss) true], e⟩) := by
  have hf : ∀ (B0 B1 : Blk) (e0 e1 : Option Nat), clean H.length e1 = true → finish 2 H.length e0 (stV (slL (H.length + 2) ls.length none) a b (slS (H.length + 3) ss.length none) t k) ⟨H ++ [B0, B1, .cells (encL ls) true, .cells (encS ss) true], e1⟩ = some (stV (slL H.length ls.length none) a b (slS (H.length + 1) ss.length none) t k, ⟨H ++ [.cells (encL ls) true, .cells (encS ss) true], e0⟩) :=
    fun B0 B1 e0 e1 hc => finish_stand a b t k e0 e1 hc rfl rfl (by decide) (under_encL _ _) (under_encS _ _)
  rw [call_eq t_i_copyStand]
  simp +contextual only [a_i_copyStand, c_i_copyStand, e_Clone_Load (cells_mono h1 _) hn, e_Clone_Stage (cells_mono h2 _) hm, hf, under_slice, Nat.add_assoc, Nat.add_lt_add_iff_left, Nat.lt_irrefl, decide_false, clean_minEsc, clean_none, Nat.le_add_right, Nat.le_refl, decide_true, go_sem, entry, joinEsc, if_pos, reduceIte, Nat.reduceAdd, Nat.reduceLeDiff, Nat.reduceLT, Nat.reduceEqDiff]

theorem cellsAt_lt {L : List Blk} {w : Nat} {cs : List AV} (h : cellsAt L w = some cs) : w < L.length := by
  unfold cellsAt at h
  cases hb : L[w]? with
  | none => rw [hb] at h; cases h
  | some x => exact (List.getElem?_eq_some_iff.mp hb).1

theorem e_s_l12Own {q1 q2 : Nat} {c1 c2 : Option Nat} {ls : List Ld} {ss : List Sg} (h1 : cellsAt H q1 = some (encL ls)) (h2 : cellsAt H q2 = some (encS ss)) (hn : ls.length ≤ 1048576) (hm : ss.length ≤ 1048576) (a b t k : Int) :
    call T pr f_s_l12Own [stV (slL q1 ls.length c1) a b (slS q2 ss.length c2) t k] ⟨H, e⟩ = some (stV (slL H.length ls.length none) a b (slS (H.length + 1) ss.length none) t k, ⟨H ++ [.cells (encL ls) true, .cells (encS ss) true], e⟩) := by
  have ha1 := fun L b e' (hb : L[b]? = some (.cells [] true)) hq => append_all (e := e') (L := L) (b := b) (q := q1) (n := ls.length) (sz := 2) (bytes := 16) (c := c1) (cs := encL ls) hb hq (encL_length ls) (by unfold maxBytes; omega)
  have ha2 := fun L b e' (hb : L[b]? = some (.cells [] true)) hq => append_all (e := e') (L := L) (b := b) (q := q2) (n := ss.length) (sz := 3) (bytes := 24) (c := c2) (cs := encS ss) hb hq (encS_length ss) (by unfold maxBytes; omega)
  have hf : ∀ (B0 B1 B2 B3 B5 : Blk) (e0 e1 : Option Nat), clean H.length e1 = true → finish 2 H.length e0 (stV (slL (H.length + 4) ls.length none) a b (slS (H.length + 6) ss.length none) t k) ⟨H ++ [B0, B1, B2, B3, .cells (encL ls) true, B5, .cells (encS ss) true], e1⟩ = some (stV (slL H.length ls.length none) a b (slS (H.length + 1) ss.length none) t k, ⟨H ++ [.cells (encL ls) true, .cells (encS ss) true], e0⟩) :=
    fun B0 B1 B2 B3 B5 e0 e1 hc => finish_stand a b t k e0 e1 hc rfl rfl (by decide) (under_encL _ _) (under_encS _ _)
  have q1l : q1 < H.length + 3 := by have := cellsAt_lt h1; omega
  have q2l : q2 < H.length + 3 := by have := cellsAt_lt h2; omega
  rw [call_eq t_s_l12Own]
  simp +contextual only [a_s_l12Own, c_s_l12Own, fillParts, ha1, ha2, cells_mono h1, cells_mono h2, kill0_new, kill0_cons, kill0_0, hf, q1l, q2l, under_slice, under_sliceN, Nat.add_assoc, Nat.add_lt_add_iff_left, Nat.lt_irrefl, decide_false, clean_minEsc, clean_none, Nat.le_add_right, Nat.le_refl, decide_true, go_sem, entry, joinEsc, if_pos, reduceIte, Nat.reduceAdd, Nat.reduceLeDiff, Nat.reduceLT, Nat.reduceEqDiff]

end Go.Proofs.Ytlocjmbfcdfjfaa.Slim
