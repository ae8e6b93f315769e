/- The slim functions are the program's. -/
import Derived.Test.YtaikmfldjkbmmaaSlimZ7
import Derived.Test.YtaikmfldjkbmmaaChecked
/- The slim functions are the program's. -/
namespace Go.Proofs.Ytaikmfldjkbmmaa.Slim
open Go
theorem ok_gosem_cut_init : compileFn Try.prog [] 1 [] Try.f2 = some a_gosem_cut_init := by kernel_rfl
theorem ok_l_FnExactRestsOn : compileFn Try.prog [0, 1, 2, 4, 5, 6, 7, 8, 9, 10, 15, 40, 45] 1 [] Try.f3 = some a_l_FnExactRestsOn := by kernel_rfl
theorem ok_l_FnExactCanCross : compileFn Try.prog [0, 1, 2, 4, 5, 6, 7, 8, 9, 10, 15, 40, 45] 1 [] Try.f4 = some a_l_FnExactCanCross := by kernel_rfl
theorem ok_l_FnBeams : compileFn Try.prog [0, 2, 3, 4, 5, 6, 7, 8, 9, 10, 11, 12, 13, 14, 15, 16, 17, 18, 19, 20, 21, 22, 23, 24, 25, 26, 27, 28, 29, 30, 31, 32, 33, 34, 35, 36, 37, 38, 39, 40, 41, 42, 43, 44, 45, 46, 47, 48, 49, 50, 51, 52, 53, 54, 55, 57, 83, 109, 141, 166, 198, 231, 259, 284, 285, 309, 311, 370, 375, 409, 413, 466, 483, 507] 1 [(27, [0, 1, 2, 3, 4, 5, 6, 7, 8, 9, 10, 12, 11, 13, 14, 15]), (51, [0, 1, 2, 3, 4, 5, 6, 7, 8, 9, 10, 11, 12, 13, 14, 15, 16, 17]), (59, [0, 1, 2, 3, 4, 5, 6, 7, 8, 9, 10, 11, 12, 13, 14, 15, 16, 17, 18, 19, 20, 21, 22, 23, 24, 25, 26, 27, 28, 29, 30, 31, 32, 33, 34, 35, 36, 37, 38, 39, 40, 41, 42, 43, 44, 45, 46, 47, 48, 49, 50])] Try.f5 = some a_l_FnBeams := by kernel_rfl
theorem ok_l_FnConvoys : compileFn Try.prog [0, 2, 3, 4, 5, 6, 7, 8, 9, 10, 11, 12, 13, 14, 15, 16, 17, 18, 19, 20, 21, 22, 23, 24, 25, 26, 27, 28, 29, 30, 31, 32, 33, 34, 35, 36, 37, 38, 39, 40, 41, 42, 43, 44, 45, 46, 47, 48, 50, 85, 120, 155, 162, 191, 192, 196, 217, 224, 225, 229, 258, 260, 264, 311] 1 [(42, [0, 2, 4, 5, 6, 1, 3, 7, 8, 9, 10, 11, 12, 13, 14])] Try.f6 = some a_l_FnConvoys := by kernel_rfl
theorem ok_l_szLoadS : compileFn Try.prog [0, 1, 4, 10] 1 [] Try.f7 = some a_l_szLoadS := by kernel_rfl
theorem ok_s_RestsOn : compileFn Try.prog [0, 1, 2, 4, 5, 9] 1 [] Try.f8 = some a_s_RestsOn := by kernel_rfl
theorem ok_l_toBeam : compileFn Try.prog [0, 1, 2, 3] 1 [] Try.f9 = some a_l_toBeam := by kernel_rfl
theorem ok_l_toLoadS : compileFn Try.prog [0, 2, 3, 4, 11] 2 [] Try.f10 = some a_l_toLoadS := by kernel_rfl
theorem ok_i_RestsOn : compileFn Try.prog [0, 1, 2, 4, 5, 9] 1 [] Try.f11 = some a_i_RestsOn := by kernel_rfl
theorem ok_l_eqLoadS : compileFn Try.prog [0, 1, 4, 5, 10, 14, 26] 1 [(6, [0, 1, 2, 3, 4, 5, 6, 7, 8, 9])] Try.f12 = some a_l_eqLoadS := by kernel_rfl
theorem ok_s_CanCross : compileFn Try.prog [0, 1, 2, 4, 5, 6, 14, 18, 29] 1 [(6, [0, 1, 3, 4, 5, 6, 2, 7, 8])] Try.f13 = some a_s_CanCross := by kernel_rfl
theorem ok_i_CanCross : compileFn Try.prog [0, 1, 2, 4, 5, 6, 14, 17, 18, 19, 26] 1 [(6, [0, 1, 2, 3, 4, 5])] Try.f14 = some a_i_CanCross := by kernel_rfl
theorem ok_l_rBig : compileFn Try.prog [0, 2] 1 [] Try.f15 = some a_l_rBig := by kernel_rfl
theorem ok_s_DrawBendTimes : compileFn Try.prog [0, 2, 3] 2 [] Try.f16 = some a_s_DrawBendTimes := by kernel_rfl
theorem ok_i_BendTimes : compileFn Try.prog [0, 1, 2, 4, 5, 9] 2 [] Try.f17 = some a_i_BendTimes := by kernel_rfl
theorem ok_s_BendTimes : compileFn Try.prog [0, 1, 2, 4, 5, 9] 2 [] Try.f18 = some a_s_BendTimes := by kernel_rfl
theorem ok_l_rInts : compileFn Try.prog [0, 1, 4, 5, 10, 14, 25] 1 [(6, [0, 1, 2, 3, 4, 5, 6, 7, 8])] Try.f19 = some a_l_rInts := by kernel_rfl
theorem ok_i_ShearTimes : compileFn Try.prog [0, 1, 2, 4, 5, 6, 7, 8, 9, 10, 12, 16, 25, 26, 27, 32, 39, 43, 44, 45, 46, 52] 2 [(17, [0, 1, 3, 4, 2, 5, 6, 7])] Try.f20 = some a_i_ShearTimes := by kernel_rfl
theorem ok_s_ShearTimes : compileFn Try.prog [0, 1, 2, 4, 5, 9] 2 [] Try.f21 = some a_s_ShearTimes := by kernel_rfl
theorem ok_i_SupportTimes : compileFn Try.prog [0, 1, 2, 4, 5, 6, 7, 8, 12] 1 [] Try.f22 = some a_i_SupportTimes := by kernel_rfl
theorem ok_s_SupportTimes : compileFn Try.prog [0, 1, 2, 4, 5, 6, 10] 1 [(3, [0, 1, 2, 5, 6, 7, 3, 4, 8, 9, 10, 11])] Try.f23 = some a_s_SupportTimes := by kernel_rfl
theorem ok_i_GreatestBend : compileFn Try.prog [0, 1, 2, 4, 5, 6, 7, 8, 9, 10, 11, 15, 18, 19, 20, 21, 31] 1 [] Try.f24 = some a_i_GreatestBend := by kernel_rfl
theorem ok_s_GreatestBend : compileFn Try.prog [0, 1, 2, 4, 5, 6, 7, 8, 9, 10, 11, 15, 22, 37] 1 [(7, [0, 1, 2, 3, 4, 5, 6, 7, 8, 9, 10])] Try.f25 = some a_s_GreatestBend := by kernel_rfl
theorem ok_s_DrawInfluenceOf : compileFn Try.prog [0, 2, 3, 4, 5] 1 [(3, [0, 1, 2, 3, 4, 5])] Try.f26 = some a_s_DrawInfluenceOf := by kernel_rfl
theorem ok_i_InfluenceOf : compileFn Try.prog [0, 1, 2, 4, 5, 6, 7, 11, 15, 16, 17] 2 [] Try.f27 = some a_i_InfluenceOf := by kernel_rfl
theorem ok_s_InfluenceOf : compileFn Try.prog [0, 1, 2, 4, 5, 15] 2 [] Try.f28 = some a_s_InfluenceOf := by kernel_rfl
theorem ok_i_IsBeam : compileFn Try.prog [0, 1, 2] 1 [] Try.f29 = some a_i_IsBeam := by kernel_rfl
theorem ok_s_IsBeam : compileFn Try.prog [0, 1, 2] 1 [] Try.f30 = some a_s_IsBeam := by kernel_rfl
theorem ok_s_DrawBendBy : compileFn Try.prog [0, 2, 3, 4, 5, 6, 7] 2 [(4, [0, 1, 2, 3, 4, 5, 6, 7])] Try.f31 = some a_s_DrawBendBy := by kernel_rfl
theorem ok_i_BendBy : compileFn Try.prog [0, 1, 2, 3, 6, 7, 17] 1 [] Try.f32 = some a_i_BendBy := by kernel_rfl
theorem ok_s_BendBy : compileFn Try.prog [0, 1, 2, 3, 6, 7, 8, 9, 10, 21, 28] 1 [(7, [0, 1, 2, 3, 4, 5, 6, 7, 8, 9, 10, 11, 12, 13, 14, 15, 16])] Try.f33 = some a_s_BendBy := by kernel_rfl
theorem ok_i_MirrorBeam : compileFn Try.prog [0, 1, 2, 3, 6] 1 [] Try.f34 = some a_i_MirrorBeam := by kernel_rfl
theorem ok_s_MirrorBeam : compileFn Try.prog [0, 1, 2, 3, 6] 1 [] Try.f35 = some a_s_MirrorBeam := by kernel_rfl
theorem ok_i_WeightOf : compileFn Try.prog [0, 2, 3, 6] 1 [] Try.f36 = some a_i_WeightOf := by kernel_rfl
theorem ok_s_DrawWorstBend : compileFn Try.prog [0, 2, 3, 4] 2 [] Try.f37 = some a_s_DrawWorstBend := by kernel_rfl
theorem ok_i_WorstBend : compileFn Try.prog [0, 1, 2, 3, 6, 7, 8, 9, 10, 11, 12, 21, 24, 25, 26, 40] 1 [(7, [0, 1, 2, 4, 3, 5, 6])] Try.f38 = some a_i_WorstBend := by kernel_rfl
theorem ok_s_WorstBend : compileFn Try.prog [0, 1, 2, 3, 6, 7, 8, 9, 10, 11, 12, 27, 31, 48] 1 [(7, [0, 1, 2, 5, 3, 4, 6, 7, 8])] Try.f39 = some a_s_WorstBend := by kernel_rfl
theorem ok_s_DrawCanCross : compileFn Try.prog [0, 2, 3, 4] 2 [] Try.f40 = some a_s_DrawCanCross := by kernel_rfl
theorem ok_i_IsConvoy : compileFn Try.prog [0, 2, 3, 4, 5, 6, 7, 8, 45] 1 [(4, [0, 1, 2, 3, 4, 5, 6, 7, 8, 9, 10, 11, 12, 13, 14, 15, 16, 17, 18, 19, 20, 21, 22, 23, 24, 25, 26, 27, 28, 29, 30, 31, 32, 33])] Try.f41 = some a_i_IsConvoy := by kernel_rfl
theorem ok_s_DrawOutermostPlaces : compileFn Try.prog [0, 2, 3, 4, 5, 6, 7] 2 [(4, [0, 1, 2, 3, 4, 5, 6, 7])] Try.f42 = some a_s_DrawOutermostPlaces := by kernel_rfl
theorem ok_i_OutermostPlaces : compileFn Try.prog [0, 1, 2, 3, 6, 7, 8, 9, 10, 11, 25, 28, 29, 30, 39, 41, 46] 1 [] Try.f43 = some a_i_OutermostPlaces := by kernel_rfl
theorem ok_s_OutermostPlaces : compileFn Try.prog [0, 1, 2, 3, 6, 7, 8, 9, 10, 11, 25, 29, 41, 43, 47] 1 [(7, [0, 1, 2, 4, 5, 6, 7, 3, 8, 9])] Try.f44 = some a_s_OutermostPlaces := by kernel_rfl
theorem ok_s_DrawIsConvoy : compileFn Try.prog [0, 2, 3] 2 [] Try.f45 = some a_s_DrawIsConvoy := by kernel_rfl
theorem ok_s_IsConvoy : compileFn Try.prog [0, 2] 1 [] Try.f46 = some a_s_IsConvoy := by kernel_rfl
theorem ok_s_DrawConvoyRow : compileFn Try.prog [0, 2, 3, 4, 5, 6, 7] 2 [(4, [0, 1, 2, 3, 4, 5, 6, 7])] Try.f47 = some a_s_DrawConvoyRow := by kernel_rfl
theorem ok_i_ConvoyRow : compileFn Try.prog [0, 1, 2, 3, 6, 7, 16] 2 [] Try.f48 = some a_i_ConvoyRow := by kernel_rfl
theorem ok_s_ConvoyRow : compileFn Try.prog [0, 1, 2, 3, 6, 7, 22] 2 [] Try.f49 = some a_s_ConvoyRow := by kernel_rfl
theorem ok_l_rRow : compileFn Try.prog [0, 1, 4, 5, 10, 14, 25] 1 [(6, [0, 1, 2, 3, 4, 5, 6, 7, 8])] Try.f50 = some a_l_rRow := by kernel_rfl
theorem ok_s_l6On : compileFn Try.prog [0, 1, 2, 4, 5, 13, 17, 27] 1 [(6, [0, 1, 2, 3, 4, 5, 6, 7])] Try.f51 = some a_s_l6On := by kernel_rfl
theorem ok_s_l2Side : compileFn Try.prog [0, 1, 2, 6, 10, 14] 1 [] Try.f52 = some a_s_l2Side := by kernel_rfl
theorem ok_l_toLoad : compileFn Try.prog [0, 1, 2, 3] 1 [] Try.f53 = some a_l_toLoad := by kernel_rfl
theorem ok_i_isOn : compileFn Try.prog [0, 1, 2, 4] 1 [] Try.f54 = some a_i_isOn := by kernel_rfl
theorem ok_i_Beam_rests : compileFn Try.prog [0, 1, 2, 4] 1 [] Try.f55 = some a_i_Beam_rests := by kernel_rfl
theorem ok_l_eqLoad : compileFn Try.prog [0, 1, 2, 3, 4, 9, 14] 1 [] Try.f56 = some a_l_eqLoad := by kernel_rfl
theorem ok_s_l6Beam : compileFn Try.prog [0, 1, 2] 1 [] Try.f57 = some a_s_l6Beam := by kernel_rfl
theorem ok_s_l6Convoy : compileFn Try.prog [0, 2, 3, 7, 43] 1 [(4, [0, 1, 2, 3, 4, 5, 6, 7, 8, 9, 10, 11, 12, 13, 14, 15, 16, 17, 18, 19, 20, 21, 22, 23, 24, 25, 26, 27, 28, 29, 30, 31, 32, 33])] Try.f58 = some a_s_l6Convoy := by kernel_rfl
theorem ok_s_l6At : compileFn Try.prog [0, 1, 4, 5, 6, 11, 20] 2 [(6, [0, 1, 2, 3, 4, 5, 6, 7, 8, 9, 10, 11, 12, 13, 14, 15, 16])] Try.f59 = some a_s_l6At := by kernel_rfl
theorem ok_i_convoyRow : compileFn Try.prog [0, 1, 4, 5, 7, 9, 10, 11, 12, 18] 2 [] Try.f60 = some a_i_convoyRow := by kernel_rfl
theorem ok_s_DrawRestsOn : compileFn Try.prog [0, 2, 3, 4, 5] 2 [(3, [0, 1, 2, 3, 4, 5])] Try.f61 = some a_s_DrawRestsOn := by kernel_rfl
theorem ok_i_Beam_bends : compileFn Try.prog [0, 1, 2, 4, 5, 6, 10, 11, 12] 2 [] Try.f62 = some a_i_Beam_bends := by kernel_rfl
theorem ok_s_l6Bends : compileFn Try.prog [0, 1, 2, 4, 5, 6, 7, 15] 2 [(5, [0, 1, 2, 3, 4, 5, 6, 7, 8, 9, 10, 11, 12])] Try.f63 = some a_s_l6Bends := by kernel_rfl
theorem ok_i_Beam_supports : compileFn Try.prog [0, 1, 2, 4, 5] 1 [(1, [0, 1, 2, 5, 6, 7, 3, 4, 8, 9, 10])] Try.f64 = some a_i_Beam_supports := by kernel_rfl
theorem ok_i_Beam_span : compileFn Try.prog [0, 1, 2] 1 [] Try.f65 = some a_i_Beam_span := by kernel_rfl
theorem ok_s_l6Shears : compileFn Try.prog [0, 1, 2, 4, 5, 6, 7, 8, 16] 2 [] Try.f66 = some a_s_l6Shears := by kernel_rfl
theorem ok_s_l2Moment : compileFn Try.prog [0, 1, 4, 5, 6, 10] 1 [(5, [0, 1, 2, 3, 4, 5, 6, 7, 8, 9, 10, 11, 12, 13, 14, 15])] Try.f67 = some a_s_l2Moment := by kernel_rfl
theorem ok_s_l1Most : compileFn Try.prog [0, 1, 4, 7] 1 [] Try.f68 = some a_s_l1Most := by kernel_rfl
theorem ok_s_l1Cur_beam : compileFn Try.prog [0, 2, 3, 4, 12, 29, 30, 36, 47] 1 [(5, [0, 1, 2, 3, 4, 5, 6, 7, 8, 9, 10, 11])] Try.f69 = some a_s_l1Cur_beam := by kernel_rfl
theorem ok_s_l1Cur_placeOn : compileFn Try.prog [0, 1, 3, 4, 6] 1 [] Try.f70 = some a_s_l1Cur_placeOn := by kernel_rfl
theorem ok_i_isOnBeam : compileFn Try.prog [0, 1, 2, 4] 1 [] Try.f71 = some a_i_isOnBeam := by kernel_rfl
theorem ok_i_Beam_bendAt : compileFn Try.prog [0, 1, 2, 3, 6, 7, 8, 9, 11, 33, 34, 35, 36] 1 [(6, [0, 1, 3, 4, 6, 7, 8, 9, 10, 2, 5, 11, 12, 13])] Try.f72 = some a_i_Beam_bendAt := by kernel_rfl
theorem ok_s_l1In : compileFn Try.prog [0, 1, 2, 6] 1 [] Try.f73 = some a_s_l1In := by kernel_rfl
theorem ok_s_l6Influence : compileFn Try.prog [0, 1, 2, 4, 5, 6, 11] 2 [] Try.f74 = some a_s_l6Influence := by kernel_rfl
theorem ok_i_within : compileFn Try.prog [0, 1, 2, 6] 1 [] Try.f75 = some a_i_within := by kernel_rfl
theorem ok_s_l1Cur_onBeam : compileFn Try.prog [0, 1, 3, 4, 5, 6, 19, 23] 2 [(6, [0, 1, 2, 3, 4, 5, 6, 7, 8, 9, 10, 11, 12, 13])] Try.f76 = some a_s_l1Cur_onBeam := by kernel_rfl
theorem ok_i_IsRow : compileFn Try.prog [0, 2, 5] 1 [] Try.f77 = some a_i_IsRow := by kernel_rfl
theorem ok_i_weightOf : compileFn Try.prog [0, 2, 3, 5, 6, 7, 8, 9] 1 [] Try.f78 = some a_i_weightOf := by kernel_rfl
theorem ok_s_l1Cur_convoy : compileFn Try.prog [0, 2, 3, 4, 5, 11, 30, 31, 39, 50, 58, 62, 68] 2 [] Try.f79 = some a_s_l1Cur_convoy := by kernel_rfl
theorem ok_i_isWeight : compileFn Try.prog [0, 2] 1 [] Try.f80 = some a_i_isWeight := by kernel_rfl
theorem ok_s_l1Cur_among : compileFn Try.prog [0, 1, 4] 1 [] Try.f81 = some a_s_l1Cur_among := by kernel_rfl
theorem ok_i_standsWith : compileFn Try.prog [0, 1, 2, 3, 4, 10] 1 [] Try.f82 = some a_i_standsWith := by kernel_rfl
theorem ok_s_l2With : compileFn Try.prog [0, 1, 2, 6] 2 [] Try.f83 = some a_s_l2With := by kernel_rfl
theorem ok_s_l2Row : compileFn Try.prog [0, 2, 3, 11, 29] 1 [] Try.f84 = some a_s_l2Row := by kernel_rfl
theorem ok_slices_ContainsFunc_Si_Load_i_Load : compileFn Try.prog [0, 1, 4] 1 [] Try.f85 = some a_slices_ContainsFunc_Si_Load_i_Load := by kernel_rfl
theorem ok_i_isOn_1 : compileFn Try.prog [0, 1, 2, 3] 1 [] Try.f86 = some a_i_isOn_1 := by kernel_rfl
theorem ok_i_tipSide : compileFn Try.prog [0, 1, 2, 6, 7, 12] 1 [] Try.f87 = some a_i_tipSide := by kernel_rfl
theorem ok_i_momentAbout : compileFn Try.prog [0, 1, 4, 5, 7, 8, 9, 10, 11] 1 [] Try.f88 = some a_i_momentAbout := by kernel_rfl
theorem ok_s_l6Forces : compileFn Try.prog [0, 1, 2, 4, 5, 6, 31] 2 [(2, [0, 1, 2, 3, 4, 5, 6, 7, 8, 9]), (3, [0, 1, 2, 3, 4, 5, 6, 7, 8]), (7, [0, 1, 2, 3, 4, 5, 6, 7, 8, 9, 10, 11, 12, 13, 14, 15, 16, 17, 18, 19, 20, 21, 22, 23, 24, 25, 26, 27])] Try.f89 = some a_s_l6Forces := by kernel_rfl
theorem ok_s_l1Cur_one : compileFn Try.prog [0, 1, 4] 1 [] Try.f90 = some a_s_l1Cur_one := by kernel_rfl
theorem ok_s_l1Cur_pick : compileFn Try.prog [0, 1, 4, 5, 7, 11] 1 [] Try.f91 = some a_s_l1Cur_pick := by kernel_rfl
theorem ok_s_l1Least : compileFn Try.prog [0, 1, 4, 7] 1 [] Try.f92 = some a_s_l1Least := by kernel_rfl
theorem ok_s_l1Cur_row : compileFn Try.prog [0, 2] 2 [] Try.f93 = some a_s_l1Cur_row := by kernel_rfl
theorem ok_i_IsRow_1 : compileFn Try.prog [0, 1, 2] 1 [] Try.f94 = some a_i_IsRow_1 := by kernel_rfl
theorem ok_i_isPlace : compileFn Try.prog [0, 2] 1 [] Try.f95 = some a_i_isPlace := by kernel_rfl
theorem ok_slices_Clone_Si_Load_i_Load : compileFn Try.prog [0, 2, 4] 2 [] Try.f96 = some a_slices_Clone_Si_Load_i_Load := by kernel_rfl
theorem ok_s_l2In : compileFn Try.prog [0, 2] 1 [] Try.f97 = some a_s_l2In := by kernel_rfl
theorem ok_slices_IndexFunc_Si_Load_i_Load : compileFn Try.prog [0, 1, 4, 5, 7, 8, 9, 16] 1 [] Try.f98 = some a_slices_IndexFunc_Si_Load_i_Load := by kernel_rfl
theorem ok_s_l1Cur_next : compileFn Try.prog [0, 2, 3, 13, 53] 1 [(2, [0, 1, 2, 3, 4, 5, 6, 7, 8, 9]), (3, [0, 1, 2, 3, 4, 5, 6, 7, 8, 9, 10, 11]), (6, [0, 1, 2, 3, 4, 5, 6, 7, 8, 9])] Try.f99 = some a_s_l1Cur_next := by kernel_rfl
theorem ok_s_l1Cur_someRow : compileFn Try.prog [0, 1, 4, 5, 6, 7, 15, 36, 38, 39, 50, 61, 65] 2 [] Try.f100 = some a_s_l1Cur_someRow := by kernel_rfl
theorem tabOk : TableOk Try.prog T := tableOk_of (by
  unfold tab
  exact allCons ⟨_, _, _, _, Try.func2, ok_gosem_cut_init⟩ <|
    allCons ⟨_, _, _, _, Try.func3, ok_l_FnExactRestsOn⟩ <|
    allCons ⟨_, _, _, _, Try.func4, ok_l_FnExactCanCross⟩ <|
    allCons ⟨_, _, _, _, Try.func5, ok_l_FnBeams⟩ <|
    allCons ⟨_, _, _, _, Try.func6, ok_l_FnConvoys⟩ <|
    allCons ⟨_, _, _, _, Try.func7, ok_l_szLoadS⟩ <|
    allCons ⟨_, _, _, _, Try.func8, ok_s_RestsOn⟩ <|
    allCons ⟨_, _, _, _, Try.func9, ok_l_toBeam⟩ <|
    allCons ⟨_, _, _, _, Try.func10, ok_l_toLoadS⟩ <|
    allCons ⟨_, _, _, _, Try.func11, ok_i_RestsOn⟩ <|
    allCons ⟨_, _, _, _, Try.func12, ok_l_eqLoadS⟩ <|
    allCons ⟨_, _, _, _, Try.func13, ok_s_CanCross⟩ <|
    allCons ⟨_, _, _, _, Try.func14, ok_i_CanCross⟩ <|
    allCons ⟨_, _, _, _, Try.func15, ok_l_rBig⟩ <|
    allCons ⟨_, _, _, _, Try.func16, ok_s_DrawBendTimes⟩ <|
    allCons ⟨_, _, _, _, Try.func17, ok_i_BendTimes⟩ <|
    allCons ⟨_, _, _, _, Try.func18, ok_s_BendTimes⟩ <|
    allCons ⟨_, _, _, _, Try.func19, ok_l_rInts⟩ <|
    allCons ⟨_, _, _, _, Try.func20, ok_i_ShearTimes⟩ <|
    allCons ⟨_, _, _, _, Try.func21, ok_s_ShearTimes⟩ <|
    allCons ⟨_, _, _, _, Try.func22, ok_i_SupportTimes⟩ <|
    allCons ⟨_, _, _, _, Try.func23, ok_s_SupportTimes⟩ <|
    allCons ⟨_, _, _, _, Try.func24, ok_i_GreatestBend⟩ <|
    allCons ⟨_, _, _, _, Try.func25, ok_s_GreatestBend⟩ <|
    allCons ⟨_, _, _, _, Try.func26, ok_s_DrawInfluenceOf⟩ <|
    allCons ⟨_, _, _, _, Try.func27, ok_i_InfluenceOf⟩ <|
    allCons ⟨_, _, _, _, Try.func28, ok_s_InfluenceOf⟩ <|
    allCons ⟨_, _, _, _, Try.func29, ok_i_IsBeam⟩ <|
    allCons ⟨_, _, _, _, Try.func30, ok_s_IsBeam⟩ <|
    allCons ⟨_, _, _, _, Try.func31, ok_s_DrawBendBy⟩ <|
    allCons ⟨_, _, _, _, Try.func32, ok_i_BendBy⟩ <|
    allCons ⟨_, _, _, _, Try.func33, ok_s_BendBy⟩ <|
    allCons ⟨_, _, _, _, Try.func34, ok_i_MirrorBeam⟩ <|
    allCons ⟨_, _, _, _, Try.func35, ok_s_MirrorBeam⟩ <|
    allCons ⟨_, _, _, _, Try.func36, ok_i_WeightOf⟩ <|
    allCons ⟨_, _, _, _, Try.func37, ok_s_DrawWorstBend⟩ <|
    allCons ⟨_, _, _, _, Try.func38, ok_i_WorstBend⟩ <|
    allCons ⟨_, _, _, _, Try.func39, ok_s_WorstBend⟩ <|
    allCons ⟨_, _, _, _, Try.func40, ok_s_DrawCanCross⟩ <|
    allCons ⟨_, _, _, _, Try.func41, ok_i_IsConvoy⟩ <|
    allCons ⟨_, _, _, _, Try.func42, ok_s_DrawOutermostPlaces⟩ <|
    allCons ⟨_, _, _, _, Try.func43, ok_i_OutermostPlaces⟩ <|
    allCons ⟨_, _, _, _, Try.func44, ok_s_OutermostPlaces⟩ <|
    allCons ⟨_, _, _, _, Try.func45, ok_s_DrawIsConvoy⟩ <|
    allCons ⟨_, _, _, _, Try.func46, ok_s_IsConvoy⟩ <|
    allCons ⟨_, _, _, _, Try.func47, ok_s_DrawConvoyRow⟩ <|
    allCons ⟨_, _, _, _, Try.func48, ok_i_ConvoyRow⟩ <|
    allCons ⟨_, _, _, _, Try.func49, ok_s_ConvoyRow⟩ <|
    allCons ⟨_, _, _, _, Try.func50, ok_l_rRow⟩ <|
    allCons ⟨_, _, _, _, Try.func51, ok_s_l6On⟩ <|
    allCons ⟨_, _, _, _, Try.func52, ok_s_l2Side⟩ <|
    allCons ⟨_, _, _, _, Try.func53, ok_l_toLoad⟩ <|
    allCons ⟨_, _, _, _, Try.func54, ok_i_isOn⟩ <|
    allCons ⟨_, _, _, _, Try.func55, ok_i_Beam_rests⟩ <|
    allCons ⟨_, _, _, _, Try.func56, ok_l_eqLoad⟩ <|
    allCons ⟨_, _, _, _, Try.func57, ok_s_l6Beam⟩ <|
    allCons ⟨_, _, _, _, Try.func58, ok_s_l6Convoy⟩ <|
    allCons ⟨_, _, _, _, Try.func59, ok_s_l6At⟩ <|
    allCons ⟨_, _, _, _, Try.func60, ok_i_convoyRow⟩ <|
    allCons ⟨_, _, _, _, Try.func61, ok_s_DrawRestsOn⟩ <|
    allCons ⟨_, _, _, _, Try.func62, ok_i_Beam_bends⟩ <|
    allCons ⟨_, _, _, _, Try.func63, ok_s_l6Bends⟩ <|
    allCons ⟨_, _, _, _, Try.func64, ok_i_Beam_supports⟩ <|
    allCons ⟨_, _, _, _, Try.func65, ok_i_Beam_span⟩ <|
    allCons ⟨_, _, _, _, Try.func66, ok_s_l6Shears⟩ <|
    allCons ⟨_, _, _, _, Try.func67, ok_s_l2Moment⟩ <|
    allCons ⟨_, _, _, _, Try.func68, ok_s_l1Most⟩ <|
    allCons ⟨_, _, _, _, Try.func69, ok_s_l1Cur_beam⟩ <|
    allCons ⟨_, _, _, _, Try.func70, ok_s_l1Cur_placeOn⟩ <|
    allCons ⟨_, _, _, _, Try.func71, ok_i_isOnBeam⟩ <|
    allCons ⟨_, _, _, _, Try.func72, ok_i_Beam_bendAt⟩ <|
    allCons ⟨_, _, _, _, Try.func73, ok_s_l1In⟩ <|
    allCons ⟨_, _, _, _, Try.func74, ok_s_l6Influence⟩ <|
    allCons ⟨_, _, _, _, Try.func75, ok_i_within⟩ <|
    allCons ⟨_, _, _, _, Try.func76, ok_s_l1Cur_onBeam⟩ <|
    allCons ⟨_, _, _, _, Try.func77, ok_i_IsRow⟩ <|
    allCons ⟨_, _, _, _, Try.func78, ok_i_weightOf⟩ <|
    allCons ⟨_, _, _, _, Try.func79, ok_s_l1Cur_convoy⟩ <|
    allCons ⟨_, _, _, _, Try.func80, ok_i_isWeight⟩ <|
    allCons ⟨_, _, _, _, Try.func81, ok_s_l1Cur_among⟩ <|
    allCons ⟨_, _, _, _, Try.func82, ok_i_standsWith⟩ <|
    allCons ⟨_, _, _, _, Try.func83, ok_s_l2With⟩ <|
    allCons ⟨_, _, _, _, Try.func84, ok_s_l2Row⟩ <|
    allCons ⟨_, _, _, _, Try.func85, ok_slices_ContainsFunc_Si_Load_i_Load⟩ <|
    allCons ⟨_, _, _, _, Try.func86, ok_i_isOn_1⟩ <|
    allCons ⟨_, _, _, _, Try.func87, ok_i_tipSide⟩ <|
    allCons ⟨_, _, _, _, Try.func88, ok_i_momentAbout⟩ <|
    allCons ⟨_, _, _, _, Try.func89, ok_s_l6Forces⟩ <|
    allCons ⟨_, _, _, _, Try.func90, ok_s_l1Cur_one⟩ <|
    allCons ⟨_, _, _, _, Try.func91, ok_s_l1Cur_pick⟩ <|
    allCons ⟨_, _, _, _, Try.func92, ok_s_l1Least⟩ <|
    allCons ⟨_, _, _, _, Try.func93, ok_s_l1Cur_row⟩ <|
    allCons ⟨_, _, _, _, Try.func94, ok_i_IsRow_1⟩ <|
    allCons ⟨_, _, _, _, Try.func95, ok_i_isPlace⟩ <|
    allCons ⟨_, _, _, _, Try.func96, ok_slices_Clone_Si_Load_i_Load⟩ <|
    allCons ⟨_, _, _, _, Try.func97, ok_s_l2In⟩ <|
    allCons ⟨_, _, _, _, Try.func98, ok_slices_IndexFunc_Si_Load_i_Load⟩ <|
    allCons ⟨_, _, _, _, Try.func99, ok_s_l1Cur_next⟩ <|
    allCons ⟨_, _, _, _, Try.func100, ok_s_l1Cur_someRow⟩ <|
    allNil)
end Go.Proofs.Ytaikmfldjkbmmaa.Slim

/- The slim machine: the rules by which simp walks. -/
namespace Go.Proofs.Ytaikmfldjkbmmaa.Slim
open Go
set_option linter.unusedVariables false
set_option linter.unusedSimpArgs false

section
variable {C : FuncId → List AV → Mem → Option (AV × Mem)} {tm loc : List AV} {m : Mem} {g : X → AV} {H : List Blk} {e : Option Nat}

theorem aops_nil : aops C tm [] loc m = some (loc, m) := Eq.trans rfl rfl

def opThen {β : Type} (r : Option (AV × Mem)) (f : AV → Mem → Option β) : Option β :=
  match r with
  | some (v, m) => f v m
  | none => none
theorem opThen_some {β : Type} (v : AV) (m : Mem) (f : AV → Mem → Option β) : opThen (some (v, m)) f = f v m := Eq.trans rfl rfl
theorem opThen_none {β : Type} (f : AV → Mem → Option β) : opThen none f = none := Eq.trans rfl rfl
theorem opThen_ite {β : Type} (c : Prop) [Decidable c] (a b : Option (AV × Mem)) (f : AV → Mem → Option β) : opThen (if c then a else b) f = if c then opThen a f else opThen b f := by split <;> rfl
@[congr] theorem opThen_congr {β : Type} {r r' : Option (AV × Mem)} {f : AV → Mem → Option β} (h : r = r') : opThen r f = opThen r' f := by rw [h]

/-- an operation with a guard -/
def guardP {β : Type} (p : Prop) [Decidable p] (r : Option (AV × Mem)) (m : Mem) (f : AV → Mem → Option β) : Option β := if p then opThen r f else f (.tup []) m
def guardThen {β : Type} (c : Option Bool) (r : Option (AV × Mem)) (m : Mem) (f : AV → Mem → Option β) : Option β :=
  match c with
  | none => none
  | some c => guardP (c = true) r m f
theorem guardThen_some {β : Type} (c : Bool) (r : Option (AV × Mem)) (m : Mem) (f : AV → Mem → Option β) : guardThen (some c) r m f = guardP (c = true) r m f := Eq.trans rfl rfl
theorem guardThen_ite {β : Type} (p : Prop) [Decidable p] (a b : Option Bool) (r : Option (AV × Mem)) (m : Mem) (f : AV → Mem → Option β) :
    guardThen (if p then a else b) r m f = if p then guardThen a r m f else guardThen b r m f := by split <;> rfl
theorem guardP_true {β : Type} (r : Option (AV × Mem)) (m : Mem) (f : AV → Mem → Option β) : guardP True r m f = opThen r f := by simp [guardP]
theorem guardP_false {β : Type} (r : Option (AV × Mem)) (m : Mem) (f : AV → Mem → Option β) : guardP False r m f = f (.tup []) m := by simp [guardP]
theorem guardP_some {β : Type} (p : Prop) [Decidable p] (v : AV) (m : Mem) (f : AV → Mem → Option β) : guardP p (some (v, m)) m f = f (if p then v else .tup []) m := by
  by_cases h : p <;> simp [guardP, h, opThen]
theorem guardP_ite {β : Type} (p : Prop) [Decidable p] (q : Prop) [Decidable q] (v : AV) (m : Mem) (f : AV → Mem → Option β) :
    guardP p (if q then some (v, m) else none) m f = if p → q then f (if p then v else .tup []) m else none := by
  by_cases h : p <;> by_cases h2 : q <;> simp [guardP, opThen, h, h2]
@[congr] theorem guardP_congr {β : Type} {p q : Prop} {s : Decidable p} [Decidable q] {r r' : Option (AV × Mem)} {m : Mem} {f : AV → Mem → Option β} (h : p = q) (h2 : q → r = r') : guardP p r m f = guardP q r' m f := by
  subst h
  unfold guardP
  by_cases hp : p
  · rw [if_pos hp, if_pos hp, h2 hp]
  · rw [if_neg hp, if_neg hp]
@[congr] theorem guardThen_congr {β : Type} {c c' : Option Bool} {r : Option (AV × Mem)} {m : Mem} {f : AV → Mem → Option β} (h : c = c') : guardThen c r m f = guardThen c' r m f := by rw [h]

/-- what a guard says -/
def guardOf (v : AV) (b : Bool) : Option Bool :=
  match v with
  | .bool c => some (c == b)
  | .tup [] => some false
  | _ => none
theorem guardOf_true (c : Bool) : guardOf (.bool c) true = some c := by cases c <;> rfl
theorem guardOf_false (c : Bool) : guardOf (.bool c) false = some (!c) := by cases c <;> rfl
theorem guardOf_tup (b : Bool) : guardOf (.tup []) b = some false := Eq.trans rfl rfl
theorem guardOf_ite (c : Prop) [Decidable c] (x y : AV) (b : Bool) : guardOf (if c then x else y) b = if c then guardOf x b else guardOf y b := by split <;> rfl

theorem aops_cons (op : AO) (rest : List AOper) : aops C tm (⟨op, none⟩ :: rest) loc m = opThen (aop C (get tm loc) m op) fun v m' => aops C tm rest (loc ++ [v]) m' := by
  rw [aops]
  simp only [wanted]
  cases aop C (get tm loc) m op <;> rfl

theorem aops_guard (op : AO) (x : X) (b : Bool) (rest : List AOper) :
    aops C tm (⟨op, some (x, b)⟩ :: rest) loc m = guardThen (guardOf (get tm loc x) b) (aop C (get tm loc) m op) m fun v m' => aops C tm rest (loc ++ [v]) m' := by
  rw [aops]
  have h : wanted (get tm loc) (some (x, b)) = guardOf (get tm loc x) b := rfl
  rw [h]
  cases guardOf (get tm loc x) b with
  | none => rfl
  | some c => cases c with
    | false => rfl
    | true => simp only [guardThen, guardP, if_true]; cases aop C (get tm loc) m op <;> rfl

theorem dops_nil : dops C tm [] loc m = some (loc, m) := Eq.trans rfl rfl

theorem dops_cons (op : AO) (rest : List DE) : dops C tm (⟨op, none, []⟩ :: rest) loc m = opThen (aop C (get tm loc) m op) fun v m' => dops C tm rest (loc ++ [v]) m' := by
  rw [dops]
  simp only [wanted]
  cases aop C (get tm loc) m op <;> simp [opThen, toldAnew]

theorem dops_again (op : AO) (q : Nat × AOper) (qs : List (Nat × AOper)) (rest : List DE) : dops C tm (⟨op, none, q :: qs⟩ :: rest) loc m =
    opThen (aop C (get tm loc) m op) fun v m' => if toldAnew (get tm (loc ++ [v])) loc m'.H (q :: qs) = true then dops C tm rest (loc ++ [v]) m' else none := by
  rw [dops]
  simp only [wanted]
  cases aop C (get tm loc) m op <;> simp [opThen]

theorem dops_guard (op : AO) (x : X) (b : Bool) (rest : List DE) :
    dops C tm (⟨op, some (x, b), []⟩ :: rest) loc m = guardThen (guardOf (get tm loc x) b) (aop C (get tm loc) m op) m fun v m' => dops C tm rest (loc ++ [v]) m' := by
  rw [dops]
  have h : wanted (get tm loc) (some (x, b)) = guardOf (get tm loc x) b := rfl
  rw [h]
  cases guardOf (get tm loc x) b with
  | none => rfl
  | some c => cases c with
    | false => simp [guardThen, guardP, toldAnew]
    | true => simp only [guardThen, guardP, if_true]; cases aop C (get tm loc) m op <;> simp [opThen, toldAnew]

theorem dops_guard_again (op : AO) (x : X) (b : Bool) (q : Nat × AOper) (qs : List (Nat × AOper)) (rest : List DE) :
    dops C tm (⟨op, some (x, b), q :: qs⟩ :: rest) loc m = guardThen (guardOf (get tm loc x) b) (aop C (get tm loc) m op) m fun v m' =>
      if toldAnew (get tm (loc ++ [v])) loc m'.H (q :: qs) = true then dops C tm rest (loc ++ [v]) m' else none := by
  rw [dops]
  have h : wanted (get tm loc) (some (x, b)) = guardOf (get tm loc x) b := rfl
  rw [h]
  cases guardOf (get tm loc x) b with
  | none => rfl
  | some c => cases c with
    | false => rfl
    | true => simp only [guardThen, guardP, if_true]; cases aop C (get tm loc) m op <;> rfl

theorem toldAnew_nil (L : List Blk) : toldAnew g loc L [] = true := Eq.trans rfl rfl
theorem toldAnew_cons (L : List Blk) (j : Nat) (op : AO) (qs : List (Nat × AOper)) : (toldAnew g loc L ((j, ⟨op, none⟩) :: qs) = true) ↔ (memop g L op = some ((loc[j]?).getD .undef) ∧ toldAnew g loc L qs = true) := by
  simp [toldAnew, wanted]
theorem toldAnew_guard (L : List Blk) (j : Nat) (op : AO) (x : X) (b : Bool) (qs : List (Nat × AOper)) : (toldAnew g loc L ((j, ⟨op, some (x, b)⟩) :: qs) = true) ↔ ((guardOf (g x) b = some false ∨ memop g L op = some ((loc[j]?).getD .undef)) ∧ toldAnew g loc L qs = true) := by
  simp only [toldAnew, Bool.and_eq_true, Bool.or_eq_true, decide_eq_true_eq]
  rfl
theorem memop_load (L : List Blk) (a : Bool) (sz : Nat) (x : X) : memop g L (.load a sz x) = loadAt L a sz (g x) := Eq.trans rfl rfl

theorem get_t (s : Nat) : get tm loc (.t s) = (tm[s]?).getD .undef := Eq.trans rfl rfl
theorem get_l (s : Nat) : get tm loc (.l s) = (loc[s]?).getD .undef := Eq.trans rfl rfl
theorem get_c (v : AV) : get tm loc (.c v) = v := Eq.trans rfl rfl

/-- a value, memory being as it was -/
def valOf (m : Mem) (r : Option AV) : Option (AV × Mem) :=
  match r with
  | some v => some (v, m)
  | none => none
theorem valOf_some (v : AV) : valOf m (some v) = some (v, m) := Eq.trans rfl rfl
theorem valOf_none : valOf m none = none := Eq.trans rfl rfl
theorem valOf_ite (c : Prop) [Decidable c] (a b : Option AV) : valOf m (if c then a else b) = if c then valOf m a else valOf m b := by split <;> rfl

theorem aop_of_light {op : AO} (h : op.kind = 0) : aop C g m op = valOf m (light g op) := by
  unfold aop
  cases e : light g op with
  | some v => rfl
  | none => simp only []; rw [memop_none (by omega), making_none (by omega), heavy_none (by omega)]; rfl

theorem aop_of_memop {op : AO} (h : op.kind = 1) : aop C g m op = valOf m (memop g m.H op) := by
  unfold aop
  rw [light_none (by omega)]
  simp only []
  cases e : memop g m.H op with
  | some v => rfl
  | none => simp only []; rw [making_none (by omega), heavy_none (by omega)]; rfl

theorem aop_of_heavy {op : AO} (h : op.kind = 3) : aop C g m op = heavy C g m op := by
  unfold aop
  rw [light_none (by omega), memop_none (by omega), making_none (by omega)]

theorem aop_of_making {op : AO} (h : op.kind = 2) : aop C g m op = match making g op with | some (cs, v) => some (v m.H.length, newBlk m cs) | none => none := by
  unfold aop
  rw [light_none (by omega), memop_none (by omega)]
  simp only []
  cases making g op with
  | some p => rfl
  | none => simp only []; exact heavy_none (by omega)

theorem aop_mv (x : X) : aop C g m (.mv x) = some (g x, m) := Eq.trans rfl rfl
theorem aop_bin (c : Nat) (o : BinOp) (x y : X) : aop C g m (.bin c o x y) = valOf m (binop c o (g x) (g y)) := aop_of_light rfl

/-- a choice -/
def pickV (c a b : AV) : Option AV :=
  match c with
  | .bool true => some a
  | .bool false => some b
  | _ => none
theorem pickV_bool (c : Bool) (a b : AV) : pickV (.bool c) a b = some (if c = true then a else b) := by cases c <;> rfl
theorem aop_pick (c a b : X) : aop C g m (.pick c a b) = valOf m (pickV (g c) (g a) (g b)) := aop_of_light rfl
theorem aop_un (o : UnOp) (x : X) : aop C g m (.un o x) = valOf m (unop o (g x)) := aop_of_light rfl
theorem aop_makeFunc (f : FuncId) (a b : List X) : aop C g m (.makeFunc f a b) = some (.fn f (a.map g) (b.map g), m) := Eq.trans rfl rfl

def convV (k : IntKind) (v : AV) : Option AV :=
  match v with
  | .int _ n => some (.int k (k.wrap n))
  | _ => none
theorem convV_int (k k' : IntKind) (n : Int) : convV k (.int k' n) = some (.int k (k.wrap n)) := Eq.trans rfl rfl
theorem aop_conv (k : IntKind) (x : X) : aop C g m (.conv k x) = valOf m (convV k (g x)) := aop_of_light rfl

def eqCellsV (ks : List Nat) (neg : Bool) (a b : AV) : Option AV :=
  match a, b with
  | .agg xs, .agg ys => (eqList ks xs ys).map fun b => .bool (if neg then !b else b)
  | _, _ => none
theorem eqCellsV_agg (ks : List Nat) (neg : Bool) (xs ys : List AV) : eqCellsV ks neg (.agg xs) (.agg ys) = (eqList ks xs ys).map fun b => .bool (if neg then !b else b) := Eq.trans rfl rfl
theorem aop_eqCells (ks : List Nat) (neg : Bool) (x y : X) : aop C g m (.eqCells ks neg x y) = valOf m (eqCellsV ks neg (g x) (g y)) := aop_of_light rfl

def fieldAddrV (off : Nat) (v : AV) : Option AV :=
  match v with
  | .ptr (some (b, o)) => some (.ptr (some (b, o + off)))
  | _ => none
theorem fieldAddrV_ptr (off b o : Nat) : fieldAddrV off (.ptr (some (b, o))) = some (.ptr (some (b, o + off))) := Eq.trans rfl rfl
theorem aop_fieldAddr (off : Nat) (x : X) : aop C g m (.fieldAddr off x) = valOf m (fieldAddrV off (g x)) := aop_of_light rfl

def fieldV (agg : Bool) (off sz : Nat) (v : AV) : Option AV :=
  match v with
  | .agg cs => part agg cs off sz
  | _ => none
theorem fieldV_agg (agg : Bool) (off sz : Nat) (cs : List AV) : fieldV agg off sz (.agg cs) = part agg cs off sz := Eq.trans rfl rfl
theorem aop_field (agg : Bool) (off sz : Nat) (x : X) : aop C g m (.field agg off sz x) = valOf m (fieldV agg off sz (g x)) := aop_of_light rfl

def indexAddrSV (sz : Nat) (v i : AV) : Option AV :=
  match v, i with
  | .slice (some (b, o)) sz' n _, .int _ i => if 0 ≤ i ∧ i < n ∧ sz' = sz then some (.ptr (some (b, o + i.toNat * sz))) else none
  | _, _ => none
theorem indexAddrSV_slice (sz b o sz' n : Nat) (c : Option Nat) (k : IntKind) (i : Int) : indexAddrSV sz (.slice (some (b, o)) sz' n c) (.int k i) = if 0 ≤ i ∧ i < n ∧ sz' = sz then some (.ptr (some (b, o + i.toNat * sz))) else none := Eq.trans rfl rfl
theorem aop_indexAddrS (sz : Nat) (x i : X) : aop C g m (.indexAddrS sz x i) = valOf m (indexAddrSV sz (g x) (g i)) := aop_of_light rfl

def indexAddrAV (n sz : Nat) (v i : AV) : Option AV :=
  match v, i with
  | .ptr (some (b, o)), .int _ i => if 0 ≤ i ∧ i < n then some (.ptr (some (b, o + i.toNat * sz))) else none
  | _, _ => none
theorem indexAddrAV_ptr (n sz b o : Nat) (k : IntKind) (i : Int) : indexAddrAV n sz (.ptr (some (b, o))) (.int k i) = if 0 ≤ i ∧ i < n then some (.ptr (some (b, o + i.toNat * sz))) else none := Eq.trans rfl rfl
theorem aop_indexAddrA (n sz : Nat) (x i : X) : aop C g m (.indexAddrA n sz x i) = valOf m (indexAddrAV n sz (g x) (g i)) := aop_of_light rfl

def indexAV (agg : Bool) (n sz : Nat) (v i : AV) : Option AV :=
  match v, i with
  | .agg cs, .int _ i => if 0 ≤ i ∧ i < n then part agg cs (i.toNat * sz) sz else none
  | _, _ => none
theorem indexAV_agg (agg : Bool) (n sz : Nat) (cs : List AV) (k : IntKind) (i : Int) : indexAV agg n sz (.agg cs) (.int k i) = if 0 ≤ i ∧ i < n then part agg cs (i.toNat * sz) sz else none := Eq.trans rfl rfl
theorem aop_indexA (agg : Bool) (n sz : Nat) (x i : X) : aop C g m (.indexA agg n sz x i) = valOf m (indexAV agg n sz (g x) (g i)) := aop_of_light rfl

def indexSV (v i : AV) : Option AV :=
  match v, i with
  | .str s, .int _ i => if 0 ≤ i then (s[i.toNat]?).map fun b => .int .u8 b.toNat else none
  | _, _ => none
theorem indexSV_str (s : ByteArray) (k : IntKind) (i : Int) : indexSV (.str s) (.int k i) = if 0 ≤ i then (s[i.toNat]?).map fun b => .int .u8 b.toNat else none := Eq.trans rfl rfl
theorem aop_indexS (x i : X) : aop C g m (.indexS x i) = valOf m (indexSV (g x) (g i)) := aop_of_light rfl

def extractV (i : Nat) (v : AV) : Option AV :=
  match v with
  | .tup vs => vs[i]?
  | _ => none
theorem extractV_tup (i : Nat) (vs : List AV) : extractV i (.tup vs) = vs[i]? := Eq.trans rfl rfl
theorem aop_extract (i : Nat) (x : X) : aop C g m (.extract i x) = valOf m (extractV i (g x)) := aop_of_light rfl

def lenV (v : AV) : Option AV :=
  match v with
  | .slice _ _ n _ => some (.int .i64 n)
  | _ => none
theorem lenV_slice (p : Option (Nat × Nat)) (sz n : Nat) (c : Option Nat) : lenV (.slice p sz n c) = some (.int .i64 n) := Eq.trans rfl rfl
theorem aop_len (x : X) : aop C g m (.len x) = valOf m (lenV (g x)) := aop_of_light rfl

def lenStrV (v : AV) : Option AV :=
  match v with
  | .str s => some (.int .i64 s.size)
  | _ => none
theorem lenStrV_str (s : ByteArray) : lenStrV (.str s) = some (.int .i64 s.size) := Eq.trans rfl rfl
theorem aop_lenStr (x : X) : aop C g m (.lenStr x) = valOf m (lenStrV (g x)) := aop_of_light rfl
theorem aop_lenA (n : Nat) : aop C g m (.lenA n) = some (.int .i64 n, m) := Eq.trans rfl rfl

def max2V (a b : AV) : Option AV :=
  match a, b with
  | .int k a, .int k' b => if k = k' then some (.int k (if b > a then b else a)) else none
  | _, _ => none
theorem max2V_int (k : IntKind) (a b : Int) : max2V (.int k a) (.int k b) = some (.int k (if b > a then b else a)) := by simp [max2V]
theorem aop_max2 (x y : X) : aop C g m (.max2 x y) = valOf m (max2V (g x) (g y)) := aop_of_light rfl
def min2V (a b : AV) : Option AV :=
  match a, b with
  | .int k a, .int k' b => if k = k' then some (.int k (if b < a then b else a)) else none
  | _, _ => none
theorem min2V_int (k : IntKind) (a b : Int) : min2V (.int k a) (.int k b) = some (.int k (if b < a then b else a)) := by simp [min2V]
theorem aop_min2 (x y : X) : aop C g m (.min2 x y) = valOf m (min2V (g x) (g y)) := aop_of_light rfl

theorem aop_build (zero : List AV) (parts : List (Nat × Nat × X)) : aop C g m (.build zero parts) = valOf m ((fillParts g zero parts).map .agg) := aop_of_light rfl
theorem aop_load (a : Bool) (sz : Nat) (x : X) : aop C g m (.load a sz x) = valOf m (loadAt m.H a sz (g x)) := aop_of_memop rfl
theorem aop_alloc (zero : List AV) : aop C g ⟨H, e⟩ (.alloc zero) = some (.ptr (some (H.length, 0)), ⟨H ++ [.cells zero true], e⟩) := Eq.trans rfl rfl

def boxV (H : List Blk) (e : Option Nat) (cs : Option (List AV)) : Option (AV × Mem) :=
  match cs with
  | some cs => some (.ptr (some (H.length, 0)), ⟨H ++ [.cells cs true], e⟩)
  | none => none
theorem boxV_some (cs : List AV) : boxV H e (some cs) = some (.ptr (some (H.length, 0)), ⟨H ++ [.cells cs true], e⟩) := Eq.trans rfl rfl
theorem aop_box (x : X) : aop C g ⟨H, e⟩ (.box x) = boxV H e (cellsOf (g x)) := by
  rw [aop_of_making rfl]
  have h : making g (.box x) = (cellsOf (g x)).map fun cs => (cs, fun b => .ptr (some (b, 0))) := rfl
  rw [h]
  cases cellsOf (g x) <;> rfl

def buildSliceV (H : List Blk) (e : Option Nat) (sz len : Nat) (cs : Option (List AV)) : Option (AV × Mem) :=
  match cs with
  | some cs => some (.slice (some (H.length, 0)) sz len (some len), ⟨H ++ [.cells cs true], e⟩)
  | none => none
theorem buildSliceV_some (sz len : Nat) (cs : List AV) : buildSliceV H e sz len (some cs) = some (.slice (some (H.length, 0)) sz len (some len), ⟨H ++ [.cells cs true], e⟩) := Eq.trans rfl rfl
theorem aop_buildSlice (sz len : Nat) (zero : List AV) (parts : List (Nat × Nat × X)) : aop C g ⟨H, e⟩ (.buildSlice sz len zero parts) = buildSliceV H e sz len (fillParts g zero parts) := by
  rw [aop_of_making rfl]
  have h : making g (.buildSlice sz len zero parts) = (fillParts g zero parts).map fun cs => (cs, fun b => .slice (some (b, 0)) sz len (some len)) := rfl
  rw [h]
  cases fillParts g zero parts <;> rfl

/-- a store -/
def storeV (H : List Blk) (e : Option Nat) (sz : Nat) (a x : AV) : Option (AV × Mem) :=
  match a, cellsOf x with
  | .ptr (some (b, o)), some new => match H[b]? with
    | some (.cells cs true) =>
      if new.length = sz ∧ 0 < sz ∧ o + sz ≤ cs.length then
        some (.tup [], ⟨H.set b (.cells (setRange cs o new) true), if (new.all fun v => v.under (b + 1)) then e else minEsc e b⟩)
      else none
    | _ => none
  | _, _ => none
theorem aop_store (sz : Nat) (a x : X) : aop C g ⟨H, e⟩ (.store sz a x) = storeV H e sz (g a) (g x) := by
  rw [aop_of_heavy rfl]; rfl

def callV (C : FuncId → List AV → Mem → Option (AV × Mem)) (f : AV) (args : List AV) (m : Mem) : Option (AV × Mem) :=
  match f with
  | .fn f first captured => C f (first ++ args ++ captured) m
  | _ => none
theorem callV_fn (f : FuncId) (first captured args : List AV) : callV C (.fn f first captured) args m = C f (first ++ args ++ captured) m := Eq.trans rfl rfl
theorem aop_call (f : X) (args : List X) : aop C g m (.call f args) = callV C (g f) (args.map g) m := by
  rw [aop_of_heavy rfl]
  rfl

def makeSliceV (H : List Blk) (e : Option Nat) (sz bytes : Nat) (zero : List AV) (len cap : AV) : Option (AV × Mem) :=
  match len, cap with
  | .int .i64 l, .int .i64 c => if 0 ≤ l ∧ l = c ∧ l * bytes ≤ maxBytes then
      some (.slice (some (H.length, 0)) sz l.toNat (some l.toNat), ⟨H ++ [.cells (zeros l.toNat zero) true], e⟩) else none
  | _, _ => none
theorem makeSliceV_int (sz bytes : Nat) (zero : List AV) (l c : Int) : makeSliceV H e sz bytes zero (.int .i64 l) (.int .i64 c) = if 0 ≤ l ∧ l = c ∧ l * bytes ≤ maxBytes then
      some (.slice (some (H.length, 0)) sz l.toNat (some l.toNat), ⟨H ++ [.cells (zeros l.toNat zero) true], e⟩) else none := rfl
theorem aop_makeSlice (sz bytes : Nat) (zero : List AV) (len cap : X) : aop C g ⟨H, e⟩ (.makeSlice sz bytes zero len cap) = makeSliceV H e sz bytes zero (g len) (g cap) := by
  rw [aop_of_heavy rfl]; rfl

def appendV (H : List Blk) (e : Option Nat) (str : Bool) (sz bytes : Nat) (s x : AV) : Option (AV × Mem) :=
  match s with
  | .slice none _ _ _ => match srcCells str H x with
    | some (n, cs) => if n = 0 then some (nilSlice, ⟨H, e⟩)
        else if n * bytes ≤ maxBytes ∧ cs.length = n * sz then some (.slice (some (H.length, 0)) sz n none, ⟨H ++ [.cells cs true], e⟩) else none
    | none => none
  | .slice (some (b, o)) sz' n cap => match H[b]?, srcCells str H x with
    | some (.cells old wr), some (k, cs) =>
      if sz' = sz ∧ (n + k) * bytes ≤ maxBytes ∧ cs.length = k * sz ∧ o + n * sz ≤ old.length then
        if cap = some 0 ∧ 0 < k then some (.slice (some (H.length, 0)) sz (n + k) none, ⟨H ++ [.cells cs true], e⟩)
        else if wr then some (.slice (some (H.length, 0)) sz (n + k) none, ⟨H.set b .dead ++ [.cells ((old.drop o).take (n * sz) ++ cs) true], e⟩)
        else none
      else none
    | _, _ => none
  | _ => none
theorem aop_append (str : Bool) (sz bytes : Nat) (s x : X) : aop C g ⟨H, e⟩ (.append str sz bytes s x) = appendV H e str sz bytes (g s) (g x) := by
  rw [aop_of_heavy rfl]; rfl

theorem binop_add (k : IntKind) (a b : Int) : binop 0 .add (.int k a) (.int k b) = some (.int k (k.wrap (a + b))) := by simp [binop, intOp]
theorem binop_sub (k : IntKind) (a b : Int) : binop 0 .sub (.int k a) (.int k b) = some (.int k (k.wrap (a - b))) := by simp [binop, intOp]
theorem binop_mul (k : IntKind) (a b : Int) : binop 0 .mul (.int k a) (.int k b) = some (.int k (k.wrap (a * b))) := by simp [binop, intOp]
theorem binop_quo (k : IntKind) (a b : Int) : binop 0 .quo (.int k a) (.int k b) = if b = 0 then none else some (.int k (k.wrap (a.tdiv b))) := by simp [binop, intOp]
theorem binop_rem (k : IntKind) (a b : Int) : binop 0 .rem (.int k a) (.int k b) = if b = 0 then none else some (.int k (a.tmod b)) := by simp [binop, intOp]
theorem binop_eql (k : IntKind) (a b : Int) : binop 0 .eql (.int k a) (.int k b) = some (.bool (decide (a = b))) := by simp [binop, intOp]
theorem binop_neq (k : IntKind) (a b : Int) : binop 0 .neq (.int k a) (.int k b) = some (.bool (!decide (a = b))) := by simp [binop, intOp]
theorem binop_lss (k : IntKind) (a b : Int) : binop 0 .lss (.int k a) (.int k b) = some (.bool (decide (a < b))) := by simp [binop, intOp]
theorem binop_leq (k : IntKind) (a b : Int) : binop 0 .leq (.int k a) (.int k b) = some (.bool (decide (a ≤ b))) := by simp [binop, intOp]
theorem binop_gtr (k : IntKind) (a b : Int) : binop 0 .gtr (.int k a) (.int k b) = some (.bool (decide (b < a))) := by simp [binop, intOp]
theorem binop_geq (k : IntKind) (a b : Int) : binop 0 .geq (.int k a) (.int k b) = some (.bool (decide (b ≤ a))) := by simp [binop, intOp]
def shlI (k : IntKind) (a b : Int) : Int := k.wrap (a * 2 ^ (min b.toNat k.bits))
def shrI (k : IntKind) (a b : Int) : Int := a.fdiv (2 ^ (min b.toNat k.bits))
def andI (k : IntKind) (a b : Int) : Int := k.wrap (BitVec.ofInt k.bits a &&& BitVec.ofInt k.bits b).toNat
def orI (k : IntKind) (a b : Int) : Int := k.wrap (BitVec.ofInt k.bits a ||| BitVec.ofInt k.bits b).toNat
def xorI (k : IntKind) (a b : Int) : Int := k.wrap (BitVec.ofInt k.bits a ^^^ BitVec.ofInt k.bits b).toNat
def andNotI (k : IntKind) (a b : Int) : Int := k.wrap (BitVec.ofInt k.bits a &&& ~~~BitVec.ofInt k.bits b).toNat
theorem binop_shl (k k' : IntKind) (a b : Int) : binop 0 .shl (.int k a) (.int k' b) = if b < 0 then none else some (.int k (shlI k a b)) := by simp [binop, intOp, shlI]
theorem binop_shr (k k' : IntKind) (a b : Int) : binop 0 .shr (.int k a) (.int k' b) = if b < 0 then none else some (.int k (shrI k a b)) := by simp [binop, intOp, shrI]
theorem binop_band (k : IntKind) (a b : Int) : binop 0 .and (.int k a) (.int k b) = some (.int k (andI k a b)) := by simp [binop, intOp, andI]
theorem binop_bor (k : IntKind) (a b : Int) : binop 0 .or (.int k a) (.int k b) = some (.int k (orI k a b)) := by simp [binop, intOp, orI]
theorem binop_bxor (k : IntKind) (a b : Int) : binop 0 .xor (.int k a) (.int k b) = some (.int k (xorI k a b)) := by simp [binop, intOp, xorI]
theorem binop_bandnot (k : IntKind) (a b : Int) : binop 0 .andNot (.int k a) (.int k b) = some (.int k (andNotI k a b)) := by simp [binop, intOp, andNotI]
theorem binop_beql (a b : Bool) : binop 2 .eql (.bool a) (.bool b) = some (.bool (a == b)) := Eq.trans rfl rfl
theorem binop_bneq (a b : Bool) : binop 2 .neq (.bool a) (.bool b) = some (.bool (!(a == b))) := Eq.trans rfl rfl
theorem binop_seql (a b : ByteArray) : binop 1 .eql (.str a) (.str b) = some (.bool (decide (a = b))) := Eq.trans rfl rfl
theorem binop_sneq (a b : ByteArray) : binop 1 .neq (.str a) (.str b) = some (.bool (!decide (a = b))) := Eq.trans rfl rfl
theorem unop_neg (k : IntKind) (n : Int) : unop .neg (.int k n) = some (.int k (k.wrap (0 - n))) := Eq.trans rfl rfl
theorem unop_not (b : Bool) : unop .not (.bool b) = some (.bool !b) := Eq.trans rfl rfl

theorem setOuts_nil : setOuts tm loc [] = tm := Eq.trans rfl rfl
theorem setOuts_cons (s j : Nat) (rest : List (Nat × Nat)) : setOuts tm loc ((s, j) :: rest) = setOuts (tm.set s ((loc[j]?).getD .undef)) loc rest := Eq.trans rfl rfl

/-! memory -/
theorem cellsAt_new0 (l : List Blk) : cellsAt (H ++ l) H.length = cellsAt l 0 := by simp [cellsAt, List.getElem?_append_right]
theorem cellsAt_newk (l : List Blk) (k : Nat) : cellsAt (H ++ l) (H.length + k) = cellsAt l k := by simp [cellsAt, List.getElem?_append_right]
theorem cellsAt_cons0 (cs : List AV) (wr : Bool) (l : List Blk) : cellsAt (.cells cs wr :: l) 0 = some cs := Eq.trans rfl rfl
theorem cellsAt_consk (b : Blk) (l : List Blk) (k : Nat) : cellsAt (b :: l) (k + 1) = cellsAt l k := Eq.trans rfl rfl
theorem cellsAt_old {b : Nat} {cs : List AV} (l : List Blk) (h : cellsAt H b = some cs) : cellsAt (H ++ l) b = some cs := by
  unfold cellsAt at *
  cases hb : H[b]? with
  | none => rw [hb] at h; cases h
  | some x =>
    have hlt := (List.getElem?_eq_some_iff.mp hb).1
    rw [List.getElem?_append_left hlt, hb]
    rw [hb] at h
    exact h

def partOf (agg : Bool) (cs : Option (List AV)) (o sz : Nat) : Option AV :=
  match cs with
  | some cs => part agg cs o sz
  | none => none
theorem partOf_some (agg : Bool) (cs : List AV) (o sz : Nat) : partOf agg (some cs) o sz = part agg cs o sz := Eq.trans rfl rfl
theorem loadAt_ptr (agg : Bool) (sz b o : Nat) (L : List Blk) : loadAt L agg sz (.ptr (some (b, o))) = partOf agg (cellsAt L b) o sz := by
  have h : loadAt L agg sz (.ptr (some (b, o))) = match cellsAt L b with
    | none => none
    | some cs => if agg then (if o + sz ≤ cs.length then some (.agg ((cs.drop o).take sz)) else none) else cs[o]? := rfl
  rw [h]
  cases cellsAt L b <;> rfl
theorem part_false (cs : List AV) (o sz : Nat) : part false cs o sz = cs[o]? := Eq.trans rfl rfl
theorem part_true (cs : List AV) (o sz : Nat) : part true cs o sz = if o + sz ≤ cs.length then some (.agg ((cs.drop o).take sz)) else none := Eq.trans rfl rfl
theorem part_f0 (c : AV) (cs : List AV) (sz : Nat) : part false (c :: cs) 0 sz = some c := Eq.trans rfl rfl
theorem part_fk (c : AV) (cs : List AV) (k sz : Nat) : part false (c :: cs) (k + 1) sz = part false cs k sz := Eq.trans rfl rfl
theorem part_t0 (c : AV) (cs : List AV) (sz : Nat) : part true (c :: cs) 0 sz = if sz ≤ cs.length + 1 then some (.agg ((c :: cs).take sz)) else none := by
  rw [part_true]; simp
theorem part_tk (c : AV) (cs : List AV) (k sz : Nat) : part true (c :: cs) (k + 1) sz = part true cs k sz := by
  rw [part_true, part_true]
  have : (k + 1 + sz ≤ (c :: cs).length) ↔ (k + sz ≤ cs.length) := by simp; omega
  simp only [this, List.drop_succ_cons]

theorem cellsOf_agg (cs : List AV) : cellsOf (.agg cs) = some cs := Eq.trans rfl rfl
theorem cellsOf_int (k : IntKind) (n : Int) : cellsOf (.int k n) = some [.int k n] := Eq.trans rfl rfl
theorem cellsOf_bool (b : Bool) : cellsOf (.bool b) = some [.bool b] := Eq.trans rfl rfl
theorem cellsOf_str (s : ByteArray) : cellsOf (.str s) = some [.str s] := Eq.trans rfl rfl
theorem cellsOf_ptr (p : Option (Nat × Nat)) : cellsOf (.ptr p) = some [.ptr p] := Eq.trans rfl rfl
theorem cellsOf_slice (p : Option (Nat × Nat)) (sz n : Nat) (c : Option Nat) : cellsOf (.slice p sz n c) = some [.slice p sz n c] := Eq.trans rfl rfl
theorem cellsOf_fn (f : FuncId) (a b : List AV) : cellsOf (.fn f a b) = some [.fn f a b] := Eq.trans rfl rfl

/-! two ways that meet again -/
theorem merge_normal (c : Prop) [Decidable c] (t t' : List AV) (m : Mem) : (if c then some (Ex.normal, (⟨t, m⟩ : St)) else some (Ex.normal, ⟨t', m⟩)) = some (Ex.normal, ⟨if c then t else t', m⟩) := by split <;> rfl
theorem merge_cons (c : Prop) [Decidable c] (a b : AV) (az bs : List AV) : (if c then a :: az else b :: bs) = (if c then a else b) :: (if c then az else bs) := by split <;> rfl
theorem merge_bool (c : Prop) [Decidable c] (a b : Bool) : (if c then AV.bool a else AV.bool b) = AV.bool (if c then a else b) := by split <;> rfl
theorem merge_int (c : Prop) [Decidable c] (k : IntKind) (a b : Int) : (if c then AV.int k a else AV.int k b) = AV.int k (if c then a else b) := by split <;> rfl

/-! the end of a call -/
theorem finRun_eq (F : AFun) (m : Mem) (st : St) : finRun F m st = match resultList st.tm st.m.H F.results with
  | some vs => finish F.mode m.H.length m.esc (tupled vs) st.m
  | none => none := rfl
theorem resultList_nil (L : List Blk) : resultList tm L [] = some [] := Eq.trans rfl rfl
def consV (a : Option AV) (az : Option (List AV)) : Option (List AV) :=
  match a, az with
  | some v, some vs => some (v :: vs)
  | _, _ => none
theorem consV_some (v : AV) (vs : List AV) : consV (some v) (some vs) = some (v :: vs) := Eq.trans rfl rfl
theorem resultList_tmp (L : List Blk) (s : Nat) (rs : List AR) : resultList tm L (.tmp s :: rs) = consV (some ((tm[s]?).getD .undef)) (resultList tm L rs) := by
  rw [resultList]; cases resultList tm L rs <;> rfl
theorem resultList_cell (L : List Blk) (s : Nat) (agg : Bool) (sz : Nat) (rs : List AR) : resultList tm L (.cell s agg sz :: rs) = consV (loadAt L agg sz ((tm[s]?).getD .undef)) (resultList tm L rs) := by
  rw [resultList]; cases resultList tm L rs <;> simp only [resultOf] <;> cases loadAt L agg sz ((tm[s]?).getD .undef) <;> rfl

def finV (F : AFun) (m : Mem) (vs : Option (List AV)) (m' : Mem) : Option (AV × Mem) :=
  match vs with
  | some vs => finish F.mode m.H.length m.esc (tupled vs) m'
  | none => none
theorem finRun_finV (F : AFun) (m : Mem) (st : St) : finRun F m st = finV F m (resultList st.tm st.m.H F.results) st.m := Eq.trans rfl rfl
theorem finV_some (F : AFun) (m : Mem) (vs : List AV) (m' : Mem) : finV F m (some vs) m' = finish F.mode m.H.length m.esc (tupled vs) m' := Eq.trans rfl rfl
theorem finish_zero (v : AV) (lim : Nat) (e0 e1 : Option Nat) (L : List Blk) : finish 0 lim e0 v ⟨L, e1⟩ = some (v, ⟨L, joinEsc e0 e1⟩) := Eq.trans rfl rfl
theorem finish_one (v : AV) (e0 : Option Nat) (l : List Blk) (h : v.under H.length = true) : finish 1 H.length e0 v ⟨H ++ l, none⟩ = some (v, ⟨H, e0⟩) := by
  simp [finish, h, clean]
theorem finish_one' (v : AV) (e0 : Option Nat) (h : v.under H.length = true) : finish 1 H.length e0 v ⟨H, none⟩ = some (v, ⟨H, e0⟩) := by
  simp [finish, h, clean]
/-- a new block, named by the result -/
theorem finish_two_slice (sz n : Nat) (c : Option Nat) (cs : List AV) (wr : Bool) (e0 : Option Nat) (h : (cs.all fun c => c.under H.length) = true) :
    finish 2 H.length e0 (.slice (some (H.length, 0)) sz n c) ⟨H ++ [.cells cs wr], none⟩ = some (.slice (some (H.length, 0)) sz n c, ⟨H ++ [.cells cs wr], e0⟩) := by
  have hr : dedup (AV.roots H.length (.slice (some (H.length, 0)) sz n c)) = [H.length] := by simp [AV.roots, dedup]
  unfold finish
  simp only [hr]
  have h2 : ([H.length].all fun b => flatBlk H.length (H ++ [Blk.cells cs wr])[b]?) = true := by
    simp [flatBlk, List.getElem?_append_right]
    simpa using h
  simp only [clean, h2, and_self, if_true]
  simp [AV.rename, renum, List.getElem?_append_right]
theorem finish_two_at {G : List Blk} {j sz n o : Nat} {c : Option Nat} {cs : List AV} {wr : Bool} (e0 : Option Nat) (hG : G[j]? = some (.cells cs wr)) (h : (cs.all fun c => c.under H.length) = true) :
    finish 2 H.length e0 (.slice (some (H.length + j, o)) sz n c) ⟨H ++ G, none⟩ = some (.slice (some (H.length, o)) sz n c, ⟨H ++ [.cells cs wr], e0⟩) := by
  have hlt : ¬ H.length + j < H.length := by omega
  have hr : dedup (AV.roots H.length (.slice (some (H.length + j, o)) sz n c)) = [H.length + j] := by
    unfold AV.roots
    rw [if_neg hlt]
    rfl
  have hb : (H ++ G)[H.length + j]? = some (.cells cs wr) := by rw [List.getElem?_append_right (by omega)]; simpa using hG
  unfold finish
  simp only [hr]
  have h2 : ([H.length + j].all fun b => flatBlk H.length (H ++ G)[b]?) = true := by
    simp only [List.all_cons, List.all_nil, Bool.and_true, hb, flatBlk]
    exact h
  simp only [clean, h2, and_self, if_true]
  simp [AV.rename, renum, hb, hlt]
theorem tupled_one (v : AV) : tupled [v] = v := Eq.trans rfl rfl
theorem tupled_nil : tupled [] = .tup [] := Eq.trans rfl rfl
theorem tupled_two (a b : AV) (vs : List AV) : tupled (a :: b :: vs) = .tup (a :: b :: vs) := Eq.trans rfl rfl
theorem under_int (n : Nat) (k : IntKind) (x : Int) : (AV.int k x).under n = true := by simp [AV.under]
theorem under_bool (n : Nat) (x : Bool) : (AV.bool x).under n = true := by simp [AV.under]
theorem under_str (n : Nat) (x : ByteArray) : (AV.str x).under n = true := by simp [AV.under]
theorem under_agg (n : Nat) (x : List AV) : (AV.agg x).under n = AV.under.go n x := by simp [AV.under]
theorem under_tup (n : Nat) (x : List AV) : (AV.tup x).under n = AV.under.go n x := by simp [AV.under]
theorem under_cons (n : Nat) (a : AV) (x : List AV) : AV.under.go n (a :: x) = (a.under n && AV.under.go n x) := Eq.trans rfl rfl
theorem under_nil (n : Nat) : AV.under.go n [] = true := Eq.trans rfl rfl

theorem blkAt_new0 (l : List Blk) : (H ++ l)[H.length]? = l[0]? := by simp [List.getElem?_append_right]
theorem blkAt_newk (l : List Blk) (k : Nat) : (H ++ l)[H.length + k]? = l[k]? := by simp [List.getElem?_append_right]
theorem set_new0 (l : List Blk) (b : Blk) : (H ++ l).set H.length b = H ++ l.set 0 b := by simp [List.set_append_right]
theorem set_newk (l : List Blk) (b : Blk) (k : Nat) : (H ++ l).set (H.length + k) b = H ++ l.set k b := by simp [List.set_append_right]

/-- a store whose block and cells are told -/
def storeAt (H : List Blk) (e : Option Nat) (b : Nat) (blk : Option Blk) (sz o : Nat) (new : Option (List AV)) : Option (AV × Mem) :=
  match new, blk with
  | some new, some (Blk.cells cs true) => if new.length = sz ∧ 0 < sz ∧ o + sz ≤ cs.length then
        some (.tup [], ⟨H.set b (.cells (setRange cs o new) true), if (new.all fun v => v.under (b + 1)) then e else minEsc e b⟩) else none
  | _, _ => none
theorem storeV_ptr (L : List Blk) (sz b o : Nat) (x : AV) : storeV L e sz (.ptr (some (b, o))) x = storeAt L e b L[b]? sz o (cellsOf x) := by
  unfold storeV storeAt
  cases cellsOf x with
  | none => rfl
  | some new =>
    simp only []
    cases L[b]? with
    | none => rfl
    | some B => cases B with
      | dead => rfl
      | cells cs wr => cases wr <;> rfl
theorem storeAt_cells (L : List Blk) (b : Nat) (cs new : List AV) (sz o : Nat) : storeAt L e b (some (.cells cs true)) sz o (some new) =
    if new.length = sz ∧ 0 < sz ∧ o + sz ≤ cs.length then some (.tup [], ⟨L.set b (.cells (setRange cs o new) true), if (new.all fun v => v.under (b + 1)) then e else minEsc e b⟩) else none := Eq.trans rfl rfl
theorem setRange_0 (c : AV) (cs : List AV) (x : AV) (xs : List AV) : setRange (c :: cs) 0 (x :: xs) = x :: setRange cs 0 xs := by simp [setRange]
theorem setRange_k (c : AV) (cs : List AV) (k : Nat) (xs : List AV) : setRange (c :: cs) (k + 1) xs = c :: setRange cs k xs := by
  simp [setRange, Nat.add_right_comm]
theorem setRange_nil (cs : List AV) : setRange cs 0 [] = cs := by simp [setRange]
theorem all_cons (p : AV → Bool) (c : AV) (cs : List AV) : (c :: cs).all p = (p c && cs.all p) := rfl
theorem all_nil (p : AV → Bool) : ([] : List AV).all p = true := Eq.trans rfl rfl

theorem wrap64 {x : Int} (h1 : -9223372036854775808 ≤ x) (h2 : x ≤ 9223372036854775807) : IntKind.i64.wrap x = x := by
  have : IntKind.i64.wrap x = x := by
    unfold IntKind.wrap
    simp [IntKind.signed, IntKind.bits]
    omega
  exact this
end
attribute [go_sem] Nat.mul_one
attribute [go_sem] run_seq run_cond run_block run_region run_draw run_skip run_exit run_ret thenRun_normal thenRun_ret thenRun_exit thenRun_none thenRun_ite inBlock_normal inBlock_ret inBlock_exit inBlock_none inBlock_ite condOf_bool pickRun_some outRun_some outRun_none outRun_ite endCall_normal endCall_ret endCall_exit endCall_none endCall_ite aops_nil aops_cons aops_guard opThen_some opThen_none opThen_ite guardP_true guardP_false guardP_some guardP_ite guardThen_some guardThen_ite guardOf_true guardOf_false guardOf_tup dops_nil dops_cons dops_again dops_guard dops_guard_again toldAnew_nil toldAnew_cons toldAnew_guard memop_load get_t get_l get_c valOf_some valOf_none valOf_ite aop_mv aop_bin pickV_bool aop_pick aop_un aop_makeFunc convV_int aop_conv eqCellsV_agg aop_eqCells fieldAddrV_ptr aop_fieldAddr fieldV_agg aop_field indexAddrSV_slice aop_indexAddrS indexAddrAV_ptr aop_indexAddrA indexAV_agg aop_indexA indexSV_str aop_indexS extractV_tup aop_extract lenV_slice aop_len lenStrV_str aop_lenStr aop_lenA max2V_int aop_max2 min2V_int aop_min2 aop_build aop_load aop_alloc boxV_some aop_box buildSliceV_some aop_buildSlice aop_store callV_fn aop_call makeSliceV_int aop_makeSlice aop_append binop_add binop_sub binop_mul binop_quo binop_rem binop_eql binop_neq binop_lss binop_leq binop_gtr binop_geq binop_shl binop_shr binop_band binop_bor binop_bxor binop_bandnot binop_beql binop_bneq binop_seql binop_sneq unop_neg unop_not setOuts_nil setOuts_cons cellsAt_new0 cellsAt_newk cellsAt_cons0 cellsAt_consk partOf_some loadAt_ptr part_f0 part_fk part_t0 part_tk blkAt_new0 blkAt_newk set_new0 set_newk storeV_ptr storeAt_cells setRange_0 setRange_k setRange_nil all_cons all_nil cellsOf_agg cellsOf_int cellsOf_bool cellsOf_str cellsOf_ptr cellsOf_slice cellsOf_fn merge_normal merge_cons merge_bool merge_int resultList_nil consV_some resultList_tmp resultList_cell finRun_finV finV_some finish_zero finish_one finish_one' finish_two_slice tupled_one tupled_nil tupled_two under_int under_bool under_str under_agg under_tup under_cons under_nil List.map_cons List.map_nil List.getElem?_cons_zero List.getElem?_cons_succ List.getElem?_nil Option.getD_some Option.getD_none List.nil_append List.cons_append List.append_nil List.append_assoc List.set_cons_zero List.set_cons_succ List.length_cons List.length_nil List.length_append Nat.zero_add Nat.add_zero List.take_succ_cons List.take_zero List.drop_succ_cons List.drop_zero if_true if_false Bool.not_true Bool.not_false Bool.true_eq_false Bool.false_and Bool.and_false Bool.or_true Bool.or_false Bool.true_or Bool.false_or Nat.lt_add_one Nat.succ_pos Bool.if_false_right Bool.if_true_left Bool.if_true_right Bool.if_false_left Bool.decide_eq_true Int.toNat_natCast Int.natCast_nonneg Int.ofNat_lt ite_self Bool.true_and Bool.and_true Bool.false_eq_true Bool.not_eq_true' decide_eq_true_eq true_and and_true Option.map_some Option.map_none

end Go.Proofs.Ytaikmfldjkbmmaa.Slim

/- Rows of loads: how they lie in memory, and the laws' own small functions. -/
namespace Go.Proofs.Ytaikmfldjkbmmaa.Slim
open Go
set_option linter.unusedSimpArgs false
set_option linter.unusedVariables false

/-- a load: its place and its weight -/
abbrev Ld := Int × Int
def encL : List Ld → List AV
  | [] => []
  | l :: ls => .int .i64 l.1 :: .int .i64 l.2 :: encL ls

theorem encL_length : ∀ ls : List Ld, (encL ls).length = ls.length * 2
  | [] => rfl
  | l :: ls => by simp [encL, encL_length ls]; omega

theorem encL_append : ∀ a b : List Ld, encL (a ++ b) = encL a ++ encL b
  | [], b => rfl
  | l :: a, b => by simp [encL, encL_append a b]

theorem part_encL {ls : List Ld} {i : Nat} {l : Ld} (h : ls[i]? = some l) : part true (encL ls) (i * 2) 2 = some (.agg [.int .i64 l.1, .int .i64 l.2]) := by
  induction ls generalizing i with
  | nil => simp at h
  | cons a ls ih =>
    cases i with
    | zero => simp at h; subst h; simp [encL, part]
    | succ i =>
      simp at h
      rw [show (i + 1) * 2 = i * 2 + 1 + 1 by omega, encL, part_tk, part_tk]
      exact ih h
theorem part_encL0 {ls : List Ld} {i : Nat} {l : Ld} (sz : Nat) (h : ls[i]? = some l) : part false (encL ls) (i * 2) sz = some (.int .i64 l.1) := by
  induction ls generalizing i with
  | nil => simp at h
  | cons a ls ih =>
    cases i with
    | zero => simp at h; subst h; simp [encL, part]
    | succ i =>
      simp at h
      rw [show (i + 1) * 2 = i * 2 + 1 + 1 by omega, encL, part_fk, part_fk]
      exact ih h
theorem part_encL1 {ls : List Ld} {i : Nat} {l : Ld} (sz : Nat) (h : ls[i]? = some l) : part false (encL ls) (i * 2 + 1) sz = some (.int .i64 l.2) := by
  induction ls generalizing i with
  | nil => simp at h
  | cons a ls ih =>
    cases i with
    | zero => simp at h; subst h; simp [encL, part]
    | succ i =>
      simp at h
      rw [show (i + 1) * 2 + 1 = i * 2 + 1 + 1 + 1 by omega, encL, part_fk, part_fk]
      exact ih h

/-- a slice of loads, wherever it lies -/
abbrev slL (b n : Nat) (c : Option Nat) : AV := .slice (some (b, 0)) 2 n c

theorem cells_mono {H : List Blk} {b : Nat} {cs : List AV} (h : cellsAt H b = some cs) (G : List Blk) : cellsAt (H ++ G) b = some cs := cellsAt_old G h

theorem wrap_succ {i : Nat} (h : i < 9223372036854775807) : IntKind.i64.wrap ((i : Int) + 1) = ((i + 1 : Nat) : Int) := by
  rw [wrap64 (by omega) (by omega)]; omega

variable {pr : Prims} {H : List Blk} {e : Option Nat}

theorem e_l_toBeam (x a b : Int) : call T pr f_l_toBeam [.agg [.int .i64 x, .int .i64 a, .int .i64 b]] ⟨H, e⟩ = some (.agg [.int .i64 x, .int .i64 a, .int .i64 b], ⟨H, e⟩) := by
  rw [call_eq t_l_toBeam]
  simp +contextual only [a_l_toBeam, c_l_toBeam, go_sem, entry, joinEsc, if_pos, reduceIte, Nat.reduceAdd, Nat.reduceLeDiff, Nat.reduceLT, Nat.reduceEqDiff]

theorem e_l_toLoad (x a : Int) : call T pr f_l_toLoad [.agg [.int .i64 x, .int .i64 a]] ⟨H, e⟩ = some (.agg [.int .i64 x, .int .i64 a], ⟨H, e⟩) := by
  rw [call_eq t_l_toLoad]
  simp +contextual only [a_l_toLoad, c_l_toLoad, go_sem, entry, joinEsc, if_pos, reduceIte, Nat.reduceAdd, Nat.reduceLeDiff, Nat.reduceLT, Nat.reduceEqDiff]

theorem e_l_eqLoad (x a y b : Int) : call T pr f_l_eqLoad [.agg [.int .i64 x, .int .i64 a], .agg [.int .i64 y, .int .i64 b]] ⟨H, e⟩ = some (.bool (decide (x = y) && decide (a = b)), ⟨H, e⟩) := by
  rw [call_eq t_l_eqLoad]
  simp +contextual only [a_l_eqLoad, c_l_eqLoad, go_sem, entry, joinEsc, if_pos, reduceIte, Nat.reduceAdd, Nat.reduceLeDiff, Nat.reduceLT, Nat.reduceEqDiff]
  by_cases h1 : x = y <;> by_cases h2 : a = b <;> simp [h1, h2]

theorem e_l_szLoadS (n : Nat) (p : Option (Nat × Nat)) (sz : Nat) (c : Option Nat) (hn : n ≤ maxLen) : call T pr f_l_szLoadS [.slice p sz n c, .int .i64 1048576] ⟨H, e⟩ = some (.int .i64 (if n ≤ 1048576 then 1048576 - n else -1), ⟨H, e⟩) := by
  rw [call_eq t_l_szLoadS]
  have hm : maxLen = 9223372036854775807 := by decide
  simp +contextual only [a_l_szLoadS, c_l_szLoadS, go_sem, entry, joinEsc, if_pos, reduceIte, Nat.reduceAdd, Nat.reduceLeDiff, Nat.reduceLT, Nat.reduceEqDiff]
  rw [wrap64 (by omega) (by omega)]
  by_cases h1 : n ≤ 1048576
  · rw [if_neg (by omega), if_pos h1]
  · rw [if_pos (by omega), if_neg h1]

/-- the loop of eqLoadS -/
theorem loop_l_eqLoadS {b1 b2 : Nat} {c1 c2 : Option Nat} {ls : List Ld} (h1 : cellsAt H b1 = some (encL ls)) (h2 : cellsAt H b2 = some (encL ls)) (hn : ls.length ≤ 9223372036854775806) :
    ∀ (k i : Nat) (x5 x6 x7 : AV), k + i = ls.length → ∃ y5 y6, run T pr (.loop w_l_eqLoadS_1) ⟨[slL b1 ls.length c1, slL b2 ls.length c2, .bool false, .int .i64 i, x7, x5, x6], ⟨H, e⟩⟩ =
      some (.exit 0, ⟨[slL b1 ls.length c1, slL b2 ls.length c2, .bool false, .int .i64 ls.length, x7, y5, y6], ⟨H, e⟩⟩)
  | 0, i, x5, x6, x7, hk => by
    have hi : i = ls.length := by omega
    subst hi
    refine ⟨.bool false, x6, ?_⟩
    rw [run_loop]
    simp +contextual only [w_l_eqLoadS_1, Nat.lt_irrefl, decide_false, go_sem, entry, joinEsc, if_pos, reduceIte, Nat.reduceAdd, Nat.reduceLeDiff, Nat.reduceLT, Nat.reduceEqDiff]
  | k + 1, i, x5, x6, x7, hk => by
    have hi : i < ls.length := by omega
    obtain ⟨y5, y6, ih⟩ := loop_l_eqLoadS (c1 := c1) (c2 := c2) h1 h2 hn k (i + 1) (.bool true) (.bool false) x7 (by omega)
    refine ⟨y5, y6, ?_⟩
    rw [run_loop]
    have hl : ls[i]? = some ls[i] := List.getElem?_eq_getElem hi
    simp +contextual only [w_l_eqLoadS_1, h1, h2, hi, hl, part_encL hl, e_l_eqLoad, wrap_succ (show i < 9223372036854775807 by omega), decide_true, Bool.not_true, go_sem, entry, joinEsc, if_pos, reduceIte, Nat.reduceAdd, Nat.reduceLeDiff, Nat.reduceLT, Nat.reduceEqDiff]
    exact ih

end Go.Proofs.Ytaikmfldjkbmmaa.Slim

/- The reference's and the program's small functions on rows. -/
namespace Go.Proofs.Ytaikmfldjkbmmaa.Slim
open Go
set_option linter.unusedSimpArgs false
set_option linter.unusedVariables false

variable {pr : Prims} {H : List Blk} {e : Option Nat}

theorem e_i_within (x a b : Int) : call T pr f_i_within [.int .i64 x, .int .i64 a, .int .i64 b] ⟨H, e⟩ = some (.bool (decide (a ≤ x) && decide (x ≤ b)), ⟨H, e⟩) := by
  rw [call_eq t_i_within]
  simp +contextual only [a_i_within, c_i_within, go_sem, entry, joinEsc, if_pos, reduceIte, Nat.reduceAdd, Nat.reduceLeDiff, Nat.reduceLT, Nat.reduceEqDiff]

theorem e_s_l1In (x a b : Int) : call T pr f_s_l1In [.int .i64 x, .int .i64 a, .int .i64 b] ⟨H, e⟩ = some (.bool (decide (a ≤ x) && decide (x ≤ b)), ⟨H, e⟩) := by
  rw [call_eq t_s_l1In]
  simp +contextual only [a_s_l1In, c_s_l1In, go_sem, entry, joinEsc, if_pos, reduceIte, Nat.reduceAdd, Nat.reduceLeDiff, Nat.reduceLT, Nat.reduceEqDiff]

theorem e_s_l2In (x : Int) : call T pr f_s_l2In [.int .i64 x] ⟨H, e⟩ = some (.bool (decide (0 ≤ x) && decide (x ≤ 60)), ⟨H, e⟩) := by
  rw [call_eq t_s_l2In]
  simp +contextual only [a_s_l2In, c_s_l2In, e_s_l1In, go_sem, entry, joinEsc, if_pos, reduceIte, Nat.reduceAdd, Nat.reduceLeDiff, Nat.reduceLT, Nat.reduceEqDiff]

theorem e_i_isPlace (x : Int) : call T pr f_i_isPlace [.int .i64 x] ⟨H, e⟩ = some (.bool (decide (0 ≤ x) && decide (x ≤ 60)), ⟨H, e⟩) := by
  rw [call_eq t_i_isPlace]
  simp +contextual only [a_i_isPlace, c_i_isPlace, e_i_within, go_sem, entry, joinEsc, if_pos, reduceIte, Nat.reduceAdd, Nat.reduceLeDiff, Nat.reduceLT, Nat.reduceEqDiff]

theorem e_i_isWeight (x : Int) : call T pr f_i_isWeight [.int .i64 x] ⟨H, e⟩ = some (.bool (decide (1 ≤ x) && decide (x ≤ 99)), ⟨H, e⟩) := by
  rw [call_eq t_i_isWeight]
  simp +contextual only [a_i_isWeight, c_i_isWeight, e_i_within, go_sem, entry, joinEsc, if_pos, reduceIte, Nat.reduceAdd, Nat.reduceLeDiff, Nat.reduceLT, Nat.reduceEqDiff]

def okL (l : Ld) : Bool := (decide (0 ≤ l.1) && decide (l.1 ≤ 60)) && (decide (1 ≤ l.2) && decide (l.2 ≤ 99))
def rowOk (ls : List Ld) : Bool := decide (ls.length ≤ 12) && ls.all okL

theorem e_i_IsRow_1 (x y : Int) : call T pr f_i_IsRow_1 [.agg [.int .i64 x, .int .i64 y]] ⟨H, e⟩ = some (.bool (!okL (x, y)), ⟨H, e⟩) := by
  rw [call_eq t_i_IsRow_1]
  simp +contextual only [a_i_IsRow_1, c_i_IsRow_1, e_i_isPlace, e_i_isWeight, go_sem, entry, joinEsc, if_pos, reduceIte, Nat.reduceAdd, Nat.reduceLeDiff, Nat.reduceLT, Nat.reduceEqDiff]
  unfold okL
  by_cases h1 : (decide (0 ≤ x) && decide (x ≤ 60)) = true <;> simp [h1, finish_one, finish_one', under_bool]

/-- the loop of l2Row -/
theorem loop_s_l2Row {b : Nat} {c : Option Nat} {ls : List Ld} (h : cellsAt H b = some (encL ls)) :
    ∀ (k i : Nat) (y3 y4 : AV), k + i = 13 → ∃ z2 z3 z4, run T pr (.loop w_s_l2Row_1) ⟨[slL b ls.length c, .bool false, .int .i64 i, y3, y4], ⟨H, e⟩⟩ =
      some (if ((ls.drop i).take k).all okL = true then Ex.exit 0 else Ex.ret, ⟨[slL b ls.length c, .bool false, z2, z3, z4], ⟨H, e⟩⟩)
  | 0, i, y3, y4, hk => by
    have hi : i = 13 := by omega
    subst hi
    refine ⟨.int .i64 13, .bool false, y4, ?_⟩
    rw [run_loop]
    generalize run T pr (.loop w_s_l2Row_1) = R
    have h12 : ¬ ((13 : Nat) : Int) ≤ 12 := by omega
    simp +contextual only [w_s_l2Row_1, List.take_zero, List.all_nil, h12, decide_false, go_sem, entry, joinEsc, if_pos, reduceIte, Nat.reduceAdd, Nat.reduceLeDiff, Nat.reduceLT, Nat.reduceEqDiff]
    rfl
  | k + 1, i, y3, y4, hk => by
    by_cases hi : i < ls.length
    · have hl : ls[i]? = some ls[i] := List.getElem?_eq_getElem hi
      have h12 : ((i : Nat) : Int) ≤ 12 := by omega
      obtain ⟨z2, z3, z4, ih⟩ := loop_s_l2Row (c := c) h k (i + 1) (.bool true) (.bool false) (by omega)
      rw [List.drop_eq_getElem_cons hi, List.take_succ_cons, List.all_cons]
      have hok : okL ls[i] = ((decide (0 ≤ ls[i].1) && decide (ls[i].1 ≤ 60)) && (decide (1 ≤ ls[i].2) && decide (ls[i].2 ≤ 99))) := rfl
      rw [hok, run_loop]
      generalize run T pr (.loop w_s_l2Row_1) = R at ih ⊢
      cases h1 : (decide (0 ≤ ls[i].1) && decide (ls[i].1 ≤ 60)) with
      | false =>
        refine ⟨.int .i64 i, .bool true, .bool true, ?_⟩
        simp +contextual only [w_s_l2Row_1, h, hi, hl, h1, h12, part_encL0 _ hl, part_encL1 _ hl, e_s_l2In, e_s_l1In, decide_true, go_sem, entry, joinEsc, if_pos, reduceIte, Nat.reduceAdd, Nat.reduceLeDiff, Nat.reduceLT, Nat.reduceEqDiff]
      | true =>
        cases h2 : (decide (1 ≤ ls[i].2) && decide (ls[i].2 ≤ 99)) with
        | false =>
          refine ⟨.int .i64 i, .bool true, .bool true, ?_⟩
          simp +contextual only [w_s_l2Row_1, h, hi, hl, h1, h2, h12, part_encL0 _ hl, part_encL1 _ hl, e_s_l2In, e_s_l1In, decide_true, go_sem, entry, joinEsc, if_pos, reduceIte, Nat.reduceAdd, Nat.reduceLeDiff, Nat.reduceLT, Nat.reduceEqDiff]
        | true =>
          refine ⟨z2, z3, z4, ?_⟩
          simp +contextual only [w_s_l2Row_1, h, hi, hl, h1, h2, h12, part_encL0 _ hl, part_encL1 _ hl, e_s_l2In, e_s_l1In, wrap_succ (show i < 9223372036854775807 by omega), decide_true, go_sem, entry, joinEsc, if_pos, reduceIte, Nat.reduceAdd, Nat.reduceLeDiff, Nat.reduceLT, Nat.reduceEqDiff]
          exact ih
    · refine ⟨.int .i64 i, .bool false, y4, ?_⟩
      rw [run_loop]
      generalize run T pr (.loop w_s_l2Row_1) = R
      have hd : ls.drop i = [] := List.drop_eq_nil_of_le (by omega)
      simp +contextual only [w_s_l2Row_1, hd, List.take_nil, List.all_nil, hi, decide_false, go_sem, entry, joinEsc, if_pos, reduceIte, Nat.reduceAdd, Nat.reduceLeDiff, Nat.reduceLT, Nat.reduceEqDiff]

theorem e_s_l2Row {b : Nat} {c : Option Nat} {ls : List Ld} (h : cellsAt H b = some (encL ls)) : call T pr f_s_l2Row [slL b ls.length c] ⟨H, e⟩ = some (.bool (rowOk ls), ⟨H, e⟩) := by
  obtain ⟨z2, z3, z4, hl⟩ := loop_s_l2Row (pr := pr) (e := none) (c := c) h 13 0 .undef .undef rfl
  rw [call_eq t_s_l2Row]
  have h0 : ((0 : Nat) : Int) = 0 := rfl
  rw [h0] at hl
  simp +contextual only [a_s_l2Row, c_s_l2Row, hl, List.drop_zero, go_sem, entry, joinEsc, if_pos, reduceIte, Nat.reduceAdd, Nat.reduceLeDiff, Nat.reduceLT, Nat.reduceEqDiff]
  have hr : rowOk ls = (decide (ls.length ≤ 12) && (ls.take 13).all okL) := by
    unfold rowOk
    by_cases h12 : ls.length ≤ 12
    · rw [List.take_of_length_le (by omega)]
    · simp [h12]
  rw [hr]
  have hi : ((ls.length : Nat) : Int) ≤ 12 ↔ ls.length ≤ 12 := by omega
  cases h3 : (ls.take 13).all okL <;> simp +contextual only [hi, go_sem, entry, joinEsc, if_pos, reduceIte, Nat.reduceAdd, Nat.reduceLeDiff, Nat.reduceLT, Nat.reduceEqDiff] <;> simp [finish_one']

end Go.Proofs.Ytaikmfldjkbmmaa.Slim

/- Copies of rows, searches in rows, and moments. -/
namespace Go.Proofs.Ytaikmfldjkbmmaa.Slim
open Go
set_option linter.unusedSimpArgs false
set_option linter.unusedVariables false

variable {pr : Prims} {H : List Blk} {e : Option Nat}

theorem setRange_encL {X : List Ld} {i : Nat} {a b : Int} (h : i < X.length) : setRange (encL X) (i * 2) [.int .i64 a, .int .i64 b] = encL (X.set i (a, b)) := by
  induction X generalizing i with
  | nil => simp at h
  | cons x X ih =>
    cases i with
    | zero => simp [encL, setRange]
    | succ i =>
      rw [show (i + 1) * 2 = i * 2 + 1 + 1 by omega, encL, setRange_k, setRange_k, ih (by simpa using h)]
      rfl

theorem under_encL (n : Nat) : ∀ ls : List Ld, ((encL ls).all fun c => c.under n) = true
  | [] => rfl
  | l :: ls => by simp [encL, AV.under, under_encL n ls]

theorem zeros_encL : ∀ n, zeros n [.int .i64 0, .int .i64 0] = encL (List.replicate n (0, 0))
  | 0 => rfl
  | n + 1 => by
    have := zeros_encL n
    unfold zeros at *
    simp only [List.replicate_succ, List.flatten_cons, encL, List.cons_append, List.nil_append, this]

theorem take_set_succ {X ls : List Ld} {i : Nat} (hi : i < ls.length) (hX : X.length = ls.length) (h : X.take i = ls.take i) : (X.set i ls[i]).take (i + 1) = ls.take (i + 1) := by
  rw [List.take_succ_eq_append_getElem (by rw [List.length_set]; omega), List.take_succ_eq_append_getElem hi]
  rw [List.take_set_of_le (Nat.le_refl _), h]
  simp

/-- a slice of loads, as a law is handed it: nil or not -/
def ArgL (H : List Blk) (av : AV) (ls : List Ld) : Prop :=
  ∃ p sz c, av = .slice p sz ls.length c ∧ ls.length ≤ maxLen ∧ (ls ≠ [] → sz = 2 ∧ ∃ b, p = some (b, 0) ∧ cellsAt H b = some (encL ls))

/-- the loop of toLoadS -/
theorem loop_l_toLoadS {p : Option (Nat × Nat)} {sz : Nat} {c : Option Nat} {ls : List Ld} {r : AV} (ha : ls ≠ [] → sz = 2 ∧ ∃ b, p = some (b, 0) ∧ cellsAt H b = some (encL ls)) (hn : ls.length ≤ 1048576) :
    ∀ (k i : Nat) (X : List Ld) (y4 : AV), k + i = ls.length → X.length = ls.length → X.take i = ls.take i → ∃ z4, run T pr (.loop w_l_toLoadS_1) ⟨[.slice p sz ls.length c, r, slL H.length ls.length (some ls.length), .int .i64 i, y4], ⟨H ++ [.cells (encL X) true], e⟩⟩ =
      some (Ex.exit 0, ⟨[.slice p sz ls.length c, r, slL H.length ls.length (some ls.length), .int .i64 ls.length, z4], ⟨H ++ [.cells (encL ls) true], e⟩⟩)
  | 0, i, X, y4, hk, hX, ht => by
    have hi : i = ls.length := by omega
    subst hi
    rw [List.take_of_length_le (by omega), List.take_of_length_le (by omega)] at ht
    subst ht
    refine ⟨.bool false, ?_⟩
    rw [run_loop]
    generalize run T pr (.loop w_l_toLoadS_1) = R
    simp +contextual only [w_l_toLoadS_1, Nat.lt_irrefl, decide_false, go_sem, entry, joinEsc, if_pos, reduceIte, Nat.reduceAdd, Nat.reduceLeDiff, Nat.reduceLT, Nat.reduceEqDiff]
  | k + 1, i, X, y4, hk, hX, ht => by
    have hi : i < ls.length := by omega
    have hl : ls[i]? = some ls[i] := List.getElem?_eq_getElem hi
    obtain ⟨rfl, b, rfl, hb⟩ := ha (by intro h; subst h; simp at hi)
    obtain ⟨z4, ih⟩ := loop_l_toLoadS (c := c) (r := r) ha hn k (i + 1) (X.set i ls[i]) (.bool true) (by omega) (by simpa using hX) (take_set_succ hi hX ht)
    refine ⟨z4, ?_⟩
    rw [run_loop]
    generalize run T pr (.loop w_l_toLoadS_1) = R at ih ⊢
    have hle : i * 2 + 2 ≤ (encL X).length := by rw [encL_length]; omega
    simp +contextual only [w_l_toLoadS_1, cells_mono hb, hi, hl, part_encL hl, e_l_toLoad, hle, setRange_encL (show i < X.length by omega), wrap_succ (show i < 9223372036854775807 by omega), decide_true, go_sem, entry, joinEsc, if_pos, reduceIte, Nat.reduceAdd, Nat.reduceLeDiff, Nat.reduceLT, Nat.reduceEqDiff]
    exact ih

theorem e_l_toLoadS {av : AV} {ls : List Ld} (ha : ArgL H av ls) (hn : ls.length ≤ 1048576) : call T pr f_l_toLoadS [av] ⟨H, e⟩ = some (slL H.length ls.length (some ls.length), ⟨H ++ [.cells (encL ls) true], e⟩) := by
  obtain ⟨p, sz, c, rfl, _, ha⟩ := ha
  obtain ⟨z4, hl⟩ := loop_l_toLoadS (pr := pr) (e := none) (c := c) (r := .slice none 0 0 none) ha hn ls.length 0 (List.replicate ls.length (0, 0)) .undef (by omega) (by simp) (by simp)
  rw [call_eq t_l_toLoadS]
  have h0 : ((0 : Nat) : Int) = 0 := rfl
  have hmb : (ls.length : Int) * ((16 : Nat) : Int) ≤ ((maxBytes : Nat) : Int) := by unfold maxBytes; omega
  rw [h0, ← zeros_encL] at hl
  simp +contextual only [a_l_toLoadS, c_l_toLoadS, hmb, hl, under_encL, go_sem, entry, joinEsc, if_pos, reduceIte, Nat.reduceAdd, Nat.reduceLeDiff, Nat.reduceLT, Nat.reduceEqDiff]

end Go.Proofs.Ytaikmfldjkbmmaa.Slim

/- Searches in rows, and moments. -/
namespace Go.Proofs.Ytaikmfldjkbmmaa.Slim
open Go
set_option linter.unusedSimpArgs false
set_option linter.unusedVariables false

variable {pr : Prims} {H : List Blk} {e : Option Nat}

abbrev ldV (l : Ld) : AV := .agg [.int .i64 l.1, .int .i64 l.2]

/-- the loop of IndexFunc -/
theorem loop_IndexFunc {b : Nat} {c : Option Nat} {ls : List Ld} {g : FuncId} {first cap : List AV} {p : Ld → Bool} {r : AV} (h : cellsAt H b = some (encL ls)) (hn : ls.length ≤ 9223372036854775806)
    (hf : ∀ l ∈ ls, call T pr g (first ++ AV.agg [.int .i64 l.1, .int .i64 l.2] :: cap) ⟨H, e⟩ = some (.bool (p l), ⟨H, e⟩)) :
    ∀ (k i : Nat) (y3 y6 y7 : AV), k + i = ls.length → ∃ (j : Nat) (z3 z5 z6 z7 : AV), run T pr (.loop w_slices_IndexFunc_Si_Load_i_Load_1) ⟨[slL b ls.length c, .fn g first cap, r, y3, .int .i64 ls.length, .int .i64 i, y6, y7], ⟨H, e⟩⟩ =
      some (if (ls.drop i).any p = true then Ex.ret else Ex.exit 0, ⟨[slL b ls.length c, .fn g first cap, if (ls.drop i).any p = true then .int .i64 j else r, z3, .int .i64 ls.length, z5, z6, z7], ⟨H, e⟩⟩)
  | 0, i, y3, y6, y7, hk => by
    have hi : i = ls.length := by omega
    subst hi
    refine ⟨0, y3, .int .i64 ls.length, .bool false, y7, ?_⟩
    rw [run_loop]
    generalize run T pr (.loop w_slices_IndexFunc_Si_Load_i_Load_1) = R
    simp +contextual only [w_slices_IndexFunc_Si_Load_i_Load_1, Nat.lt_irrefl, decide_false, List.drop_length, List.any_nil, go_sem, entry, joinEsc, if_pos, reduceIte, Nat.reduceAdd, Nat.reduceLeDiff, Nat.reduceLT, Nat.reduceEqDiff]
  | k + 1, i, y3, y6, y7, hk => by
    have hi : i < ls.length := by omega
    have hl : ls[i]? = some ls[i] := List.getElem?_eq_getElem hi
    have hc := hf ls[i] (List.getElem_mem hi)
    rw [run_loop, List.drop_eq_getElem_cons hi, List.any_cons]
    obtain ⟨j, z3, z5, z6, z7, ih⟩ := loop_IndexFunc (c := c) (r := r) h hn hf k (i + 1) (.int .i64 i) (.bool true) (.bool false) (by omega)
    generalize run T pr (.loop w_slices_IndexFunc_Si_Load_i_Load_1) = R at ih ⊢
    cases hp : p ls[i] with
    | true =>
      refine ⟨i, .int .i64 i, .int .i64 i, .bool true, .bool true, ?_⟩
      rw [hp] at hc
      simp +contextual only [w_slices_IndexFunc_Si_Load_i_Load_1, h, hi, hl, part_encL hl, hc, decide_true, go_sem, entry, joinEsc, if_pos, reduceIte, Nat.reduceAdd, Nat.reduceLeDiff, Nat.reduceLT, Nat.reduceEqDiff]
    | false =>
      refine ⟨j, z3, z5, z6, z7, ?_⟩
      rw [hp] at hc
      simp +contextual only [w_slices_IndexFunc_Si_Load_i_Load_1, h, hi, hl, part_encL hl, hc, wrap_succ (show i < 9223372036854775807 by omega), decide_true, go_sem, entry, joinEsc, if_pos, reduceIte, Nat.reduceAdd, Nat.reduceLeDiff, Nat.reduceLT, Nat.reduceEqDiff]
      exact ih

theorem e_IndexFunc {b : Nat} {c : Option Nat} {ls : List Ld} {g : FuncId} {first cap : List AV} {p : Ld → Bool} (h : cellsAt H b = some (encL ls)) (hn : ls.length ≤ 9223372036854775806)
    (hf : ∀ l ∈ ls, call T pr g (first ++ AV.agg [.int .i64 l.1, .int .i64 l.2] :: cap) ⟨H, none⟩ = some (.bool (p l), ⟨H, none⟩)) :
    ∃ j : Nat, call T pr f_slices_IndexFunc_Si_Load_i_Load [slL b ls.length c, .fn g first cap] ⟨H, e⟩ = some (.int .i64 (if ls.any p = true then j else -1), ⟨H, e⟩) := by
  obtain ⟨j, z3, z5, z6, z7, hl⟩ := loop_IndexFunc (pr := pr) (e := none) (c := c) (r := .int .i64 0) h hn hf ls.length 0 .undef .undef .undef rfl
  refine ⟨j, ?_⟩
  have h0 : ((0 : Nat) : Int) = 0 := rfl
  rw [h0] at hl
  rw [call_eq t_slices_IndexFunc_Si_Load_i_Load]
  simp +contextual only [a_slices_IndexFunc_Si_Load_i_Load, c_slices_IndexFunc_Si_Load_i_Load, hl, go_sem, entry, joinEsc, if_pos, reduceIte, Nat.reduceAdd, Nat.reduceLeDiff, Nat.reduceLT, Nat.reduceEqDiff]
  cases hp : ls.any p <;> simp +contextual only [go_sem, entry, joinEsc, if_pos, reduceIte, Nat.reduceAdd, Nat.reduceLeDiff, Nat.reduceLT, Nat.reduceEqDiff]

theorem e_ContainsFunc {b : Nat} {c : Option Nat} {ls : List Ld} {g : FuncId} {first cap : List AV} {p : Ld → Bool} (h : cellsAt H b = some (encL ls)) (hn : ls.length ≤ 9223372036854775806)
    (hf : ∀ l ∈ ls, call T pr g (first ++ AV.agg [.int .i64 l.1, .int .i64 l.2] :: cap) ⟨H, none⟩ = some (.bool (p l), ⟨H, none⟩)) :
    call T pr f_slices_ContainsFunc_Si_Load_i_Load [slL b ls.length c, .fn g first cap] ⟨H, e⟩ = some (.bool (ls.any p), ⟨H, e⟩) := by
  obtain ⟨j, hl⟩ := e_IndexFunc (pr := pr) (e := none) (c := c) h hn hf
  rw [call_eq t_slices_ContainsFunc_Si_Load_i_Load]
  simp +contextual only [a_slices_ContainsFunc_Si_Load_i_Load, c_slices_ContainsFunc_Si_Load_i_Load, hl, go_sem, entry, joinEsc, if_pos, reduceIte, Nat.reduceAdd, Nat.reduceLeDiff, Nat.reduceLT, Nat.reduceEqDiff]
  cases hp : ls.any p <;> simp +contextual [finish_one', under_bool]

theorem e_i_IsRow {b : Nat} {c : Option Nat} {ls : List Ld} (h : cellsAt H b = some (encL ls)) : call T pr f_i_IsRow [slL b ls.length c] ⟨H, e⟩ = some (.bool (rowOk ls), ⟨H, e⟩) := by
  rw [call_eq t_i_IsRow]
  have hi : (12 : Int) < ((ls.length : Nat) : Int) ↔ 12 < ls.length := by omega
  by_cases h12 : ls.length ≤ 12
  · have hc := e_ContainsFunc (pr := pr) (e := none) (c := c) (g := f_i_IsRow_1) (first := []) (cap := []) (p := fun l => !okL l) h (by omega) (fun l _ => e_i_IsRow_1 l.1 l.2)
    have h12' : ¬ 12 < ls.length := by omega
    have hr : rowOk ls = !(ls.any fun l => !okL l) := by
      unfold rowOk
      rw [List.any_eq_not_all_not]
      simp [h12]
    rw [hr]
    simp +contextual only [a_i_IsRow, c_i_IsRow, hc, hi, h12', decide_false, go_sem, entry, joinEsc, if_pos, reduceIte, Nat.reduceAdd, Nat.reduceLeDiff, Nat.reduceLT, Nat.reduceEqDiff]
  · have h12' : 12 < ls.length := by omega
    have hr : rowOk ls = false := by unfold rowOk; simp [h12]
    rw [hr]
    simp +contextual only [a_i_IsRow, c_i_IsRow, hi, h12', decide_true, go_sem, entry, joinEsc, if_pos, reduceIte, Nat.reduceAdd, Nat.reduceLeDiff, Nat.reduceLT, Nat.reduceEqDiff]

/-- a moment, as both sides sum it up -/
def momStep (p : Int) (a : Int) (l : Ld) : Int := IntKind.i64.wrap (a + IntKind.i64.wrap (l.2 * IntKind.i64.wrap (l.1 - p)))
def momW (ls : List Ld) (p : Int) : Int := ls.foldl (momStep p) 0

theorem loop_i_momentAbout {b : Nat} {c : Option Nat} {ls : List Ld} {p : Int} {r : AV} (h : cellsAt H b = some (encL ls)) (hn : ls.length ≤ 9223372036854775806) :
    ∀ (k i : Nat) (a : Int) (G : List Blk) (y4 y8 : AV), k + i = ls.length → ∃ (G' : List Blk) (z4 z8 : AV), run T pr (.loop w_i_momentAbout_1) ⟨[slL b ls.length c, .int .i64 p, r, .int .i64 a, y4, slL b ls.length c, .int .i64 ls.length, .int .i64 i, y8], ⟨H ++ G, e⟩⟩ =
      some (Ex.exit 0, ⟨[slL b ls.length c, .int .i64 p, r, .int .i64 ((ls.drop i).foldl (momStep p) a), z4, slL b ls.length c, .int .i64 ls.length, .int .i64 ls.length, z8], ⟨H ++ G', e⟩⟩)
  | 0, i, a, G, y4, y8, hk => by
    have hi : i = ls.length := by omega
    subst hi
    refine ⟨G, y4, .bool false, ?_⟩
    rw [run_loop]
    generalize run T pr (.loop w_i_momentAbout_1) = R
    simp +contextual only [w_i_momentAbout_1, Nat.lt_irrefl, decide_false, List.drop_length, List.foldl_nil, go_sem, entry, joinEsc, if_pos, reduceIte, Nat.reduceAdd, Nat.reduceLeDiff, Nat.reduceLT, Nat.reduceEqDiff]
  | k + 1, i, a, G, y4, y8, hk => by
    have hi : i < ls.length := by omega
    have hl : ls[i]? = some ls[i] := List.getElem?_eq_getElem hi
    rw [run_loop, List.drop_eq_getElem_cons hi, List.foldl_cons]
    obtain ⟨G', z4, z8, ih⟩ := loop_i_momentAbout (c := c) (p := p) (r := r) h hn k (i + 1) (momStep p a ls[i]) (G ++ [.cells [.int .i64 ls[i].1, .int .i64 ls[i].2] true]) (.ptr (some (H.length + G.length, 0))) (.bool true) (by omega)
    refine ⟨G', z4, z8, ?_⟩
    generalize run T pr (.loop w_i_momentAbout_1) = R at ih ⊢
    simp +contextual only [w_i_momentAbout_1, cells_mono h, hi, hl, part_encL hl, wrap_succ (show i < 9223372036854775807 by omega), decide_true, go_sem, entry, joinEsc, if_pos, reduceIte, Nat.reduceAdd, Nat.reduceLeDiff, Nat.reduceLT, Nat.reduceEqDiff]
    exact ih

theorem e_i_momentAbout {b : Nat} {c : Option Nat} {ls : List Ld} (h : cellsAt H b = some (encL ls)) (hn : ls.length ≤ 9223372036854775806) (p : Int) : call T pr f_i_momentAbout [slL b ls.length c, .int .i64 p] ⟨H, e⟩ = some (.int .i64 (momW ls p), ⟨H, e⟩) := by
  obtain ⟨G', z4, z8, hl⟩ := loop_i_momentAbout (pr := pr) (e := none) (c := c) (p := p) (r := .int .i64 0) h hn ls.length 0 0 [] .undef .undef rfl
  have h0 : ((0 : Nat) : Int) = 0 := rfl
  rw [h0, List.append_nil, List.drop_zero] at hl
  rw [call_eq t_i_momentAbout]
  simp +contextual only [a_i_momentAbout, c_i_momentAbout, hl, go_sem, entry, joinEsc, if_pos, reduceIte, Nat.reduceAdd, Nat.reduceLeDiff, Nat.reduceLT, Nat.reduceEqDiff]
  rfl

theorem loop_s_l2Moment {b : Nat} {c : Option Nat} {ls : List Ld} {p : Int} {r : AV} (h : cellsAt H b = some (encL ls)) (hn : ls.length ≤ 9223372036854775806) :
    ∀ (k i : Nat) (a : Int) (y5 : AV), k + i = ls.length → ∃ (z5 : AV), run T pr (.loop w_s_l2Moment_1) ⟨[slL b ls.length c, .int .i64 p, r, .int .i64 a, .int .i64 i, y5], ⟨H, e⟩⟩ =
      some (Ex.exit 0, ⟨[slL b ls.length c, .int .i64 p, r, .int .i64 ((ls.drop i).foldl (momStep p) a), .int .i64 ls.length, z5], ⟨H, e⟩⟩)
  | 0, i, a, y5, hk => by
    have hi : i = ls.length := by omega
    subst hi
    refine ⟨.bool false, ?_⟩
    rw [run_loop]
    generalize run T pr (.loop w_s_l2Moment_1) = R
    simp +contextual only [w_s_l2Moment_1, Nat.lt_irrefl, decide_false, List.drop_length, List.foldl_nil, go_sem, entry, joinEsc, if_pos, reduceIte, Nat.reduceAdd, Nat.reduceLeDiff, Nat.reduceLT, Nat.reduceEqDiff]
  | k + 1, i, a, y5, hk => by
    have hi : i < ls.length := by omega
    have hl : ls[i]? = some ls[i] := List.getElem?_eq_getElem hi
    rw [run_loop, List.drop_eq_getElem_cons hi, List.foldl_cons]
    obtain ⟨z5, ih⟩ := loop_s_l2Moment (c := c) (p := p) (r := r) h hn k (i + 1) (momStep p a ls[i]) (.bool true) (by omega)
    refine ⟨z5, ?_⟩
    generalize run T pr (.loop w_s_l2Moment_1) = R at ih ⊢
    simp +contextual only [w_s_l2Moment_1, h, hi, hl, part_encL0 _ hl, part_encL1 _ hl, wrap_succ (show i < 9223372036854775807 by omega), decide_true, go_sem, entry, joinEsc, if_pos, reduceIte, Nat.reduceAdd, Nat.reduceLeDiff, Nat.reduceLT, Nat.reduceEqDiff]
    exact ih

theorem e_s_l2Moment {b : Nat} {c : Option Nat} {ls : List Ld} (h : cellsAt H b = some (encL ls)) (hn : ls.length ≤ 9223372036854775806) (p : Int) : call T pr f_s_l2Moment [slL b ls.length c, .int .i64 p] ⟨H, e⟩ = some (.int .i64 (momW ls p), ⟨H, e⟩) := by
  obtain ⟨z5, hl⟩ := loop_s_l2Moment (pr := pr) (e := none) (c := c) (p := p) (r := .int .i64 0) h hn ls.length 0 0 .undef rfl
  have h0 : ((0 : Nat) : Int) = 0 := rfl
  rw [h0, List.drop_zero] at hl
  rw [call_eq t_s_l2Moment]
  simp +contextual only [a_s_l2Moment, c_s_l2Moment, hl, go_sem, entry, joinEsc, if_pos, reduceIte, Nat.reduceAdd, Nat.reduceLeDiff, Nat.reduceLT, Nat.reduceEqDiff]
  rfl

/-- the side to which a row tips -/
def sideW (ls : List Ld) (a b : Int) : Int := if momW ls a < 0 then -1 else if 0 < momW ls b then 1 else 0

theorem e_s_l2Side {b : Nat} {c : Option Nat} {ls : List Ld} (h : cellsAt H b = some (encL ls)) (hn : ls.length ≤ 9223372036854775806) (p q : Int) : call T pr f_s_l2Side [slL b ls.length c, .int .i64 p, .int .i64 q] ⟨H, e⟩ = some (.int .i64 (sideW ls p q), ⟨H, e⟩) := by
  rw [call_eq t_s_l2Side]
  simp +contextual only [a_s_l2Side, c_s_l2Side, e_s_l2Moment h hn, go_sem, entry, joinEsc, if_pos, reduceIte, Nat.reduceAdd, Nat.reduceLeDiff, Nat.reduceLT, Nat.reduceEqDiff]
  unfold sideW
  split
  · rfl
  · split <;> rfl

theorem e_i_tipSide {b : Nat} {c : Option Nat} {ls : List Ld} (h : cellsAt H b = some (encL ls)) (hn : ls.length ≤ 9223372036854775806) (p q : Int) : call T pr f_i_tipSide [slL b ls.length c, .int .i64 p, .int .i64 q] ⟨H, e⟩ = some (.int .i64 (sideW ls p q), ⟨H, e⟩) := by
  rw [call_eq t_i_tipSide]
  simp +contextual only [a_i_tipSide, c_i_tipSide, e_i_momentAbout h hn, go_sem, entry, joinEsc, if_pos, reduceIte, Nat.reduceAdd, Nat.reduceLeDiff, Nat.reduceLT, Nat.reduceEqDiff]
  unfold sideW
  split
  · rfl
  · split <;> rfl

end Go.Proofs.Ytaikmfldjkbmmaa.Slim

/- Beams: what rests on them. -/
namespace Go.Proofs.Ytaikmfldjkbmmaa.Slim
open Go
set_option linter.unusedSimpArgs false
set_option linter.unusedVariables false

variable {pr : Prims} {H : List Blk} {e : Option Nat}

def beamOk (x a b : Int) : Bool := decide (1 ≤ x ∧ x ≤ 60 ∧ 0 ≤ a ∧ a < b ∧ b ≤ x)
abbrev bmV (x a b : Int) : AV := .agg [.int .i64 x, .int .i64 a, .int .i64 b]

theorem e_i_IsBeam (x a b : Int) : call T pr f_i_IsBeam [bmV x a b] ⟨H, e⟩ = some (.bool (beamOk x a b), ⟨H, e⟩) := by
  rw [call_eq t_i_IsBeam]
  simp +contextual only [a_i_IsBeam, c_i_IsBeam, e_i_within, go_sem, entry, joinEsc, if_pos, reduceIte, Nat.reduceAdd, Nat.reduceLeDiff, Nat.reduceLT, Nat.reduceEqDiff]
  congr 3
  simp only [beamOk, Bool.decide_and, Bool.and_assoc]

theorem e_s_l6Beam (x a b : Int) : call T pr f_s_l6Beam [bmV x a b] ⟨H, e⟩ = some (.bool (beamOk x a b), ⟨H, e⟩) := by
  rw [call_eq t_s_l6Beam]
  simp +contextual only [a_s_l6Beam, c_s_l6Beam, e_s_l1In, go_sem, entry, joinEsc, if_pos, reduceIte, Nat.reduceAdd, Nat.reduceLeDiff, Nat.reduceLT, Nat.reduceEqDiff]
  congr 3
  have key : ∀ p q : Bool, p = q ↔ (p = true ↔ q = true) := fun p q => by cases p <;> cases q <;> simp
  rw [key]
  simp only [beamOk, Bool.and_eq_true, decide_eq_true_eq]
  constructor
  · rintro ⟨⟨⟨h1, h2⟩, h3, h4⟩, h5, h6⟩
    rw [wrap64 (by omega) (by omega)] at h4
    rw [wrap64 (by omega) (by omega)] at h5
    omega
  · rintro ⟨h1, h2, h3, h4, h5⟩
    rw [wrap64 (by omega) (by omega), wrap64 (by omega) (by omega)]
    omega

theorem e_i_isOn_1 {q : Nat} {x a b : Int} (h : cellsAt H q = some [.int .i64 x, .int .i64 a, .int .i64 b]) (y z : Int) : call T pr f_i_isOn_1 [.agg [.int .i64 y, .int .i64 z], .ptr (some (q, 0))] ⟨H, e⟩ = some (.bool (decide (x < y)), ⟨H, e⟩) := by
  rw [call_eq t_i_isOn_1]
  simp +contextual only [a_i_isOn_1, c_i_isOn_1, h, cells_mono h, go_sem, entry, joinEsc, if_pos, reduceIte, Nat.reduceAdd, Nat.reduceLeDiff, Nat.reduceLT, Nat.reduceEqDiff]

/-- a beam and what is on it -/
def onOk (x a b : Int) (ls : List Ld) : Bool := beamOk x a b && rowOk ls && !(ls.any fun l => decide (x < l.1))

theorem e_i_isOn {q : Nat} {c : Option Nat} {ls : List Ld} (h : cellsAt H q = some (encL ls)) (hn : ls.length ≤ 9223372036854775806) (x a b : Int) : call T pr f_i_isOn [bmV x a b, slL q ls.length c] ⟨H, e⟩ = some (.bool (onOk x a b ls), ⟨H, e⟩) := by
  rw [call_eq t_i_isOn]
  have hb : cellsAt (H ++ [Blk.cells [.int .i64 x, .int .i64 a, .int .i64 b] true]) H.length = some [.int .i64 x, .int .i64 a, .int .i64 b] := by simp [cellsAt, List.getElem?_append_right]
  have hc := e_ContainsFunc (pr := pr) (e := none) (c := c) (g := f_i_isOn_1) (first := []) (cap := [.ptr (some (H.length, 0))]) (p := fun l => decide (x < l.1)) (cells_mono h [Blk.cells [.int .i64 x, .int .i64 a, .int .i64 b] true]) hn (fun l _ => e_i_isOn_1 hb l.1 l.2)
  simp +contextual only [a_i_isOn, c_i_isOn, e_i_IsBeam, e_i_IsRow (cells_mono h _), hc, go_sem, entry, joinEsc, if_pos, reduceIte, Nat.reduceAdd, Nat.reduceLeDiff, Nat.reduceLT, Nat.reduceEqDiff]
  rfl

theorem loop_s_l6On {q : Nat} {c : Option Nat} {ls : List Ld} {bv : AV} {u : Nat} {x a b : Int} {y5 : AV} (h : cellsAt H q = some (encL ls)) (hu : cellsAt H u = some [.int .i64 x, .int .i64 a, .int .i64 b]) (hn : ls.length ≤ 9223372036854775806) :
    ∀ (k i : Nat) (y6 y7 : AV), k + i = ls.length → ∃ (z4 z6 z7 : AV), run T pr (.loop w_s_l6On_1) ⟨[bv, slL q ls.length c, .ptr (some (u, 0)), .bool false, .int .i64 i, y5, y6, y7], ⟨H, e⟩⟩ =
      some (if (ls.drop i).any (fun l => decide (x < l.1)) = true then Ex.ret else Ex.exit 0, ⟨[bv, slL q ls.length c, .ptr (some (u, 0)), .bool false, z4, y5, z6, z7], ⟨H, e⟩⟩)
  | 0, i, y6, y7, hk => by
    have hi : i = ls.length := by omega
    subst hi
    refine ⟨.int .i64 ls.length, .bool false, y7, ?_⟩
    rw [run_loop]
    generalize run T pr (.loop w_s_l6On_1) = R
    simp +contextual only [w_s_l6On_1, Nat.lt_irrefl, decide_false, List.drop_length, List.any_nil, go_sem, entry, joinEsc, if_pos, reduceIte, Nat.reduceAdd, Nat.reduceLeDiff, Nat.reduceLT, Nat.reduceEqDiff]
  | k + 1, i, y6, y7, hk => by
    have hi : i < ls.length := by omega
    have hl : ls[i]? = some ls[i] := List.getElem?_eq_getElem hi
    rw [run_loop, List.drop_eq_getElem_cons hi, List.any_cons]
    obtain ⟨z4, z6, z7, ih⟩ := loop_s_l6On (c := c) (bv := bv) (y5 := y5) h hu hn k (i + 1) (.bool true) (.bool false) (by omega)
    generalize run T pr (.loop w_s_l6On_1) = R at ih ⊢
    cases hp : decide (x < ls[i].1) with
    | true =>
      refine ⟨.int .i64 i, .bool true, .bool true, ?_⟩
      simp +contextual only [w_s_l6On_1, h, hu, hi, hl, part_encL0 _ hl, hp, decide_true, go_sem, entry, joinEsc, if_pos, reduceIte, Nat.reduceAdd, Nat.reduceLeDiff, Nat.reduceLT, Nat.reduceEqDiff]
    | false =>
      refine ⟨z4, z6, z7, ?_⟩
      simp +contextual only [w_s_l6On_1, h, hu, hi, hl, part_encL0 _ hl, hp, wrap_succ (show i < 9223372036854775807 by omega), decide_true, go_sem, entry, joinEsc, if_pos, reduceIte, Nat.reduceAdd, Nat.reduceLeDiff, Nat.reduceLT, Nat.reduceEqDiff]
      exact ih

theorem e_s_l6On {q : Nat} {c : Option Nat} {ls : List Ld} (h : cellsAt H q = some (encL ls)) (hn : ls.length ≤ 9223372036854775806) (x a b : Int) : call T pr f_s_l6On [bmV x a b, slL q ls.length c] ⟨H, e⟩ = some (.bool (onOk x a b ls), ⟨H, e⟩) := by
  rw [call_eq t_s_l6On]
  have hb : cellsAt (H ++ [Blk.cells [.int .i64 x, .int .i64 a, .int .i64 b] true]) H.length = some [.int .i64 x, .int .i64 a, .int .i64 b] := by simp [cellsAt, List.getElem?_append_right]
  unfold onOk
  cases h1 : beamOk x a b with
  | false => simp +contextual only [a_s_l6On, c_s_l6On, e_s_l6Beam, h1, go_sem, entry, joinEsc, if_pos, reduceIte, Nat.reduceAdd, Nat.reduceLeDiff, Nat.reduceLT, Nat.reduceEqDiff]
  | true =>
    cases h2 : rowOk ls with
    | false => simp +contextual only [a_s_l6On, c_s_l6On, e_s_l6Beam, e_s_l2Row (cells_mono h _), h1, h2, go_sem, entry, joinEsc, if_pos, reduceIte, Nat.reduceAdd, Nat.reduceLeDiff, Nat.reduceLT, Nat.reduceEqDiff]
    | true =>
      obtain ⟨z4, z6, z7, hl⟩ := loop_s_l6On (pr := pr) (e := none) (c := c) (bv := bmV x a b) (y5 := .bool false) (cells_mono h [Blk.cells [.int .i64 x, .int .i64 a, .int .i64 b] true]) hb hn ls.length 0 .undef .undef rfl
      have h0 : ((0 : Nat) : Int) = 0 := rfl
      rw [h0, List.drop_zero] at hl
      cases h3 : ls.any (fun l => decide (x < l.1)) <;> rw [h3] at hl <;> simp +contextual only [a_s_l6On, c_s_l6On, e_s_l6Beam, e_s_l2Row (cells_mono h _), h1, h2, hl, go_sem, entry, joinEsc, if_pos, reduceIte, Nat.reduceAdd, Nat.reduceLeDiff, Nat.reduceLT, Nat.reduceEqDiff] <;> trace_state

end Go.Proofs.Ytaikmfldjkbmmaa.Slim

/- RestsOn, and its law. -/
namespace Go.Proofs.Ytaikmfldjkbmmaa.Slim
open Go
set_option linter.unusedSimpArgs false
set_option linter.unusedVariables false

variable {pr : Prims} {H : List Blk} {e : Option Nat}

theorem ArgL.more {av : AV} {ls : List Ld} (h : ArgL H av ls) (G : List Blk) : ArgL (H ++ G) av ls := by
  obtain ⟨p, sz, c, h1, h2, h3⟩ := h
  refine ⟨p, sz, c, h1, h2, fun hne => ?_⟩
  obtain ⟨h4, b, h5, h6⟩ := h3 hne
  exact ⟨h4, b, h5, cells_mono h6 G⟩

theorem loads_of : ∀ (es : List (List Int)), (∀ e ∈ es, e.length = 2) → ∃ ls : List Ld, es.flatten.map (AV.int .i64) = encL ls ∧ ls.length = es.length
  | [], _ => ⟨[], rfl, rfl⟩
  | e :: es, h => by
    obtain ⟨ls, h1, h2⟩ := loads_of es (fun e' h' => h e' (by simp [h']))
    have h0 := h e (by simp)
    match e, h0 with
    | [x, y], _ => exact ⟨(x, y) :: ls, by simp [encL, h1], by simp [h2]⟩

theorem argL_of {av : AV} {es : List (List Int)} (h : IsArg H av .i64 2 es) : ∃ ls, ArgL H av ls := by
  obtain ⟨h1, h2⟩ := h
  rcases h2 with ⟨rfl, rfl⟩ | ⟨b, cap, rfl, h3, h4, h5⟩
  · exact ⟨[], none, 0, none, rfl, Nat.zero_le _, fun h => absurd rfl h⟩
  · obtain ⟨ls, h6, h7⟩ := loads_of es (fun e he => (h1 e he).1)
    refine ⟨ls, some (b, 0), 2, some cap, by rw [h7], by omega, fun _ => ⟨rfl, b, rfl, ?_⟩⟩
    unfold cellsAt
    rw [h5, h6]

theorem e_l_eqLoadS {b1 b2 : Nat} {c1 c2 : Option Nat} {ls : List Ld} (h1 : cellsAt H b1 = some (encL ls)) (h2 : cellsAt H b2 = some (encL ls)) (hn : ls.length ≤ 9223372036854775806) :
    call T pr f_l_eqLoadS [slL b1 ls.length c1, slL b2 ls.length c2] ⟨H, e⟩ = some (.bool true, ⟨H, e⟩) := by
  obtain ⟨z5, z6, hl⟩ := loop_l_eqLoadS (pr := pr) (e := none) (c1 := c1) (c2 := c2) h1 h2 hn ls.length 0 .undef .undef (.bool false) rfl
  have h0 : ((0 : Nat) : Int) = 0 := rfl
  rw [h0] at hl
  rw [call_eq t_l_eqLoadS]
  simp +contextual only [a_l_eqLoadS, c_l_eqLoadS, hl, decide_true, go_sem, entry, joinEsc, if_pos, reduceIte, Nat.reduceAdd, Nat.reduceLeDiff, Nat.reduceLT, Nat.reduceEqDiff]

theorem e_s_RestsOn {q : Nat} {c : Option Nat} {ls : List Ld} (h : cellsAt H q = some (encL ls)) (hn : ls.length ≤ 9223372036854775806) (x a b : Int) : call T pr f_s_RestsOn [bmV x a b, slL q ls.length c] ⟨H, e⟩ =
    some (.tup [.bool (onOk x a b ls && decide (sideW ls a b = 0)), .bool (onOk x a b ls)], ⟨H, e⟩) := by
  rw [call_eq t_s_RestsOn]
  cases h1 : onOk x a b ls <;> simp +contextual only [a_s_RestsOn, c_s_RestsOn, e_s_l6On (cells_mono h _) hn, e_s_l2Side (cells_mono h _) hn, h1, go_sem, entry, joinEsc, if_pos, reduceIte, Nat.reduceAdd, Nat.reduceLeDiff, Nat.reduceLT, Nat.reduceEqDiff]

theorem e_i_Beam_rests {q : Nat} {c : Option Nat} {ls : List Ld} (h : cellsAt H q = some (encL ls)) (hn : ls.length ≤ 9223372036854775806) (x a b : Int) : call T pr f_i_Beam_rests [bmV x a b, slL q ls.length c] ⟨H, e⟩ =
    some (.bool (decide (sideW ls a b = 0)), ⟨H, e⟩) := by
  rw [call_eq t_i_Beam_rests]
  simp +contextual only [a_i_Beam_rests, c_i_Beam_rests, e_i_tipSide (cells_mono h _) hn, go_sem, entry, joinEsc, if_pos, reduceIte, Nat.reduceAdd, Nat.reduceLeDiff, Nat.reduceLT, Nat.reduceEqDiff]

theorem e_i_RestsOn {q : Nat} {c : Option Nat} {ls : List Ld} (h : cellsAt H q = some (encL ls)) (hn : ls.length ≤ 9223372036854775806) (x a b : Int) : call T pr f_i_RestsOn [bmV x a b, slL q ls.length c] ⟨H, e⟩ =
    some (.tup [.bool (onOk x a b ls && decide (sideW ls a b = 0)), .bool (onOk x a b ls)], ⟨H, e⟩) := by
  rw [call_eq t_i_RestsOn]
  cases h1 : onOk x a b ls <;> simp +contextual only [a_i_RestsOn, c_i_RestsOn, e_i_isOn (cells_mono h _) hn, e_i_Beam_rests (cells_mono h _) hn, h1, go_sem, entry, joinEsc, if_pos, reduceIte, Nat.reduceAdd, Nat.reduceLeDiff, Nat.reduceLT, Nat.reduceEqDiff]

theorem law_RestsOn {av : AV} {ls : List Ld} (ha : ArgL H av ls) (x a b : Int) : ∃ m', call T pr f_l_FnExactRestsOn [bmV x a b, av] ⟨H, none⟩ = some (.bool true, m') := by
  refine ⟨⟨H, none⟩, ?_⟩
  have hsz : ∀ G e', call T pr f_l_szLoadS [av, .int .i64 1048576] ⟨G, e'⟩ = some (.int .i64 (if ls.length ≤ 1048576 then 1048576 - ls.length else -1), ⟨G, e'⟩) := by
    obtain ⟨p, sz, c, rfl, h2, h3⟩ := ha
    exact fun G e' => e_l_szLoadS ls.length p sz c h2
  rw [call_eq t_l_FnExactRestsOn]
  by_cases hn : ls.length ≤ 1048576
  · have hn' : ls.length ≤ 9223372036854775806 := by omega
    have hneg : ¬ (1048576 - (ls.length : Int) < 0) := by omega
    have hcopy := fun G => e_l_toLoadS (pr := pr) (e := none) (ha.more G) hn
    simp +contextual only [a_l_FnExactRestsOn, c_l_FnExactRestsOn, hsz, hn, hneg, decide_false, e_l_toBeam, hcopy, e_s_RestsOn, e_i_RestsOn, e_l_eqLoadS, hn', beq_self_eq_true, go_sem, entry, joinEsc, if_pos, reduceIte, Nat.reduceAdd, Nat.reduceLeDiff, Nat.reduceLT, Nat.reduceEqDiff]
  · simp +contextual only [a_l_FnExactRestsOn, c_l_FnExactRestsOn, hsz, hn, decide_true, show ((-1 : Int) < 0) by omega, go_sem, entry, joinEsc, if_pos, reduceIte, Nat.reduceAdd, Nat.reduceLeDiff, Nat.reduceLT, Nat.reduceEqDiff]

end Go.Proofs.Ytaikmfldjkbmmaa.Slim

/- Rows that grow. -/
namespace Go.Proofs.Ytaikmfldjkbmmaa.Slim
open Go
set_option linter.unusedSimpArgs false
set_option linter.unusedVariables false

variable {pr : Prims} {H : List Blk} {e : Option Nat}

/-- what an append leaves of the blocks before it -/
def killIf (cap : Option Nat) (j : Nat) (G : List Blk) : List Blk := if cap = some 0 then G else G.set j .dead
theorem killIf_length (cap : Option Nat) (j : Nat) (G : List Blk) : (killIf cap j G).length = G.length := by unfold killIf; split <;> simp

theorem appendV_more {G : List Blk} {j k n sz bytes : Nat} {cs new : List AV} {cap : Option Nat} {str : Bool} {x : AV} (hb : G[j]? = some (.cells cs true)) (hx : srcCells str (H ++ G) x = some (k, new)) (hk : 0 < k)
    (hcs : cs.length = n * sz) (hnew : new.length = k * sz) (hmax : (n + k) * bytes ≤ maxBytes) (hcap : cap = some 0 → n = 0) :
    appendV (H ++ G) e str sz bytes (.slice (some (H.length + j, 0)) sz n cap) x = some (.slice (some (H.length + G.length, 0)) sz (n + k) none, ⟨H ++ (killIf cap j G ++ [.cells (cs ++ new) true]), e⟩) := by
  unfold appendV
  simp only [blkAt_newk, hb, hx]
  rw [if_pos ⟨trivial, hmax, hnew, by omega⟩]
  unfold killIf
  by_cases hc : cap = some 0
  · have hn := hcap hc
    subst hn
    have : cs = [] := by simpa using hcs
    subst this
    rw [if_pos ⟨hc, hk⟩, if_pos hc]
    simp
  · rw [if_neg (fun h => hc h.1), if_pos trivial, if_neg hc]
    have h1 : List.take (n * sz) (List.drop 0 cs) = cs := by rw [List.drop_zero, ← hcs, List.take_length]
    rw [h1, set_newk]
    simp

theorem srcCells_new (L : List Blk) (n sz : Nat) (cap : Option Nat) (cs : List AV) (b : Nat) (h : cellsAt L b = some cs) (hl : cs.length = n * sz) : srcCells false L (.slice (some (b, 0)) sz n cap) = some (n, cs) := by
  unfold srcCells
  simp only [Bool.false_eq_true, if_false, h]
  rw [if_pos (by omega), List.drop_zero, ← hl, List.take_length]

/-- one load more -/
theorem append_ld {G : List Blk} {j : Nat} {o : List Ld} {cap : Option Nat} (hG : G[j]? = some (.cells (encL o) true)) (hcap : cap = some 0 → o = []) (hmb : (o.length + 1) * 16 ≤ maxBytes) (a b : Int) :
    appendV (H ++ (G ++ [.cells [.int .i64 a, .int .i64 b] true])) e false 2 16 (slL (H.length + j) o.length cap) (.slice (some (H.length + G.length, 0)) 2 1 (some 1)) =
      some (slL (H.length + (G.length + 1)) (o.length + 1) none, ⟨H ++ (killIf cap j (G ++ [.cells [.int .i64 a, .int .i64 b] true]) ++ [.cells (encL o ++ [.int .i64 a, .int .i64 b]) true]), e⟩) := by
  have hj : j < G.length := (List.getElem?_eq_some_iff.mp hG).1
  rw [appendV_more (k := 1) (cs := encL o) (new := [.int .i64 a, .int .i64 b]) (by rw [List.getElem?_append_left hj]; exact hG)
    (srcCells_new _ 1 2 _ _ _ (by rw [cellsAt_newk, cellsAt_new0, cellsAt_cons0]) rfl) (by omega) (encL_length o) rfl hmb (fun h => by rw [hcap h]; rfl)]
  simp

/-- the loads of a convoy that have come so far -/
def rowAt (x : Int) (ls : List Ld) : List Ld := (ls.filter fun l => decide (l.1 ≤ x)).map fun l => (IntKind.i64.wrap (x - l.1), l.2)

theorem loop_s_l6At {q : Nat} {c : Option Nat} {ls : List Ld} {x : Int} {r : AV} (h : cellsAt H q = some (encL ls)) (hn : ls.length ≤ 1048576) :
    ∀ (k i : Nat) (o : List Ld) (j : Nat) (cap : Option Nat) (G : List Blk) (y5 y6 : AV), k + i = ls.length → o.length ≤ i → G[j]? = some (.cells (encL o) true) → (cap = some 0 → o = []) →
      ∃ (j' : Nat) (cap' : Option Nat) (G' : List Blk) (z5 z6 : AV), G'[j']? = some (.cells (encL (o ++ rowAt x (ls.drop i))) true) ∧ run T pr (.loop w_s_l6At_1) ⟨[slL q ls.length c, .int .i64 x, r, slL (H.length + j) o.length cap, .int .i64 i, y5, y6], ⟨H ++ G, e⟩⟩ =
      some (Ex.exit 0, ⟨[slL q ls.length c, .int .i64 x, r, slL (H.length + j') (o ++ rowAt x (ls.drop i)).length cap', .int .i64 ls.length, z5, z6], ⟨H ++ G', e⟩⟩)
  | 0, i, o, j, cap, G, y5, y6, hk, ho, hG, hcap => by
    have hi : i = ls.length := by omega
    subst hi
    refine ⟨j, cap, G, .bool false, y6, ?_, ?_⟩
    · rw [List.drop_length]; simpa [rowAt] using hG
    rw [run_loop]
    generalize run T pr (.loop w_s_l6At_1) = R
    have h0 : (o ++ rowAt x []) = o := by simp [rowAt]
    simp +contextual only [w_s_l6At_1, Nat.lt_irrefl, decide_false, List.drop_length, h0, go_sem, entry, joinEsc, if_pos, reduceIte, Nat.reduceAdd, Nat.reduceLeDiff, Nat.reduceLT, Nat.reduceEqDiff]
  | k + 1, i, o, j, cap, G, y5, y6, hk, ho, hG, hcap => by
    have hi : i < ls.length := by omega
    have hl : ls[i]? = some ls[i] := List.getElem?_eq_getElem hi
    rw [run_loop, List.drop_eq_getElem_cons hi]
    have hfl : ∀ l : Ld, (x : Int) = x → rowAt x (l :: ls.drop (i + 1)) = if l.1 ≤ x then (IntKind.i64.wrap (x - l.1), l.2) :: rowAt x (ls.drop (i + 1)) else rowAt x (ls.drop (i + 1)) := by
      intro l _
      unfold rowAt
      by_cases hx : l.1 ≤ x <;> simp [hx]
    rw [hfl _ rfl]
    by_cases hx : ls[i].1 ≤ x
    · rw [if_pos hx]
      have hmb : (o.length + 1) * 16 ≤ maxBytes := by unfold maxBytes; omega
      obtain ⟨j', cap', G', z5, z6, h1, ih⟩ := loop_s_l6At (c := c) (x := x) (r := r) h hn k (i + 1) (o ++ [(IntKind.i64.wrap (x - ls[i].1), ls[i].2)]) (G.length + 1) none
        (killIf cap j (G ++ [.cells [.int .i64 (IntKind.i64.wrap (x - ls[i].1)), .int .i64 ls[i].2] true]) ++ [.cells (encL (o ++ [(IntKind.i64.wrap (x - ls[i].1), ls[i].2)])) true]) (.bool true) (.bool true) (by omega) (by simp; omega) (by
          rw [List.getElem?_append_right (by simp [killIf_length])]; simp [killIf_length]) (by simp)
      rw [List.append_assoc, List.singleton_append] at h1 ih
      refine ⟨j', cap', G', z5, z6, h1, ?_⟩
      generalize run T pr (.loop w_s_l6At_1) = R at ih ⊢
      simp +contextual only [w_s_l6At_1, cells_mono h, hi, hl, hx, part_encL0 _ hl, part_encL1 _ hl, fillParts, append_ld hG hcap hmb, wrap_succ (show i < 9223372036854775807 by omega), decide_true, decide_false, go_sem, entry, joinEsc, if_pos, reduceIte, Nat.reduceAdd, Nat.reduceLeDiff, Nat.reduceLT, Nat.reduceEqDiff]
      simp only [List.length_append, List.length_cons, List.length_nil, Nat.zero_add, encL_append, encL] at ih
      exact ih
    · rw [if_neg hx]
      obtain ⟨j', cap', G', z5, z6, h1, ih⟩ := loop_s_l6At (c := c) (x := x) (r := r) h hn k (i + 1) o j cap G (.bool true) (.bool false) (by omega) (by omega) hG hcap
      refine ⟨j', cap', G', z5, z6, h1, ?_⟩
      generalize run T pr (.loop w_s_l6At_1) = R at ih ⊢
      simp +contextual only [w_s_l6At_1, cells_mono h, hi, hl, hx, part_encL0 _ hl, wrap_succ (show i < 9223372036854775807 by omega), decide_true, decide_false, go_sem, entry, joinEsc, if_pos, reduceIte, Nat.reduceAdd, Nat.reduceLeDiff, Nat.reduceLT, Nat.reduceEqDiff]
      simp only [List.length_append] at ih
      exact ih

/-- the convoy's row in a position -/
theorem e_s_l6At {q : Nat} {c : Option Nat} {ls : List Ld} (h : cellsAt H q = some (encL ls)) (hn : ls.length ≤ 1048576) (x : Int) : ∃ cap, call T pr f_s_l6At [slL q ls.length c, .int .i64 x] ⟨H, e⟩ =
    some (slL H.length (rowAt x ls).length cap, ⟨H ++ [.cells (encL (rowAt x ls)) true], e⟩) := by
  obtain ⟨j', cap', G', z5, z6, h1, hl⟩ := loop_s_l6At (pr := pr) (e := none) (c := c) (x := x) (r := .slice none 0 0 none) h hn ls.length 0 [] 0 (some 0) [.cells [] true] .undef .undef rfl (Nat.zero_le _) rfl (fun _ => rfl)
  have h0 : ((0 : Nat) : Int) = 0 := rfl
  rw [h0] at hl
  refine ⟨cap', ?_⟩
  rw [call_eq t_s_l6At]
  simp only [List.nil_append, List.drop_zero, Nat.add_zero, List.length_nil] at hl h1
  simp +contextual only [a_s_l6At, c_s_l6At, fillParts, hl, finish_two_at _ h1 (under_encL _ _), go_sem, entry, joinEsc, if_pos, reduceIte, Nat.reduceAdd, Nat.reduceLeDiff, Nat.reduceLT, Nat.reduceEqDiff]

end Go.Proofs.Ytaikmfldjkbmmaa.Slim

/- Convoys. -/
namespace Go.Proofs.Ytaikmfldjkbmmaa.Slim
open Go
set_option linter.unusedSimpArgs false
set_option linter.unusedVariables false

variable {pr : Prims} {H : List Blk} {e : Option Nat}

theorem rowAt_cons (x : Int) (l : Ld) (ls : List Ld) : rowAt x (l :: ls) = if l.1 ≤ x then (IntKind.i64.wrap (x - l.1), l.2) :: rowAt x ls else rowAt x ls := by
  unfold rowAt
  by_cases hx : l.1 ≤ x <;> simp [hx]

theorem loop_i_convoyRow {q : Nat} {c : Option Nat} {ls : List Ld} {x : Int} {r : AV} (h : cellsAt H q = some (encL ls)) (hn : ls.length ≤ 1048576) :
    ∀ (k i : Nat) (o : List Ld) (j : Nat) (cap : Option Nat) (G : List Blk) (y4 y8 y9 : AV), k + i = ls.length → o.length ≤ i → G[j]? = some (.cells (encL o) true) → (cap = some 0 → o = []) →
      ∃ (j' : Nat) (cap' : Option Nat) (G' : List Blk) (z4 z8 z9 : AV), G'[j']? = some (.cells (encL (o ++ rowAt x (ls.drop i))) true) ∧ run T pr (.loop w_i_convoyRow_1) ⟨[slL q ls.length c, .int .i64 x, r, slL (H.length + j) o.length cap, y4, slL q ls.length c, .int .i64 ls.length, .int .i64 i, y8, y9], ⟨H ++ G, e⟩⟩ =
      some (Ex.exit 0, ⟨[slL q ls.length c, .int .i64 x, r, slL (H.length + j') (o ++ rowAt x (ls.drop i)).length cap', z4, slL q ls.length c, .int .i64 ls.length, .int .i64 ls.length, z8, z9], ⟨H ++ G', e⟩⟩)
  | 0, i, o, j, cap, G, y4, y8, y9, hk, ho, hG, hcap => by
    have hi : i = ls.length := by omega
    subst hi
    refine ⟨j, cap, G, y4, .bool false, y9, ?_, ?_⟩
    · rw [List.drop_length]; simpa [rowAt] using hG
    rw [run_loop]
    generalize run T pr (.loop w_i_convoyRow_1) = R
    have h0 : (o ++ rowAt x []) = o := by simp [rowAt]
    simp +contextual only [w_i_convoyRow_1, Nat.lt_irrefl, decide_false, List.drop_length, h0, go_sem, entry, joinEsc, if_pos, reduceIte, Nat.reduceAdd, Nat.reduceLeDiff, Nat.reduceLT, Nat.reduceEqDiff]
  | k + 1, i, o, j, cap, G, y4, y8, y9, hk, ho, hG, hcap => by
    have hi : i < ls.length := by omega
    have hl : ls[i]? = some ls[i] := List.getElem?_eq_getElem hi
    have hj : j < G.length := (List.getElem?_eq_some_iff.mp hG).1
    have hG1 : (G ++ [Blk.cells [.int .i64 ls[i].1, .int .i64 ls[i].2] true])[j]? = some (.cells (encL o) true) := by rw [List.getElem?_append_left hj]; exact hG
    rw [run_loop, List.drop_eq_getElem_cons hi]
    rw [rowAt_cons]
    by_cases hx : ls[i].1 ≤ x
    · rw [if_pos hx]
      have hmb : (o.length + 1) * 16 ≤ maxBytes := by unfold maxBytes; omega
      have hap := fun e' => append_ld (H := H) (e := e') hG1 hcap hmb (IntKind.i64.wrap (x - ls[i].1)) ls[i].2
      obtain ⟨j', cap', G', z4, z8, z9, h1, ih⟩ := loop_i_convoyRow (c := c) (x := x) (r := r) h hn k (i + 1) (o ++ [(IntKind.i64.wrap (x - ls[i].1), ls[i].2)]) (G.length + 1 + 1) none
        (killIf cap j (G ++ [.cells [.int .i64 ls[i].1, .int .i64 ls[i].2] true] ++ [.cells [.int .i64 (IntKind.i64.wrap (x - ls[i].1)), .int .i64 ls[i].2] true]) ++ [.cells (encL (o ++ [(IntKind.i64.wrap (x - ls[i].1), ls[i].2)])) true]) (.ptr (some (H.length + G.length, 0))) (.bool true) (.bool true) (by omega) (by simp; omega) (by
          rw [List.getElem?_append_right (by simp [killIf_length])]; simp [killIf_length]) (by simp)
      rw [List.append_assoc, List.singleton_append] at h1
      simp only [List.append_assoc, List.singleton_append, List.cons_append, List.nil_append, List.length_append, List.length_cons, List.length_nil, Nat.zero_add] at hap
      refine ⟨j', cap', G', z4, z8, z9, h1, ?_⟩
      generalize run T pr (.loop w_i_convoyRow_1) = R at ih ⊢
      simp only [List.append_assoc, List.singleton_append, List.cons_append, List.nil_append, List.length_append, List.length_cons, List.length_nil, Nat.zero_add, encL_append, encL] at ih
      simp +contextual only [w_i_convoyRow_1, cells_mono h, hi, hl, hx, part_encL hl, fillParts, hap, wrap_succ (show i < 9223372036854775807 by omega), decide_true, decide_false, go_sem, entry, joinEsc, if_pos, reduceIte, Nat.reduceAdd, Nat.reduceLeDiff, Nat.reduceLT, Nat.reduceEqDiff]
      exact ih
    · rw [if_neg hx]
      obtain ⟨j', cap', G', z4, z8, z9, h1, ih⟩ := loop_i_convoyRow (c := c) (x := x) (r := r) h hn k (i + 1) o j cap (G ++ [Blk.cells [.int .i64 ls[i].1, .int .i64 ls[i].2] true]) (.ptr (some (H.length + G.length, 0))) (.bool true) (.bool false) (by omega) (by omega) hG1 hcap
      refine ⟨j', cap', G', z4, z8, z9, h1, ?_⟩
      generalize run T pr (.loop w_i_convoyRow_1) = R at ih ⊢
      simp +contextual only [w_i_convoyRow_1, cells_mono h, hi, hl, hx, part_encL hl, wrap_succ (show i < 9223372036854775807 by omega), decide_true, decide_false, go_sem, entry, joinEsc, if_pos, reduceIte, Nat.reduceAdd, Nat.reduceLeDiff, Nat.reduceLT, Nat.reduceEqDiff]
      simp only [List.length_append] at ih
      exact ih

theorem e_i_convoyRow {q : Nat} {c : Option Nat} {ls : List Ld} (h : cellsAt H q = some (encL ls)) (hn : ls.length ≤ 1048576) (x : Int) : ∃ cap, call T pr f_i_convoyRow [slL q ls.length c, .int .i64 x] ⟨H, e⟩ =
    some (slL H.length (rowAt x ls).length cap, ⟨H ++ [.cells (encL (rowAt x ls)) true], e⟩) := by
  obtain ⟨j', cap', G', z4, z8, z9, h1, hl⟩ := loop_i_convoyRow (pr := pr) (e := none) (c := c) (x := x) (r := .slice none 0 0 none) h hn ls.length 0 [] 0 (some 0) [.cells [] true] .undef .undef .undef rfl (Nat.zero_le _) rfl (fun _ => rfl)
  have h0 : ((0 : Nat) : Int) = 0 := rfl
  rw [h0] at hl
  refine ⟨cap', ?_⟩
  rw [call_eq t_i_convoyRow]
  simp only [List.nil_append, List.drop_zero, Nat.add_zero, List.length_nil] at hl h1
  simp +contextual only [a_i_convoyRow, c_i_convoyRow, fillParts, hl, finish_two_at _ h1 (under_encL _ _), go_sem, entry, joinEsc, if_pos, reduceIte, Nat.reduceAdd, Nat.reduceLeDiff, Nat.reduceLT, Nat.reduceEqDiff]

/-- may it come behind a load at prev? -/
def cvOk (prev : Option Int) (l : Ld) : Bool := ((decide (0 ≤ l.1) && decide (l.1 ≤ 20)) && (decide (1 ≤ l.2) && decide (l.2 ≤ 99))) && (match prev with | none => true | some p => decide (p ≤ l.1))
def cvAll (prev : Option Int) : List Ld → Bool
  | [] => true
  | l :: ls => cvOk prev l && cvAll (some l.1) ls
/-- the load before -/
def prevAt (ls : List Ld) : Nat → Option Int
  | 0 => none
  | i + 1 => (ls[i]?).map (·.1)

theorem wrap_pred {i : Nat} (h : i < 9223372036854775807) : IntKind.i64.wrap (((i + 1 : Nat) : Int) - 1) = (i : Int) := by
  rw [wrap64 (by omega) (by omega)]; omega

theorem loop_s_l6Convoy {q : Nat} {c : Option Nat} {ls : List Ld} (h : cellsAt H q = some (encL ls)) (hn : ls.length ≤ 1048576) :
    ∀ (k i : Nat) (y3 y4 : AV), k + i = ls.length → ∃ (z2 z3 z4 : AV), run T pr (.loop w_s_l6Convoy_1) ⟨[slL q ls.length c, .bool false, .int .i64 i, y3, y4], ⟨H, e⟩⟩ =
      some (if cvAll (prevAt ls i) (ls.drop i) = true then Ex.exit 0 else Ex.ret, ⟨[slL q ls.length c, .bool false, z2, z3, z4], ⟨H, e⟩⟩)
  | 0, i, y3, y4, hk => by
    have hi : i = ls.length := by omega
    subst hi
    refine ⟨.int .i64 ls.length, .bool false, y4, ?_⟩
    rw [run_loop]
    generalize run T pr (.loop w_s_l6Convoy_1) = R
    simp +contextual only [w_s_l6Convoy_1, Nat.lt_irrefl, decide_false, List.drop_length, cvAll, go_sem, entry, joinEsc, if_pos, reduceIte, Nat.reduceAdd, Nat.reduceLeDiff, Nat.reduceLT, Nat.reduceEqDiff]
  | k + 1, i, y3, y4, hk => by
    have hi : i < ls.length := by omega
    have hl : ls[i]? = some ls[i] := List.getElem?_eq_getElem hi
    obtain ⟨z2, z3, z4, ih⟩ := loop_s_l6Convoy (c := c) h hn k (i + 1) (.bool true) (.bool false) (by omega)
    have hp : prevAt ls (i + 1) = some ls[i].1 := by simp [prevAt, hl]
    rw [hp] at ih
    rw [run_loop, List.drop_eq_getElem_cons hi, cvAll]
    generalize run T pr (.loop w_s_l6Convoy_1) = R at ih ⊢
    unfold cvOk
    cases h1 : (decide (0 ≤ ls[i].1) && decide (ls[i].1 ≤ 20)) with
    | false =>
      refine ⟨.int .i64 i, .bool true, .bool true, ?_⟩
      simp +contextual only [w_s_l6Convoy_1, h, hi, hl, h1, part_encL0 _ hl, part_encL1 _ hl, e_s_l1In, decide_true, go_sem, entry, joinEsc, if_pos, reduceIte, Nat.reduceAdd, Nat.reduceLeDiff, Nat.reduceLT, Nat.reduceEqDiff]
    | true =>
      cases h2 : (decide (1 ≤ ls[i].2) && decide (ls[i].2 ≤ 99)) with
      | false =>
        refine ⟨.int .i64 i, .bool true, .bool true, ?_⟩
        simp +contextual only [w_s_l6Convoy_1, h, hi, hl, h1, h2, part_encL0 _ hl, part_encL1 _ hl, e_s_l1In, decide_true, go_sem, entry, joinEsc, if_pos, reduceIte, Nat.reduceAdd, Nat.reduceLeDiff, Nat.reduceLT, Nat.reduceEqDiff]
      | true =>
        cases i with
        | zero =>
          refine ⟨z2, z3, z4, ?_⟩
          have h00 : ¬ (0 : Int) < ((0 : Nat) : Int) := by omega
          simp +contextual only [w_s_l6Convoy_1, h, hi, hl, h1, h2, h00, prevAt, part_encL0 _ hl, part_encL1 _ hl, e_s_l1In, wrap_succ (show 0 < 9223372036854775807 by omega), decide_true, decide_false, go_sem, entry, joinEsc, if_pos, reduceIte, Nat.reduceAdd, Nat.reduceLeDiff, Nat.reduceLT, Nat.reduceEqDiff]
          exact ih
        | succ i =>
          have hi' : i < ls.length := by omega
          have hl' : ls[i]? = some ls[i] := List.getElem?_eq_getElem hi'
          have hpos : (0 : Int) < ((i + 1 : Nat) : Int) := by omega
          have hp' : prevAt ls (i + 1) = some ls[i].1 := by simp [prevAt, hl']
          rw [hp']
          simp only []
          by_cases h3 : ls[i].1 ≤ ls[i + 1].1
          · refine ⟨z2, z3, z4, ?_⟩
            have h3' : ¬ ls[i + 1].1 < ls[i].1 := by omega
            simp +contextual only [w_s_l6Convoy_1, h, hi, hi', hl, hl', h1, h2, h3, h3', hpos, part_encL0 _ hl, part_encL1 _ hl, part_encL0 _ hl', e_s_l1In, wrap_pred (show i < 9223372036854775807 by omega), wrap_succ (show i + 1 < 9223372036854775807 by omega), decide_true, decide_false, go_sem, entry, joinEsc, if_pos, reduceIte, Nat.reduceAdd, Nat.reduceLeDiff, Nat.reduceLT, Nat.reduceEqDiff]
            exact ih
          · refine ⟨.int .i64 (i + 1 : Nat), .bool true, .bool true, ?_⟩
            have h3' : ls[i + 1].1 < ls[i].1 := by omega
            simp +contextual only [w_s_l6Convoy_1, h, hi, hi', hl, hl', h1, h2, h3, h3', hpos, part_encL0 _ hl, part_encL1 _ hl, part_encL0 _ hl', e_s_l1In, wrap_pred (show i < 9223372036854775807 by omega), decide_true, decide_false, go_sem, entry, joinEsc, if_pos, reduceIte, Nat.reduceAdd, Nat.reduceLeDiff, Nat.reduceLT, Nat.reduceEqDiff]

end Go.Proofs.Ytaikmfldjkbmmaa.Slim

/- Convoys, told whole; crossing. -/
namespace Go.Proofs.Ytaikmfldjkbmmaa.Slim
open Go
set_option linter.unusedSimpArgs false
set_option linter.unusedVariables false

variable {pr : Prims} {H : List Blk} {e : Option Nat}

/-- a convoy -/
def convOk (ls : List Ld) : Bool := cvAll none ls && ((decide (1 ≤ ls.length) && decide (ls.length ≤ 6)) && (match ls with | [] => false | l :: _ => decide (l.1 = 0)))

theorem e_s_l6Convoy {q : Nat} {c : Option Nat} {ls : List Ld} (h : cellsAt H q = some (encL ls)) (hn : ls.length ≤ 1048576) : call T pr f_s_l6Convoy [slL q ls.length c] ⟨H, e⟩ = some (.bool (convOk ls), ⟨H, e⟩) := by
  obtain ⟨z2, z3, z4, hl⟩ := loop_s_l6Convoy (pr := pr) (e := none) (c := c) h hn ls.length 0 .undef .undef rfl
  have h0 : ((0 : Nat) : Int) = 0 := rfl
  rw [h0, List.drop_zero] at hl
  rw [call_eq t_s_l6Convoy]
  unfold convOk
  have hp : prevAt ls 0 = none := rfl
  rw [hp] at hl
  cases h1 : cvAll none ls with
  | false =>
    rw [h1] at hl
    simp +contextual only [a_s_l6Convoy, c_s_l6Convoy, hl, go_sem, entry, joinEsc, if_pos, reduceIte, Nat.reduceAdd, Nat.reduceLeDiff, Nat.reduceLT, Nat.reduceEqDiff]
  | true =>
    rw [h1] at hl
    cases ls with
    | nil =>
      have hx : ¬ (1 : Int) ≤ ((([] : List Ld).length : Nat) : Int) := by simp
      generalize ([] : List Ld).length = N at *
      simp +contextual only [a_s_l6Convoy, c_s_l6Convoy, hl, e_s_l1In, hx, decide_false, go_sem, entry, joinEsc, if_pos, reduceIte, Nat.reduceAdd, Nat.reduceLeDiff, Nat.reduceLT, Nat.reduceEqDiff]
    | cons l ls =>
      have hl0 : (l :: ls)[0]? = some l := rfl
      have g0 := part_encL0 (ls := l :: ls) (i := 0) 1 hl0
      rw [Nat.zero_mul] at g0
      have hpos : (0 : Int) < (((l :: ls).length : Nat) : Int) := by simp only [List.length_cons]; omega
      have hnn : (0 : Int) ≤ 0 := Int.le_refl 0
      have htn : (0 : Int).toNat = 0 := rfl
      generalize hN : (l :: ls).length = N at *
      have e1 : decide ((1 : Int) ≤ (N : Int)) = decide (1 ≤ N) := decide_eq_decide.mpr (by omega)
      have e2 : decide ((N : Int) ≤ 6) = decide (N ≤ 6) := decide_eq_decide.mpr (by omega)
      simp +contextual only [a_s_l6Convoy, c_s_l6Convoy, hl, h, e_s_l1In, hpos, hnn, htn, Nat.zero_mul, g0, e1, e2, go_sem, entry, joinEsc, if_pos, reduceIte, Nat.reduceAdd, Nat.reduceLeDiff, Nat.reduceLT, Nat.reduceEqDiff]

def cvOkI (prev : Option Int) (l : Ld) : Bool := ((decide (0 ≤ l.1) && decide (l.1 ≤ 20)) && (decide (1 ≤ l.2) && decide (l.2 ≤ 99))) && (match prev with | none => decide (l.1 = 0) | some p => decide (p ≤ l.1))
def cvAllI (prev : Option Int) : List Ld → Bool
  | [] => true
  | l :: ls => cvOkI prev l && cvAllI (some l.1) ls

theorem cvAllI_some (p : Int) : ∀ ls, cvAllI (some p) ls = cvAll (some p) ls
  | [] => rfl
  | l :: ls => by simp only [cvAllI, cvAll, cvOkI, cvOk, cvAllI_some l.1 ls]

theorem convOk_eq (ls : List Ld) : convOk ls = (cvAllI none ls && (decide (1 ≤ ls.length) && decide (ls.length ≤ 6))) := by
  unfold convOk
  cases ls with
  | nil => simp
  | cons l ls =>
    simp only [cvAll, cvAllI, cvOk, cvOkI, cvAllI_some]
    cases decide (l.1 = 0) <;> cases (decide (0 ≤ l.1) && decide (l.1 ≤ 20)) <;> cases (decide (1 ≤ l.2) && decide (l.2 ≤ 99)) <;> simp

theorem loop_i_IsConvoy {q : Nat} {c : Option Nat} {ls : List Ld} (h : cellsAt H q = some (encL ls)) (hn : ls.length ≤ 1048576) :
    ∀ (k i : Nat) (G : List Blk) (y2 y3 y7 y8 : AV), k + i = ls.length → ∃ (G' : List Blk) (z2 z3 z6 z7 z8 : AV), run T pr (.loop w_i_IsConvoy_1) ⟨[slL q ls.length c, .bool false, y2, y3, slL q ls.length c, .int .i64 ls.length, .int .i64 i, y7, y8], ⟨H ++ G, e⟩⟩ =
      some (if cvAllI (prevAt ls i) (ls.drop i) = true then Ex.exit 0 else Ex.ret, ⟨[slL q ls.length c, .bool false, z2, z3, slL q ls.length c, .int .i64 ls.length, z6, z7, z8], ⟨H ++ G', e⟩⟩)
  | 0, i, G, y2, y3, y7, y8, hk => by
    have hi : i = ls.length := by omega
    subst hi
    refine ⟨G, y2, y3, .int .i64 ls.length, .bool false, y8, ?_⟩
    rw [run_loop]
    generalize run T pr (.loop w_i_IsConvoy_1) = R
    simp +contextual only [w_i_IsConvoy_1, Nat.lt_irrefl, decide_false, List.drop_length, cvAllI, go_sem, entry, joinEsc, if_pos, reduceIte, Nat.reduceAdd, Nat.reduceLeDiff, Nat.reduceLT, Nat.reduceEqDiff]
  | k + 1, i, G, y2, y3, y7, y8, hk => by
    have hi : i < ls.length := by omega
    have hl : ls[i]? = some ls[i] := List.getElem?_eq_getElem hi
    obtain ⟨G', z2, z3, z6, z7, z8, ih⟩ := loop_i_IsConvoy (c := c) h hn k (i + 1) (G ++ [.cells [.int .i64 ls[i].1, .int .i64 ls[i].2] true]) (.int .i64 i) (.ptr (some (H.length + G.length, 0))) (.bool true) (.bool false) (by omega)
    have hp : prevAt ls (i + 1) = some ls[i].1 := by simp [prevAt, hl]
    rw [hp] at ih
    rw [run_loop, List.drop_eq_getElem_cons hi, cvAllI]
    generalize run T pr (.loop w_i_IsConvoy_1) = R at ih ⊢
    unfold cvOkI
    cases h1 : (decide (0 ≤ ls[i].1) && decide (ls[i].1 ≤ 20)) with
    | false =>
      refine ⟨G ++ [.cells [.int .i64 ls[i].1, .int .i64 ls[i].2] true], .int .i64 i, .ptr (some (H.length + G.length, 0)), .int .i64 i, .bool true, .bool true, ?_⟩
      simp +contextual only [w_i_IsConvoy_1, cells_mono h, hi, hl, h1, part_encL hl, e_i_within, e_i_isWeight, decide_true, go_sem, entry, joinEsc, if_pos, reduceIte, Nat.reduceAdd, Nat.reduceLeDiff, Nat.reduceLT, Nat.reduceEqDiff]
    | true =>
      cases h2 : (decide (1 ≤ ls[i].2) && decide (ls[i].2 ≤ 99)) with
      | false =>
        refine ⟨G ++ [.cells [.int .i64 ls[i].1, .int .i64 ls[i].2] true], .int .i64 i, .ptr (some (H.length + G.length, 0)), .int .i64 i, .bool true, .bool true, ?_⟩
        simp +contextual only [w_i_IsConvoy_1, cells_mono h, hi, hl, h1, h2, part_encL hl, e_i_within, e_i_isWeight, decide_true, go_sem, entry, joinEsc, if_pos, reduceIte, Nat.reduceAdd, Nat.reduceLeDiff, Nat.reduceLT, Nat.reduceEqDiff]
      | true =>
        cases i with
        | zero =>
          have h00 : ¬ (0 : Int) < ((0 : Nat) : Int) := by omega
          have h01 : decide (((0 : Nat) : Int) = 0) = true := rfl
          cases h3 : decide (ls[0].1 = 0) with
          | false =>
            refine ⟨G ++ [.cells [.int .i64 ls[0].1, .int .i64 ls[0].2] true], .int .i64 (0 : Nat), .ptr (some (H.length + G.length, 0)), .int .i64 (0 : Nat), .bool true, .bool true, ?_⟩
            simp +contextual only [w_i_IsConvoy_1, cells_mono h, hi, hl, h1, h2, h3, h00, h01, prevAt, part_encL hl, e_i_within, e_i_isWeight, decide_true, decide_false, go_sem, entry, joinEsc, if_pos, reduceIte, Nat.reduceAdd, Nat.reduceLeDiff, Nat.reduceLT, Nat.reduceEqDiff]
          | true =>
            refine ⟨G', z2, z3, z6, z7, z8, ?_⟩
            simp +contextual only [w_i_IsConvoy_1, cells_mono h, hi, hl, h1, h2, h3, h00, h01, prevAt, part_encL hl, e_i_within, e_i_isWeight, wrap_succ (show 0 < 9223372036854775807 by omega), decide_true, decide_false, go_sem, entry, joinEsc, if_pos, reduceIte, Nat.reduceAdd, Nat.reduceLeDiff, Nat.reduceLT, Nat.reduceEqDiff]
            exact ih
        | succ i =>
          have hi' : i < ls.length := by omega
          have hl' : ls[i]? = some ls[i] := List.getElem?_eq_getElem hi'
          have hpos : (0 : Int) < ((i + 1 : Nat) : Int) := by omega
          have hne : ¬ (((i + 1 : Nat) : Int) = 0) := by omega
          have hp' : prevAt ls (i + 1) = some ls[i].1 := by simp [prevAt, hl']
          rw [hp']
          simp only []
          by_cases h3 : ls[i].1 ≤ ls[i + 1].1
          · refine ⟨G', z2, z3, z6, z7, z8, ?_⟩
            have h3' : ¬ ls[i + 1].1 < ls[i].1 := by omega
            simp +contextual only [w_i_IsConvoy_1, cells_mono h, hi, hi', hl, hl', h1, h2, h3, h3', hpos, hne, part_encL hl, part_encL0 _ hl', e_i_within, e_i_isWeight, wrap_pred (show i < 9223372036854775807 by omega), wrap_succ (show i + 1 < 9223372036854775807 by omega), decide_true, decide_false, go_sem, entry, joinEsc, if_pos, reduceIte, Nat.reduceAdd, Nat.reduceLeDiff, Nat.reduceLT, Nat.reduceEqDiff]
            exact ih
          · refine ⟨G ++ [.cells [.int .i64 ls[i + 1].1, .int .i64 ls[i + 1].2] true], .int .i64 (i + 1 : Nat), .ptr (some (H.length + G.length, 0)), .int .i64 (i + 1 : Nat), .bool true, .bool true, ?_⟩
            have h3' : ls[i + 1].1 < ls[i].1 := by omega
            simp +contextual only [w_i_IsConvoy_1, cells_mono h, hi, hi', hl, hl', h1, h2, h3, h3', hpos, hne, part_encL hl, part_encL0 _ hl', e_i_within, e_i_isWeight, wrap_pred (show i < 9223372036854775807 by omega), decide_true, decide_false, go_sem, entry, joinEsc, if_pos, reduceIte, Nat.reduceAdd, Nat.reduceLeDiff, Nat.reduceLT, Nat.reduceEqDiff]

theorem e_i_IsConvoy {q : Nat} {c : Option Nat} {ls : List Ld} (h : cellsAt H q = some (encL ls)) (hn : ls.length ≤ 1048576) : call T pr f_i_IsConvoy [slL q ls.length c] ⟨H, e⟩ = some (.bool (convOk ls), ⟨H, e⟩) := by
  obtain ⟨G', z2, z3, z6, z7, z8, hl⟩ := loop_i_IsConvoy (pr := pr) (e := none) (c := c) h hn ls.length 0 [] .undef .undef .undef .undef rfl
  have h0 : ((0 : Nat) : Int) = 0 := rfl
  rw [h0, List.drop_zero, List.append_nil] at hl
  rw [call_eq t_i_IsConvoy, convOk_eq]
  have hp : prevAt ls 0 = none := rfl
  rw [hp] at hl
  have e1 : decide ((1 : Int) ≤ (ls.length : Int)) = decide (1 ≤ ls.length) := decide_eq_decide.mpr (by omega)
  have e2 : decide ((ls.length : Int) ≤ 6) = decide (ls.length ≤ 6) := decide_eq_decide.mpr (by omega)
  cases h1 : cvAllI none ls <;> rw [h1] at hl <;> simp +contextual only [a_i_IsConvoy, c_i_IsConvoy, hl, e_i_within, e1, e2, go_sem, entry, joinEsc, if_pos, reduceIte, Nat.reduceAdd, Nat.reduceLeDiff, Nat.reduceLT, Nat.reduceEqDiff]

/-- all positions from a to b -/
def crossFrom (ls : List Ld) (a b : Int) : Nat → Nat → Bool
  | 0, _ => true
  | k + 1, x => decide (sideW (rowAt x ls) a b = 0) && crossFrom ls a b k (x + 1)

end Go.Proofs.Ytaikmfldjkbmmaa.Slim

/- Crossing, and its law. -/
namespace Go.Proofs.Ytaikmfldjkbmmaa.Slim
open Go
set_option linter.unusedSimpArgs false
set_option linter.unusedVariables false

variable {pr : Prims} {H : List Blk} {e : Option Nat}

theorem rowAt_length (x : Int) (ls : List Ld) : (rowAt x ls).length ≤ ls.length := by
  unfold rowAt
  rw [List.length_map]
  exact List.length_filter_le _ _

theorem cells_at (G : List Blk) (cs : List AV) (wr : Bool) : cellsAt (H ++ (G ++ [Blk.cells cs wr])) (H.length + G.length) = some cs := by
  rw [cellsAt_newk, cellsAt_new0, cellsAt_cons0]

theorem loop_s_CanCross {q u : Nat} {c : Option Nat} {ls : List Ld} {bv y6 : AV} {L : Nat} {a b : Int} (h : cellsAt H q = some (encL ls)) (hn : ls.length ≤ 1048576) (hL : L ≤ 60) (hu : cellsAt H u = some [.int .i64 L, .int .i64 a, .int .i64 b]) :
    ∀ (k i : Nat) (G : List Blk) (y7 y8 : AV), k + i = L + 1 → ∃ (G' : List Blk) (z5 z7 z8 : AV), run T pr (.loop w_s_CanCross_1) ⟨[bv, slL q ls.length c, .ptr (some (u, 0)), .bool false, .bool false, .int .i64 i, y6, y7, y8], ⟨H ++ G, e⟩⟩ =
      some (if crossFrom ls a b k i = true then Ex.exit 0 else Ex.ret, ⟨[bv, slL q ls.length c, .ptr (some (u, 0)), .bool false, .bool (!crossFrom ls a b k i), z5, y6, z7, z8], ⟨H ++ G', e⟩⟩)
  | 0, i, G, y7, y8, hk => by
    have hi : i = L + 1 := by omega
    subst hi
    refine ⟨G, .int .i64 (L + 1 : Nat), .bool false, y8, ?_⟩
    rw [run_loop]
    generalize run T pr (.loop w_s_CanCross_1) = R
    have hx : ¬ (((L + 1 : Nat) : Int) ≤ (L : Int)) := by omega
    simp +contextual only [w_s_CanCross_1, cells_mono hu, hx, decide_false, crossFrom, go_sem, entry, joinEsc, if_pos, reduceIte, Nat.reduceAdd, Nat.reduceLeDiff, Nat.reduceLT, Nat.reduceEqDiff]
  | k + 1, i, G, y7, y8, hk => by
    have hx : ((i : Nat) : Int) ≤ (L : Int) := by omega
    obtain ⟨cap, hat⟩ := e_s_l6At (pr := pr) (e := e) (c := c) (cells_mono h G) hn i
    have hs := e_s_l2Side (pr := pr) (e := e) (c := cap) (cells_at (H := H) G (encL (rowAt i ls)) true) (Nat.le_trans (rowAt_length i ls) (by omega)) a b
    simp only [List.length_append, List.append_assoc] at hat
    obtain ⟨G', z5, z7, z8, ih⟩ := loop_s_CanCross (c := c) (bv := bv) (y6 := y6) h hn hL hu k (i + 1) (G ++ [.cells (encL (rowAt i ls)) true]) (.bool true) (.bool false) (by omega)
    rw [run_loop, crossFrom]
    generalize run T pr (.loop w_s_CanCross_1) = R at ih ⊢
    cases h3 : decide (sideW (rowAt i ls) a b = 0) with
    | false =>
      refine ⟨G ++ [.cells (encL (rowAt i ls)) true], .int .i64 i, .bool true, .bool true, ?_⟩
      simp +contextual only [w_s_CanCross_1, cells_mono hu, hx, hat, hs, h3, decide_true, eq_self, go_sem, entry, joinEsc, if_pos, reduceIte, Nat.reduceAdd, Nat.reduceLeDiff, Nat.reduceLT, Nat.reduceEqDiff]
    | true =>
      refine ⟨G', z5, z7, z8, ?_⟩
      simp +contextual only [w_s_CanCross_1, cells_mono hu, hx, hat, hs, h3, wrap_succ (show i < 9223372036854775807 by omega), decide_true, eq_self, go_sem, entry, joinEsc, if_pos, reduceIte, Nat.reduceAdd, Nat.reduceLeDiff, Nat.reduceLT, Nat.reduceEqDiff]
      exact ih

theorem loop_i_CanCross {q u : Nat} {c : Option Nat} {ls : List Ld} {bv y6 : AV} {L : Nat} {a b : Int} (h : cellsAt H q = some (encL ls)) (hn : ls.length ≤ 1048576) (hL : L ≤ 60) (hu : cellsAt H u = some [.int .i64 L, .int .i64 a, .int .i64 b]) :
    ∀ (k i : Nat) (G : List Blk) (y5 y9 y10 : AV), k + i = L + 1 → ∃ (G' : List Blk) (z5 z8 z9 z10 : AV), run T pr (.loop w_i_CanCross_1) ⟨[bv, slL q ls.length c, .ptr (some (u, 0)), .bool false, .bool false, y5, y6, .int .i64 (L + 1 : Nat), .int .i64 i, y9, y10], ⟨H ++ G, e⟩⟩ =
      some (if crossFrom ls a b k i = true then Ex.exit 0 else Ex.ret, ⟨[bv, slL q ls.length c, .ptr (some (u, 0)), .bool false, .bool (!crossFrom ls a b k i), z5, y6, .int .i64 (L + 1 : Nat), z8, z9, z10], ⟨H ++ G', e⟩⟩)
  | 0, i, G, y5, y9, y10, hk => by
    have hi : i = L + 1 := by omega
    subst hi
    refine ⟨G, y5, .int .i64 (L + 1 : Nat), .bool false, y10, ?_⟩
    rw [run_loop]
    generalize run T pr (.loop w_i_CanCross_1) = R
    simp +contextual only [w_i_CanCross_1, Nat.lt_irrefl, decide_false, crossFrom, go_sem, entry, joinEsc, if_pos, reduceIte, Nat.reduceAdd, Nat.reduceLeDiff, Nat.reduceLT, Nat.reduceEqDiff]
  | k + 1, i, G, y5, y9, y10, hk => by
    have hx : i < L + 1 := by omega
    obtain ⟨cap, hat⟩ := e_i_convoyRow (pr := pr) (e := e) (c := c) (cells_mono h G) hn i
    have hs := e_i_Beam_rests (pr := pr) (e := e) (c := cap) (cells_at (H := H) G (encL (rowAt i ls)) true) (Nat.le_trans (rowAt_length i ls) (by omega)) L a b
    simp only [List.length_append, List.append_assoc] at hat
    obtain ⟨G', z5, z8, z9, z10, ih⟩ := loop_i_CanCross (c := c) (bv := bv) (y6 := y6) h hn hL hu k (i + 1) (G ++ [.cells (encL (rowAt i ls)) true]) (.int .i64 i) (.bool true) (.bool false) (by omega)
    rw [run_loop, crossFrom]
    generalize run T pr (.loop w_i_CanCross_1) = R at ih ⊢
    cases h3 : decide (sideW (rowAt i ls) a b = 0) with
    | false =>
      refine ⟨G ++ [.cells (encL (rowAt i ls)) true], .int .i64 i, .int .i64 i, .bool true, .bool true, ?_⟩
      simp +contextual only [w_i_CanCross_1, cells_mono hu, hx, hat, hs, h3, decide_true, eq_self, go_sem, entry, joinEsc, if_pos, reduceIte, Nat.reduceAdd, Nat.reduceLeDiff, Nat.reduceLT, Nat.reduceEqDiff]
    | true =>
      refine ⟨G', z5, z8, z9, z10, ?_⟩
      simp +contextual only [w_i_CanCross_1, cells_mono hu, hx, hat, hs, h3, wrap_succ (show i < 9223372036854775807 by omega), decide_true, eq_self, go_sem, entry, joinEsc, if_pos, reduceIte, Nat.reduceAdd, Nat.reduceLeDiff, Nat.reduceLT, Nat.reduceEqDiff]
      exact ih

/-- may it cross, and is that asked well? -/
def crossOk (x a b : Int) (ls : List Ld) : Bool := beamOk x a b && convOk ls

theorem e_s_CanCross {q : Nat} {c : Option Nat} {ls : List Ld} (h : cellsAt H q = some (encL ls)) (hn : ls.length ≤ 1048576) (x a b : Int) : call T pr f_s_CanCross [bmV x a b, slL q ls.length c] ⟨H, e⟩ =
    some (.tup [.bool (crossOk x a b ls && crossFrom ls a b (x.toNat + 1) 0), .bool (crossOk x a b ls)], ⟨H, e⟩) := by
  rw [call_eq t_s_CanCross]
  unfold crossOk
  cases h1 : beamOk x a b with
  | false => simp +contextual only [a_s_CanCross, c_s_CanCross, e_s_l6Beam, h1, go_sem, entry, joinEsc, if_pos, reduceIte, Nat.reduceAdd, Nat.reduceLeDiff, Nat.reduceLT, Nat.reduceEqDiff]
  | true =>
    cases h2 : convOk ls with
    | false => simp +contextual only [a_s_CanCross, c_s_CanCross, e_s_l6Beam, e_s_l6Convoy (cells_mono h _) hn, h1, h2, go_sem, entry, joinEsc, if_pos, reduceIte, Nat.reduceAdd, Nat.reduceLeDiff, Nat.reduceLT, Nat.reduceEqDiff]
    | true =>
      have hb : 1 ≤ x ∧ x ≤ 60 := by unfold beamOk at h1; simp at h1; omega
      obtain ⟨L, rfl⟩ : ∃ L : Nat, x = L := ⟨x.toNat, by omega⟩
      have hu : cellsAt (H ++ [Blk.cells [.int .i64 L, .int .i64 a, .int .i64 b] true]) H.length = some [.int .i64 L, .int .i64 a, .int .i64 b] := by simp [cellsAt, List.getElem?_append_right]
      obtain ⟨G', z5, z7, z8, hl⟩ := loop_s_CanCross (pr := pr) (e := none) (c := c) (bv := bmV L a b) (y6 := .bool false) (cells_mono h [Blk.cells [.int .i64 L, .int .i64 a, .int .i64 b] true]) hn (by omega) hu (L + 1) 0 [] .undef .undef rfl
      have h0 : ((0 : Nat) : Int) = 0 := rfl
      rw [h0, List.append_nil] at hl
      simp only [Int.toNat_natCast]
      cases h3 : crossFrom ls a b (L + 1) 0 <;> rw [h3] at hl <;> simp +contextual only [a_s_CanCross, c_s_CanCross, e_s_l6Beam, e_s_l6Convoy (cells_mono h _) hn, h1, h2, hl, go_sem, entry, joinEsc, if_pos, reduceIte, Nat.reduceAdd, Nat.reduceLeDiff, Nat.reduceLT, Nat.reduceEqDiff]

theorem e_i_CanCross {q : Nat} {c : Option Nat} {ls : List Ld} (h : cellsAt H q = some (encL ls)) (hn : ls.length ≤ 1048576) (x a b : Int) : call T pr f_i_CanCross [bmV x a b, slL q ls.length c] ⟨H, e⟩ =
    some (.tup [.bool (crossOk x a b ls && crossFrom ls a b (x.toNat + 1) 0), .bool (crossOk x a b ls)], ⟨H, e⟩) := by
  rw [call_eq t_i_CanCross]
  unfold crossOk
  cases h1 : beamOk x a b with
  | false => simp +contextual only [a_i_CanCross, c_i_CanCross, e_i_IsBeam, h1, go_sem, entry, joinEsc, if_pos, reduceIte, Nat.reduceAdd, Nat.reduceLeDiff, Nat.reduceLT, Nat.reduceEqDiff]
  | true =>
    cases h2 : convOk ls with
    | false => simp +contextual only [a_i_CanCross, c_i_CanCross, e_i_IsBeam, e_i_IsConvoy (cells_mono h _) hn, h1, h2, go_sem, entry, joinEsc, if_pos, reduceIte, Nat.reduceAdd, Nat.reduceLeDiff, Nat.reduceLT, Nat.reduceEqDiff]
    | true =>
      have hb : 1 ≤ x ∧ x ≤ 60 := by unfold beamOk at h1; simp at h1; omega
      obtain ⟨L, rfl⟩ : ∃ L : Nat, x = L := ⟨x.toNat, by omega⟩
      have hu : cellsAt (H ++ [Blk.cells [.int .i64 L, .int .i64 a, .int .i64 b] true]) H.length = some [.int .i64 L, .int .i64 a, .int .i64 b] := by simp [cellsAt, List.getElem?_append_right]
      obtain ⟨G', z5, z8, z9, z10, hl⟩ := loop_i_CanCross (pr := pr) (e := none) (c := c) (bv := bmV L a b) (y6 := .bool false) (cells_mono h [Blk.cells [.int .i64 L, .int .i64 a, .int .i64 b] true]) hn (by omega) hu (L + 1) 0 [] .undef .undef .undef rfl
      have h0 : ((0 : Nat) : Int) = 0 := rfl
      rw [h0, List.append_nil] at hl
      simp only [Int.toNat_natCast]
      cases h3 : crossFrom ls a b (L + 1) 0 <;> rw [h3] at hl <;> simp +contextual only [a_i_CanCross, c_i_CanCross, e_i_IsBeam, e_i_IsConvoy (cells_mono h _) hn, h1, h2, wrap_succ (show L < 9223372036854775807 by omega), hl, go_sem, entry, joinEsc, if_pos, reduceIte, Nat.reduceAdd, Nat.reduceLeDiff, Nat.reduceLT, Nat.reduceEqDiff]

theorem law_CanCross {av : AV} {ls : List Ld} (ha : ArgL H av ls) (x a b : Int) : ∃ m', call T pr f_l_FnExactCanCross [bmV x a b, av] ⟨H, none⟩ = some (.bool true, m') := by
  refine ⟨⟨H, none⟩, ?_⟩
  have hsz : ∀ G e', call T pr f_l_szLoadS [av, .int .i64 1048576] ⟨G, e'⟩ = some (.int .i64 (if ls.length ≤ 1048576 then 1048576 - ls.length else -1), ⟨G, e'⟩) := by
    obtain ⟨p, sz, c, rfl, h2, h3⟩ := ha
    exact fun G e' => e_l_szLoadS ls.length p sz c h2
  rw [call_eq t_l_FnExactCanCross]
  by_cases hn : ls.length ≤ 1048576
  · have hn' : ls.length ≤ 9223372036854775806 := by omega
    have hneg : ¬ (1048576 - (ls.length : Int) < 0) := by omega
    have hcopy := fun G => e_l_toLoadS (pr := pr) (e := none) (ha.more G) hn
    simp +contextual only [a_l_FnExactCanCross, c_l_FnExactCanCross, hsz, hn, hneg, decide_false, e_l_toBeam, hcopy, e_s_CanCross, e_i_CanCross, e_l_eqLoadS, hn', beq_self_eq_true, go_sem, entry, joinEsc, if_pos, reduceIte, Nat.reduceAdd, Nat.reduceLeDiff, Nat.reduceLT, Nat.reduceEqDiff]
  · simp +contextual only [a_l_FnExactCanCross, c_l_FnExactCanCross, hsz, hn, decide_true, show ((-1 : Int) < 0) by omega, go_sem, entry, joinEsc, if_pos, reduceIte, Nat.reduceAdd, Nat.reduceLeDiff, Nat.reduceLT, Nat.reduceEqDiff]

end Go.Proofs.Ytaikmfldjkbmmaa.Slim

/- Beams: reactions, shears and bends, told plainly. -/
namespace Go.Proofs.Ytaikmfldjkbmmaa.Slim

open Go

set_option linter.unusedSimpArgs false

set_option linter.unusedVariables false

/-- a number, or 0 if it is less -/
def mx (x : Int) : Int := if 0 < x then x else 0

def sumZ (g : Ld → Int) : List Ld → Int
  | [] => 0
  | l :: ls => g l + sumZ g ls

theorem sumZ_congr {g h : Ld → Int} : ∀ (ls : List Ld), (∀ l ∈ ls, g l = h l) → sumZ g ls = sumZ h ls
  | [], _ => rfl
  | l :: ls, k => by
    rw [sumZ, sumZ, k l (by simp), sumZ_congr ls (fun x hx => k x (by simp [hx]))]

theorem sumZ_add (g h : Ld → Int) : ∀ ls, sumZ (fun l => g l + h l) ls = sumZ g ls + sumZ h ls
  | [] => rfl
  | l :: ls => by rw [sumZ, sumZ, sumZ, sumZ_add g h ls]; omega

theorem sumZ_mul (c : Int) (g : Ld → Int) : ∀ ls, sumZ (fun l => c * g l) ls = c * sumZ g ls
  | [] => by simp [sumZ]
  | l :: ls => by rw [sumZ, sumZ, sumZ_mul c g ls, Int.mul_add]

theorem sumZ_neg (g : Ld → Int) : ∀ ls, sumZ (fun l => - g l) ls = - sumZ g ls
  | [] => by simp [sumZ]
  | l :: ls => by rw [sumZ, sumZ, sumZ_neg g ls]; omega

theorem sumZ_zero {g : Ld → Int} : ∀ (ls : List Ld), (∀ l ∈ ls, g l = 0) → sumZ g ls = 0
  | [], _ => rfl
  | l :: ls, h => by rw [sumZ, h l (by simp), sumZ_zero ls (fun x hx => h x (by simp [hx]))]; rfl

theorem sumZ_nonneg {g : Ld → Int} : ∀ (ls : List Ld), (∀ l ∈ ls, 0 ≤ g l) → 0 ≤ sumZ g ls
  | [], _ => Int.le_refl _
  | l :: ls, h => by
    have h1 := h l (by simp)
    have h2 := sumZ_nonneg ls (fun x hx => h x (by simp [hx]))
    rw [sumZ]; omega

theorem sumZ_bd {g : Ld → Int} {B : Int} (hB : 0 ≤ B) : ∀ (ls : List Ld), (∀ l ∈ ls, -B ≤ g l ∧ g l ≤ B) → -(B * ls.length) ≤ sumZ g ls ∧ sumZ g ls ≤ B * ls.length
  | [], _ => by simp [sumZ]
  | l :: ls, h => by
    have h1 := h l (by simp)
    have h2 := sumZ_bd hB ls (fun x hx => h x (by simp [hx]))
    rw [sumZ, List.length_cons, Int.natCast_add, Int.mul_add]
    omega

/-- the moment about a place, exactly -/
def momZ (ls : List Ld) (p : Int) : Int := sumZ (fun l => l.2 * (l.1 - p)) ls

theorem mul_bd60 {x d : Int} (h1 : 0 ≤ x) (h2 : x ≤ 99) (h3 : -60 ≤ d) (h4 : d ≤ 60) : -5940 ≤ x * d ∧ x * d ≤ 5940 := by
  have e1 : x * d ≤ x * 60 := Int.mul_le_mul_of_nonneg_left h4 h1
  have e2 : x * (-60) ≤ x * d := Int.mul_le_mul_of_nonneg_left h3 h1
  omega

theorem mom_fold {p M : Int} (hM : M ≤ 1000000000) (hp : 0 ≤ p ∧ p ≤ 60) (ls : List Ld) : ∀ (acc : Int), (∀ l ∈ ls, okL l = true) → -M + 5940 * ls.length ≤ acc → acc ≤ M - 5940 * ls.length → ls.foldl (momStep p) acc = acc + sumZ (fun l => l.2 * (l.1 - p)) ls := by
  induction ls with
  | nil => intro acc _ _ _; simp [sumZ]
  | cons l ls ih =>
    intro acc h h1 h2
    have hl := h l (by simp)
    unfold okL at hl
    simp only [Bool.and_eq_true, decide_eq_true_eq] at hl
    obtain ⟨m1, m2⟩ := mul_bd60 (x := l.2) (d := l.1 - p) (by omega) (by omega) (by omega) (by omega)
    simp only [List.length_cons] at h1 h2
    have hs : momStep p acc l = acc + l.2 * (l.1 - p) := by
      unfold momStep
      rw [show IntKind.i64.wrap (l.1 - p) = l.1 - p from wrap64 (by omega) (by omega), show IntKind.i64.wrap (l.2 * (l.1 - p)) = l.2 * (l.1 - p) from wrap64 (by omega) (by omega), show IntKind.i64.wrap (acc + l.2 * (l.1 - p)) = acc + l.2 * (l.1 - p) from wrap64 (by omega) (by omega)]
    rw [List.foldl_cons, hs, ih _ (fun x hx => h x (by simp [hx])) (by omega) (by omega), sumZ]
    omega

theorem row_facts {ls : List Ld} (h : rowOk ls = true) : ls.length ≤ 12 ∧ ∀ l ∈ ls, okL l = true := by
  unfold rowOk at h
  simp only [Bool.and_eq_true, decide_eq_true_eq, List.all_eq_true] at h
  exact h

theorem mom_at {ls : List Ld} (h : rowOk ls = true) {p : Int} (hp : 0 ≤ p ∧ p ≤ 60) : momW ls p = momZ ls p ∧ -71280 ≤ momZ ls p ∧ momZ ls p ≤ 71280 := by
  obtain ⟨h1, h2⟩ := row_facts h
  have hb := sumZ_bd (g := fun l => l.2 * (l.1 - p)) (B := 5940) (by omega) ls (fun l hl => by
    have hl := h2 l hl
    unfold okL at hl
    simp only [Bool.and_eq_true, decide_eq_true_eq] at hl
    exact mul_bd60 (by omega) (by omega) (by omega) (by omega))
  refine ⟨?_, ?_, ?_⟩
  · unfold momW momZ
    obtain ⟨M, hM⟩ : ∃ M : Int, M = 1000000000 := ⟨_, rfl⟩
    rw [mom_fold (M := M) (by omega) hp ls 0 h2 (by omega) (by omega), Int.zero_add]
  · unfold momZ; omega
  · unfold momZ; omega

/-- the bend at p of a weight of 1 at x, times the span (see t_s_l6Forces) -/
def fZ (L R x p : Int) : Int := (R - x) * mx (p - L) + (x - L) * mx (p - R) - (R - L) * mx (p - x)

/-- the shear right of p of a weight of 1 at x -/
def hZ (L R x p : Int) : Int := (if L ≤ p then R - x else 0) + (if R ≤ p then x - L else 0) - (if x ≤ p then R - L else 0)

/-- the force at p -/
def kZ (L R x p : Int) : Int := (if p = L then R - x else 0) + (if p = R then x - L else 0) - (if p = x then R - L else 0)

theorem mx_step (p c : Int) : mx (p + 1 - c) = mx (p - c) + if c ≤ p then 1 else 0 := by
  unfold mx
  split <;> split <;> split <;> omega

theorem fZ_step (L R x p : Int) : fZ L R x (p + 1) = fZ L R x p + hZ L R x p := by
  unfold fZ hZ
  rw [mx_step, mx_step, mx_step, Int.mul_add, Int.mul_add, Int.mul_add]
  split <;> split <;> split <;> omega

theorem hZ_step (L R x p : Int) : hZ L R x (p + 1) = hZ L R x p + kZ L R x (p + 1) := by
  unfold hZ kZ
  by_cases h1 : L ≤ p <;> by_cases h2 : R ≤ p <;> by_cases h3 : x ≤ p <;> by_cases h4 : p + 1 = L <;> by_cases h5 : p + 1 = R <;> by_cases h6 : p + 1 = x <;> simp only [h1, h2, h3, h4, h5, h6, if_true, if_false] <;> (repeat' split) <;> omega

theorem fZ_start {L R x : Int} (h1 : 0 ≤ L) (h2 : L < R) (h3 : 0 ≤ x) : fZ L R x 0 = 0 := by
  unfold fZ mx
  rw [if_neg (by omega), if_neg (by omega), if_neg (by omega)]
  omega

theorem hZ_start {L R x : Int} (h1 : 0 ≤ L) (h2 : L < R) (h3 : 0 ≤ x) : hZ L R x 0 = kZ L R x 0 := by
  unfold hZ kZ
  (repeat' split) <;> omega

theorem mx_nonneg {x : Int} (h : 0 ≤ x) : mx x = x := by
  unfold mx
  split <;> omega

theorem fZ_end {L R x n : Int} (h1 : L < R) (h2 : R ≤ n) (h3 : x ≤ n) : fZ L R x n = 0 := by
  unfold fZ
  rw [mx_nonneg (by omega), mx_nonneg (by omega), mx_nonneg (by omega)]
  grind

theorem mx_sym (t : Int) : mx t = t + mx (-t) := by
  unfold mx
  split <;> split <;> omega

theorem fZ_mirror (L R x p n : Int) : fZ (n - R) (n - L) (n - x) (n - p) = fZ L R x p := by
  unfold fZ
  rw [show n - p - (n - R) = -(p - R) by omega, show n - p - (n - L) = -(p - L) by omega, show n - p - (n - x) = -(p - x) by omega, mx_sym (p - L), mx_sym (p - R), mx_sym (p - x)]
  generalize mx (-(p - L)) = u
  generalize mx (-(p - R)) = v
  generalize mx (-(p - x)) = w
  grind

theorem fZ_simple {x p n : Int} (h1 : 0 ≤ x) (h2 : x ≤ n) (h3 : 0 ≤ p) (h4 : p ≤ n) : 0 ≤ fZ 0 n x p := by
  unfold fZ
  rw [mx_nonneg (x := p - 0) (by omega), show mx (p - n) = 0 by unfold mx; rw [if_neg (by omega)]]
  by_cases h : x ≤ p
  · rw [mx_nonneg (x := p - x) (by omega)]
    have : 0 ≤ x * (n - p) := Int.mul_nonneg h1 (by omega)
    grind
  · rw [show mx (p - x) = 0 by unfold mx; rw [if_neg (by omega)]]
    have : 0 ≤ (n - x) * p := Int.mul_nonneg (by omega) h3
    grind

def bendZ (L R : Int) (ls : List Ld) (p : Int) : Int := sumZ (fun l => l.2 * fZ L R l.1 p) ls
def shearZ (L R : Int) (ls : List Ld) (p : Int) : Int := sumZ (fun l => l.2 * hZ L R l.1 p) ls
def forceZ (L R : Int) (ls : List Ld) (p : Int) : Int := sumZ (fun l => l.2 * kZ L R l.1 p) ls

theorem bendZ_step (L R : Int) (ls : List Ld) (p : Int) : bendZ L R ls (p + 1) = bendZ L R ls p + shearZ L R ls p := by
  unfold bendZ shearZ
  rw [← sumZ_add]
  exact sumZ_congr _ fun l _ => by rw [fZ_step, Int.mul_add]

theorem shearZ_step (L R : Int) (ls : List Ld) (p : Int) : shearZ L R ls (p + 1) = shearZ L R ls p + forceZ L R ls (p + 1) := by
  unfold shearZ forceZ
  rw [← sumZ_add]
  exact sumZ_congr _ fun l _ => by rw [hZ_step, Int.mul_add]

/-- as the program tells bends -/
theorem bendZ_at (L R : Int) (ls : List Ld) (p : Int) : bendZ L R ls p = -momZ ls R * mx (p - L) + momZ ls L * mx (p - R) - sumZ (fun l => (R - L) * l.2 * mx (p - l.1)) ls := by
  unfold bendZ momZ
  induction ls with
  | nil => simp [sumZ]
  | cons l ls ih =>
    simp only [sumZ]
    rw [ih]
    unfold fZ
    generalize mx (p - L) = u
    generalize mx (p - R) = v
    generalize mx (p - l.1) = w
    grind

theorem shearZ_at (L R : Int) (ls : List Ld) (p : Int) : shearZ L R ls p = (if L ≤ p then -momZ ls R else 0) + (if R ≤ p then momZ ls L else 0) - sumZ (fun l => if l.1 ≤ p then (R - L) * l.2 else 0) ls := by
  unfold shearZ momZ
  induction ls with
  | nil => simp [sumZ]
  | cons l ls ih =>
    simp only [sumZ]
    rw [ih]
    unfold hZ
    (repeat' split) <;> grind

theorem forceZ_at (L R : Int) (ls : List Ld) (p : Int) : forceZ L R ls p = (if p = L then -momZ ls R else 0) + (if p = R then momZ ls L else 0) - sumZ (fun l => if p = l.1 then (R - L) * l.2 else 0) ls := by
  unfold forceZ momZ
  induction ls with
  | nil => simp [sumZ]
  | cons l ls ih =>
    simp only [sumZ]
    rw [ih]
    unfold kZ
    (repeat' split) <;> grind

theorem bendZ_one (L R x p : Int) : bendZ L R [(x, 1)] p = fZ L R x p := by
  simp [bendZ, sumZ]

theorem left_right (L R : Int) (ls : List Ld) : -momZ ls R + momZ ls L = sumZ (fun l => l.2) ls * (R - L) := by
  unfold momZ
  induction ls with
  | nil => simp [sumZ]
  | cons l ls ih =>
    simp only [sumZ]
    grind

end Go.Proofs.Ytaikmfldjkbmmaa.Slim

/- Slices of numbers. -/
namespace Go.Proofs.Ytaikmfldjkbmmaa.Slim

open Go

set_option linter.unusedSimpArgs false

set_option linter.unusedVariables false

variable {pr : Prims} {H : List Blk} {e : Option Nat}

abbrev encI (ls : List Int) : List AV := ls.map (AV.int .i64)

abbrev slI (b n : Nat) (c : Option Nat) : AV := .slice (some (b, 0)) 1 n c

theorem part_encI {ls : List Int} {i : Nat} {x : Int} (sz : Nat) (h : ls[i]? = some x) : part false (encI ls) i sz = some (.int .i64 x) := by
  rw [part_false, List.getElem?_map, h]; rfl

theorem under_encI (n : Nat) : ∀ ls : List Int, ((encI ls).all fun c => c.under n) = true
  | [] => rfl
  | l :: ls => by simp [encI, AV.under]

theorem zeros_encI : ∀ n, zeros n [.int .i64 0] = encI (List.replicate n 0)
  | 0 => rfl
  | n + 1 => by
    have := zeros_encI n
    unfold zeros encI at *
    simp only [List.replicate_succ, List.flatten_cons, List.map_cons, List.cons_append, List.nil_append, this]

theorem setRange_encI {X : List Int} {i : Nat} {a : Int} (h : i < X.length) : setRange (encI X) i [.int .i64 a] = encI (X.set i a) := by
  induction X generalizing i with
  | nil => simp at h
  | cons x X ih =>
    cases i with
    | zero => simp [encI, setRange]
    | succ i =>
      have := ih (i := i) (by simpa using h)
      simp only [encI, List.map_cons, List.set_cons_succ] at *
      rw [setRange_k, this]

theorem take_set_succ' {X ls : List Int} {i : Nat} (hi : i < ls.length) (hX : X.length = ls.length) (h : X.take i = ls.take i) : (X.set i ls[i]).take (i + 1) = ls.take (i + 1) := by
  rw [List.take_succ_eq_append_getElem (by rw [List.length_set]; omega), List.take_succ_eq_append_getElem hi]
  rw [List.take_set_of_le (Nat.le_refl _), h]
  simp

/-- a slice of numbers, as a law is handed it -/
def ArgI (H : List Blk) (av : AV) (ls : List Int) : Prop :=
  ∃ p sz c, av = .slice p sz ls.length c ∧ ls.length ≤ maxLen ∧ (ls ≠ [] → sz = 1 ∧ ∃ b, p = some (b, 0) ∧ cellsAt H b = some (encI ls))

theorem ArgI.more {av : AV} {ls : List Int} (h : ArgI H av ls) (G : List Blk) : ArgI (H ++ G) av ls := by
  obtain ⟨p, sz, c, h1, h2, h3⟩ := h
  refine ⟨p, sz, c, h1, h2, fun hne => ?_⟩
  obtain ⟨h4, b, h5, h6⟩ := h3 hne
  exact ⟨h4, b, h5, cells_mono h6 G⟩

theorem ints_of : ∀ (es : List (List Int)), (∀ e ∈ es, e.length = 1) → ∃ ls : List Int, es.flatten = ls ∧ ls.length = es.length
  | [], _ => ⟨[], rfl, rfl⟩
  | e :: es, h => by
    obtain ⟨ls, h1, h2⟩ := ints_of es (fun e' h' => h e' (by simp [h']))
    have h0 := h e (by simp)
    match e, h0 with
    | [x], _ => exact ⟨x :: ls, by simp [h1], by simp [h2]⟩

theorem argI_of {av : AV} {es : List (List Int)} (h : IsArg H av .i64 1 es) : ∃ ls, ArgI H av ls := by
  obtain ⟨h1, h2⟩ := h
  rcases h2 with ⟨rfl, rfl⟩ | ⟨b, cap, rfl, h3, h4, h5⟩
  · exact ⟨[], none, 0, none, rfl, Nat.zero_le _, fun h => absurd rfl h⟩
  · obtain ⟨ls, h6, h7⟩ := ints_of es (fun e he => (h1 e he).1)
    refine ⟨ls, some (b, 0), 1, some cap, by rw [h7], by omega, fun _ => ⟨rfl, b, rfl, ?_⟩⟩
    unfold cellsAt
    rw [h5, h6]

end Go.Proofs.Ytaikmfldjkbmmaa.Slim

/- Rafts: what is valid, and the reserves. -/
namespace Go.Proofs.Ytaikmfldjkbmmaa.Slim

open Go

set_option linter.unusedSimpArgs false

set_option linter.unusedVariables false

variable {pr : Prims} {H : List Blk} {e : Option Nat}

def baseOk (a b : Int) : Bool := ((decide (0 ≤ a) && decide (a ≤ 60)) && (decide (0 ≤ b) && decide (b ≤ 60))) && decide (a ≤ b)

abbrev rfV (a b o : Int) : AV := .agg [.int .i64 a, .int .i64 b, .int .i64 o]

def raftOk (a b o : Int) : Bool := baseOk a b && (decide (1 ≤ o) && decide (o ≤ 99))

def cargoOk (a b o : Int) (ls : List Ld) : Bool := (raftOk a b o && rowOk ls) && decide (ls.length ≤ 8)

end Go.Proofs.Ytaikmfldjkbmmaa.Slim

/- Rafts: the reserves. -/
namespace Go.Proofs.Ytaikmfldjkbmmaa.Slim

open Go

set_option linter.unusedSimpArgs false

set_option linter.unusedVariables false

variable {pr : Prims} {H : List Blk} {e : Option Nat}

abbrev wr (x : Int) : Int := IntKind.i64.wrap x

theorem wr_ex (x : Int) : ∃ k : Int, wr x = x + k * 18446744073709551616 := by
  refine ⟨if x % 18446744073709551616 ≥ 9223372036854775808 then -(x / 18446744073709551616) - 1 else -(x / 18446744073709551616), ?_⟩
  unfold wr IntKind.wrap
  simp [IntKind.signed, IntKind.bits]
  split <;> omega

theorem wr_add_mul (x k : Int) : wr (x + k * 18446744073709551616) = wr x := by
  unfold wr IntKind.wrap
  simp [IntKind.signed, IntKind.bits]

/-- is item i in the set n? -/
def bitW (n : Int) (i : Nat) : Bool := decide (andI .i64 (shrI .i64 n i) 1 = 1)

def resL (a acc : Int) (l : Ld) : Int := wr (acc + wr (wr (2 * l.2) * wr (l.1 - a)))

def resR (b acc : Int) (l : Ld) : Int := wr (acc + wr (wr (2 * l.2) * wr (b - l.1)))

theorem resR_eq (b acc : Int) (l : Ld) : wr (acc - wr (wr (2 * l.2) * wr (l.1 - b))) = resR b acc l := by
  unfold resR
  obtain ⟨k1, h1⟩ := wr_ex (l.1 - b)
  obtain ⟨k2, h2⟩ := wr_ex (b - l.1)
  generalize wr (2 * l.2) = u
  obtain ⟨k3, h3⟩ := wr_ex (u * wr (l.1 - b))
  obtain ⟨k4, h4⟩ := wr_ex (u * wr (b - l.1))
  rw [h3, h4, h1, h2]
  have : acc - (u * (l.1 - b + k1 * 18446744073709551616) + k3 * 18446744073709551616) = acc + (u * (b - l.1 + k2 * 18446744073709551616) + k4 * 18446744073709551616) + (-(u * (k1 + k2)) - k3 - k4) * 18446744073709551616 := by
    have e1 : u * (l.1 - b + k1 * 18446744073709551616) = u * (l.1 - b) + u * k1 * 18446744073709551616 := by rw [Int.mul_add, Int.mul_assoc]
    have e2 : u * (b - l.1 + k2 * 18446744073709551616) = u * (b - l.1) + u * k2 * 18446744073709551616 := by rw [Int.mul_add, Int.mul_assoc]
    have e3 : u * (b - l.1) = -(u * (l.1 - b)) := by rw [← Int.mul_neg]; congr 1; omega
    have e4 : u * (k1 + k2) = u * k1 + u * k2 := Int.mul_add _ _ _
    rw [e1, e2, e3, e4]
    omega
  rw [this, wr_add_mul]

/-- over the items of the set n, from number i on -/
def overBits (f : Int → Ld → Int) (n : Int) : Nat → List Ld → Int → Int
  | _, [], acc => acc
  | i, l :: ls, acc => overBits f n (i + 1) ls (if bitW n i = true then f acc l else acc)

theorem shr_nat (x : Int) (i : Nat) : binop 0 .shr (.int .i64 x) (.int .i64 (i : Int)) = some (.int .i64 (shrI .i64 x i)) := by
  rw [binop_shr, if_neg (by omega)]

end Go.Proofs.Ytaikmfldjkbmmaa.Slim

/- Marks on memory that is told apart; results of two. -/
namespace Go.Proofs.Ytaikmfldjkbmmaa.Slim

open Go

set_option linter.unusedSimpArgs false

set_option linter.unusedVariables false

variable {pr : Prims} {H : List Blk} {e : Option Nat}

theorem finish_one_set (v : AV) (e0 : Option Nat) (b : Nat) (x : Blk) (h : v.under H.length = true) : finish 1 H.length e0 v ⟨H.set b x, none⟩ = some (v, ⟨H.set b x, e0⟩) := by
  have : (H.set b x).take H.length = H.set b x := List.take_of_length_le (by simp)
  simp [finish, h, clean, this]

theorem finish_two_sb {G : List Blk} {j sz n o : Nat} {c : Option Nat} {cs : List AV} {wr : Bool} (x : Bool) (e0 : Option Nat) (hG : G[j]? = some (.cells cs wr)) (h : (cs.all fun c => c.under H.length) = true) :
    finish 2 H.length e0 (.tup [.slice (some (H.length + j, o)) sz n c, .bool x]) ⟨H ++ G, none⟩ = some (.tup [.slice (some (H.length, o)) sz n c, .bool x], ⟨H ++ [.cells cs wr], e0⟩) := by
  have hlt : ¬ H.length + j < H.length := by omega
  have hr : dedup (AV.roots H.length (.tup [.slice (some (H.length + j, o)) sz n c, .bool x])) = [H.length + j] := by
    unfold AV.roots AV.roots.go AV.roots.go AV.roots.go AV.roots
    rw [if_neg hlt]
    rfl
  have hb : (H ++ G)[H.length + j]? = some (.cells cs wr) := by rw [List.getElem?_append_right (by omega)]; simpa using hG
  unfold finish
  simp only [hr]
  have h2 : ([H.length + j].all fun b => flatBlk H.length (H ++ G)[b]?) = true := by
    simp only [List.all_cons, List.all_nil, Bool.and_true, hb, flatBlk]
    exact h
  simp only [clean, h2, and_self, if_true]
  simp [AV.rename, AV.rename.go, renum, hb, hlt]

theorem finish_two_sb0 (sz n : Nat) (c : Option Nat) (cs : List AV) (wr : Bool) (x : Bool) (e0 : Option Nat) (h : (cs.all fun c => c.under H.length) = true) :
    finish 2 H.length e0 (.tup [.slice (some (H.length, 0)) sz n c, .bool x]) ⟨H ++ [.cells cs wr], none⟩ = some (.tup [.slice (some (H.length, 0)) sz n c, .bool x], ⟨H ++ [.cells cs wr], e0⟩) :=
  finish_two_sb (G := [.cells cs wr]) (j := 0) x e0 rfl h

theorem finish_two_nb {G : List Blk} {sz n : Nat} {c : Option Nat} (x : Bool) (e0 : Option Nat) :
    finish 2 H.length e0 (.tup [.slice none sz n c, .bool x]) ⟨H ++ G, none⟩ = some (.tup [.slice none sz n c, .bool x], ⟨H, e0⟩) := by
  have hr : dedup (AV.roots H.length (.tup [.slice none sz n c, .bool x])) = [] := rfl
  unfold finish
  simp only [hr]
  simp [AV.rename, AV.rename.go, clean]

theorem set_same {L : List Blk} {b : Nat} {x : Blk} (h : L[b]? = some x) : L.set b x = L := by
  apply List.ext_getElem?
  intro i
  rw [List.getElem?_set]
  split
  · rename_i hi
    subst hi
    rw [h]
    rw [if_pos (List.getElem?_eq_some_iff.mp h).1]
  · rfl

def markedI (k : Nat) : Nat → List Int
  | 0 => []
  | n + 1 => (k : Int) :: markedI (k + 1) n

theorem markedI_length (k : Nat) : ∀ n, (markedI k n).length = n
  | 0 => rfl
  | n + 1 => by rw [markedI, List.length_cons, markedI_length (k + 1) n]

theorem markedI_get : ∀ (n k i : Nat), i < n → (markedI k n)[i]? = some ((k + i : Nat) : Int)
  | 0, k, i, h => by omega
  | n + 1, k, 0, h => by simp [markedI]
  | n + 1, k, i + 1, h => by
    rw [markedI, List.getElem?_cons_succ, markedI_get n (k + 1) i (by omega), show k + 1 + i = k + (i + 1) by omega]

theorem setRange_mid (P R : List Int) (r a : Int) : setRange (encI (P ++ r :: R)) P.length [.int .i64 a] = encI ((P ++ [a]) ++ R) := by
  rw [setRange_encI (by simp)]
  simp

def markedL (k : Nat) : Nat → List Ld
  | 0 => []
  | n + 1 => ((k : Int), ((k + 1 : Nat) : Int)) :: markedL (k + 2) n

theorem setRange_midL0 (P R : List Ld) (r : Ld) (a : Int) : setRange (encL (P ++ r :: R)) (P.length * 2) [.int .i64 a] = encL (P ++ (a, r.2) :: R) := by
  induction P with
  | nil => simp [encL, setRange]
  | cons p P ih =>
    simp only [encL, List.cons_append, List.length_cons, Nat.add_mul, Nat.one_mul] at *
    rw [setRange_k, setRange_k, ih]

theorem setRange_midL1 (P R : List Ld) (r : Ld) (a : Int) : setRange (encL (P ++ r :: R)) (P.length * 2 + 1) [.int .i64 a] = encL (P ++ (r.1, a) :: R) := by
  induction P with
  | nil => simp [encL, setRange]
  | cons p P ih =>
    simp only [encL, List.cons_append, List.length_cons, Nat.add_mul, Nat.one_mul] at *
    rw [show P.length * 2 + 2 + 1 = P.length * 2 + 1 + 1 + 1 by omega, setRange_k, setRange_k, ih]

end Go.Proofs.Ytaikmfldjkbmmaa.Slim

/- Stages of a chain: what is valid, copies, marks. -/
namespace Go.Proofs.Ytaikmfldjkbmmaa.Slim

open Go

set_option linter.unusedSimpArgs false

set_option linter.unusedVariables false

variable {pr : Prims} {H : List Blk} {e : Option Nat}

def ratioOk (x : Int) : Bool := decide (1 ≤ x) && decide (x ≤ 24)

/-- a stage: its kind and its two numbers -/
abbrev Sg := Int × Int × Int

def stageOk (s : Sg) : Bool :=
  if s.1 = 1 then ratioOk s.2.1 && ratioOk s.2.2 else if s.1 = 3 then ratioOk s.2.1 && ratioOk s.2.2 else if s.1 = 2 then ratioOk s.2.1 && decide (s.2.2 = 0)
  else if s.1 = 4 then (ratioOk s.2.1 && ratioOk s.2.2) && decide (s.2.2 ≤ s.2.1) else if s.1 = 5 then (ratioOk s.2.1 && ratioOk s.2.2) && decide (s.2.2 < s.2.1) else false

abbrev sgV (s : Sg) : AV := .agg [.int .i64 s.1, .int .i64 s.2.1, .int .i64 s.2.2]

def encS : List Sg → List AV
  | [] => []
  | s :: ss => .int .i64 s.1 :: .int .i64 s.2.1 :: .int .i64 s.2.2 :: encS ss

theorem encS_length : ∀ ss : List Sg, (encS ss).length = ss.length * 3
  | [] => rfl
  | s :: ss => by simp [encS, encS_length ss]; omega

theorem part_encS {ss : List Sg} {i : Nat} {s : Sg} (h : ss[i]? = some s) : part true (encS ss) (i * 3) 3 = some (.agg [.int .i64 s.1, .int .i64 s.2.1, .int .i64 s.2.2]) := by
  induction ss generalizing i with
  | nil => simp at h
  | cons a ss ih =>
    cases i with
    | zero => simp at h; subst h; simp [encS, part]
    | succ i =>
      simp at h
      rw [show (i + 1) * 3 = i * 3 + 1 + 1 + 1 by omega, encS, part_tk, part_tk, part_tk]
      exact ih h

theorem setRange_encS {X : List Sg} {i : Nat} {k a b : Int} (h : i < X.length) : setRange (encS X) (i * 3) [.int .i64 k, .int .i64 a, .int .i64 b] = encS (X.set i (k, a, b)) := by
  induction X generalizing i with
  | nil => simp at h
  | cons x X ih =>
    cases i with
    | zero => simp [encS, setRange]
    | succ i =>
      rw [show (i + 1) * 3 = i * 3 + 1 + 1 + 1 by omega, encS, setRange_k, setRange_k, setRange_k, ih (by simpa using h)]
      rfl

theorem under_encS (n : Nat) : ∀ ss : List Sg, ((encS ss).all fun c => c.under n) = true
  | [] => rfl
  | s :: ss => by simp [encS, AV.under, under_encS n ss]

theorem zeros_encS : ∀ n, zeros n [.int .i64 0, .int .i64 0, .int .i64 0] = encS (List.replicate n (0, 0, 0))
  | 0 => rfl
  | n + 1 => by
    have := zeros_encS n
    unfold zeros at *
    simp only [List.replicate_succ, List.flatten_cons, encS, List.cons_append, List.nil_append, this]

theorem take_set_succS {X ss : List Sg} {i : Nat} (hi : i < ss.length) (hX : X.length = ss.length) (h : X.take i = ss.take i) : (X.set i ss[i]).take (i + 1) = ss.take (i + 1) := by
  rw [List.take_succ_eq_append_getElem (by rw [List.length_set]; omega), List.take_succ_eq_append_getElem hi]
  rw [List.take_set_of_le (Nat.le_refl _), h]
  simp

abbrev slS (b n : Nat) (c : Option Nat) : AV := .slice (some (b, 0)) 3 n c

/-- a slice of stages, as a law is handed it -/
def ArgS (H : List Blk) (av : AV) (ss : List Sg) : Prop :=
  ∃ p sz c, av = .slice p sz ss.length c ∧ ss.length ≤ maxLen ∧ (ss ≠ [] → sz = 3 ∧ ∃ b, p = some (b, 0) ∧ cellsAt H b = some (encS ss))

theorem ArgS.more {av : AV} {ss : List Sg} (h : ArgS H av ss) (G : List Blk) : ArgS (H ++ G) av ss := by
  obtain ⟨p, sz, c, h1, h2, h3⟩ := h
  refine ⟨p, sz, c, h1, h2, fun hne => ?_⟩
  obtain ⟨h4, b, h5, h6⟩ := h3 hne
  exact ⟨h4, b, h5, cells_mono h6 G⟩

theorem stages_of : ∀ (es : List (List Int)), (∀ e ∈ es, e.length = 3) → ∃ ss : List Sg, es.flatten.map (AV.int .i64) = encS ss ∧ ss.length = es.length
  | [], _ => ⟨[], rfl, rfl⟩
  | e :: es, h => by
    obtain ⟨ss, h1, h2⟩ := stages_of es (fun e' h' => h e' (by simp [h']))
    have h0 := h e (by simp)
    match e, h0 with
    | [x, y, z], _ => exact ⟨(x, y, z) :: ss, by simp [encS, h1], by simp [h2]⟩

theorem argS_of {av : AV} {es : List (List Int)} (h : IsArg H av .i64 3 es) : ∃ ss, ArgS H av ss := by
  obtain ⟨h1, h2⟩ := h
  rcases h2 with ⟨rfl, rfl⟩ | ⟨b, cap, rfl, h3, h4, h5⟩
  · exact ⟨[], none, 0, none, rfl, Nat.zero_le _, fun h => absurd rfl h⟩
  · obtain ⟨ss, h6, h7⟩ := stages_of es (fun e he => (h1 e he).1)
    refine ⟨ss, some (b, 0), 3, some cap, by rw [h7], by omega, fun _ => ⟨rfl, b, rfl, ?_⟩⟩
    unfold cellsAt
    rw [h5, h6]

def chainOk (ls : List Sg) : Bool := ls.all stageOk && decide (ls.length ≤ 5)

end Go.Proofs.Ytaikmfldjkbmmaa.Slim

/- Stands: what is valid, copies, new ones; their laws. -/
namespace Go.Proofs.Ytaikmfldjkbmmaa.Slim

open Go

set_option linter.unusedSimpArgs false

set_option linter.unusedVariables false

variable {pr : Prims} {H : List Blk} {e : Option Nat}

abbrev stV (row : AV) (a b : Int) (chain : AV) (t k : Int) : AV := .agg [row, .int .i64 a, .int .i64 b, chain, .int .i64 t, .int .i64 k]

theorem clean_minEsc (lim b : Nat) (e : Option Nat) : clean lim (minEsc e b) = (clean lim e && decide (lim ≤ b)) := by
  cases e with
  | none => simp [clean, minEsc]
  | some x => simp [clean, minEsc, Nat.le_min]

theorem clean_none (lim : Nat) : clean lim none = true := Eq.trans rfl rfl

theorem under_slice (n b o sz k : Nat) (c : Option Nat) : (AV.slice (some (b, o)) sz k c).under n = decide (b < n) := by simp [AV.under]

theorem under_sliceN (n sz k : Nat) (c : Option Nat) : (AV.slice none sz k c).under n = true := by simp [AV.under]

theorem finish_stand {G : List Blk} {j1 j2 n1 n2 : Nat} {c1 c2 : Option Nat} {cs1 cs2 : List AV} {w1 w2 : Bool} (a b t k : Int) (e0 e1 : Option Nat) (hc : clean H.length e1 = true) (h1 : G[j1]? = some (.cells cs1 w1)) (h2 : G[j2]? = some (.cells cs2 w2)) (hne : j1 ≠ j2)
    (u1 : (cs1.all fun c => c.under H.length) = true) (u2 : (cs2.all fun c => c.under H.length) = true) :
    finish 2 H.length e0 (stV (slL (H.length + j1) n1 c1) a b (slS (H.length + j2) n2 c2) t k) ⟨H ++ G, e1⟩ = some (stV (slL H.length n1 c1) a b (slS (H.length + 1) n2 c2) t k, ⟨H ++ [.cells cs1 w1, .cells cs2 w2], e0⟩) := by
  have hlt1 : ¬ H.length + j1 < H.length := by omega
  have hlt2 : ¬ H.length + j2 < H.length := by omega
  have hne' : ¬ H.length + j2 = H.length + j1 := by omega
  have hr : dedup (AV.roots H.length (stV (slL (H.length + j1) n1 c1) a b (slS (H.length + j2) n2 c2) t k)) = [H.length + j1, H.length + j2] := by
    simp only [AV.roots, AV.roots.go, if_neg hlt1, if_neg hlt2, List.nil_append, List.cons_append, List.append_nil]
    simp [dedup, hne', hne, Ne.symm hne]
  have hb1 : (H ++ G)[H.length + j1]? = some (.cells cs1 w1) := by rw [List.getElem?_append_right (by omega)]; simpa using h1
  have hb2 : (H ++ G)[H.length + j2]? = some (.cells cs2 w2) := by rw [List.getElem?_append_right (by omega)]; simpa using h2
  unfold finish
  simp only [hr]
  have h3 : ([H.length + j1, H.length + j2].all fun b => flatBlk H.length (H ++ G)[b]?) = true := by
    simp only [List.all_cons, List.all_nil, Bool.and_true, hb1, hb2, flatBlk, u1, u2, Bool.and_self]
  simp only [hc, h3, and_self, if_true]
  have hq : (H.length + j1 == H.length + j2) = false := by simpa using hne
  simp [AV.rename, AV.rename.go, renum, hb1, hb2, List.idxOf_cons]
  refine ⟨fun h => by omega, ?_⟩
  rw [if_neg hlt2, hq]
  rfl

theorem finish_standB {G : List Blk} {j1 j2 n1 n2 : Nat} {c1 c2 : Option Nat} {cs1 cs2 : List AV} {w1 w2 : Bool} (a b t k : Int) (x : Bool) (e0 e1 : Option Nat) (hc : clean H.length e1 = true) (h1 : G[j1]? = some (.cells cs1 w1)) (h2 : G[j2]? = some (.cells cs2 w2)) (hne : j1 ≠ j2)
    (u1 : (cs1.all fun c => c.under H.length) = true) (u2 : (cs2.all fun c => c.under H.length) = true) :
    finish 2 H.length e0 (.tup [stV (slL (H.length + j1) n1 c1) a b (slS (H.length + j2) n2 c2) t k, .bool x]) ⟨H ++ G, e1⟩ = some (.tup [stV (slL H.length n1 c1) a b (slS (H.length + 1) n2 c2) t k, .bool x], ⟨H ++ [.cells cs1 w1, .cells cs2 w2], e0⟩) := by
  have hlt1 : ¬ H.length + j1 < H.length := by omega
  have hlt2 : ¬ H.length + j2 < H.length := by omega
  have hne' : ¬ H.length + j2 = H.length + j1 := by omega
  have hr : dedup (AV.roots H.length (.tup [stV (slL (H.length + j1) n1 c1) a b (slS (H.length + j2) n2 c2) t k, .bool x])) = [H.length + j1, H.length + j2] := by
    simp only [AV.roots, AV.roots.go, if_neg hlt1, if_neg hlt2, List.nil_append, List.cons_append, List.append_nil]
    simp [dedup, hne', hne, Ne.symm hne]
  have hb1 : (H ++ G)[H.length + j1]? = some (.cells cs1 w1) := by rw [List.getElem?_append_right (by omega)]; simpa using h1
  have hb2 : (H ++ G)[H.length + j2]? = some (.cells cs2 w2) := by rw [List.getElem?_append_right (by omega)]; simpa using h2
  unfold finish
  simp only [hr]
  have h3 : ([H.length + j1, H.length + j2].all fun b => flatBlk H.length (H ++ G)[b]?) = true := by
    simp only [List.all_cons, List.all_nil, Bool.and_true, hb1, hb2, flatBlk, u1, u2, Bool.and_self]
  simp only [hc, h3, and_self, if_true]
  have hq : (H.length + j1 == H.length + j2) = false := by simpa using hne
  simp [AV.rename, AV.rename.go, renum, hb1, hb2, List.idxOf_cons]
  refine ⟨fun h => by omega, ?_⟩
  rw [if_neg hlt2, hq]
  rfl

theorem finish_standN {G : List Blk} {s1 s2 n1 n2 : Nat} {c1 c2 : Option Nat} (a b t k : Int) (x : Bool) (e0 e1 : Option Nat) (hc : clean H.length e1 = true) :
    finish 2 H.length e0 (.tup [stV (.slice none s1 n1 c1) a b (.slice none s2 n2 c2) t k, .bool x]) ⟨H ++ G, e1⟩ = some (.tup [stV (.slice none s1 n1 c1) a b (.slice none s2 n2 c2) t k, .bool x], ⟨H, e0⟩) := by
  have hr : dedup (AV.roots H.length (.tup [stV (.slice none s1 n1 c1) a b (.slice none s2 n2 c2) t k, .bool x])) = [] := rfl
  unfold finish
  simp only [hr]
  simp [AV.rename, AV.rename.go, hc]

theorem e_l_eqLoadS_none {p1 p2 : Option (Nat × Nat)} {s1 s2 : Nat} {c1 c2 : Option Nat} : call T pr f_l_eqLoadS [.slice p1 s1 0 c1, .slice p2 s2 0 c2] ⟨H, e⟩ = some (.bool true, ⟨H, e⟩) := by
  have h0 : ((0 : Nat) : Int) = 0 := rfl
  rw [call_eq t_l_eqLoadS]
  have hl : run T pr (.loop w_l_eqLoadS_1) ⟨[.slice p1 s1 0 c1, .slice p2 s2 0 c2, .bool false, .int .i64 0, .bool false, .undef, .undef], ⟨H, none⟩⟩ = some (.exit 0, ⟨[.slice p1 s1 0 c1, .slice p2 s2 0 c2, .bool false, .int .i64 0, .bool false, .bool false, .undef], ⟨H, none⟩⟩) := by
    rw [run_loop]
    generalize run T pr (.loop w_l_eqLoadS_1) = R
    simp +contextual only [w_l_eqLoadS_1, h0, Int.lt_irrefl, decide_false, go_sem, entry, joinEsc, if_pos, reduceIte, Nat.reduceAdd, Nat.reduceLeDiff, Nat.reduceLT, Nat.reduceEqDiff]
  simp +contextual only [a_l_eqLoadS, c_l_eqLoadS, hl, h0, decide_true, go_sem, entry, joinEsc, if_pos, reduceIte, Nat.reduceAdd, Nat.reduceLeDiff, Nat.reduceLT, Nat.reduceEqDiff]

theorem e_i_IsRow_none {p1 : Option (Nat × Nat)} {s1 : Nat} {c1 : Option Nat} : call T pr f_i_IsRow [.slice p1 s1 0 c1] ⟨H, e⟩ = some (.bool true, ⟨H, e⟩) := by
  have h0 : ((0 : Nat) : Int) = 0 := rfl
  have hl : run T pr (.loop w_slices_IndexFunc_Si_Load_i_Load_1) ⟨[.slice p1 s1 0 c1, .fn f_i_IsRow_1 [] [], .int .i64 0, .undef, .int .i64 0, .int .i64 0, .undef, .undef], ⟨H, none⟩⟩ = some (.exit 0, ⟨[.slice p1 s1 0 c1, .fn f_i_IsRow_1 [] [], .int .i64 0, .undef, .int .i64 0, .int .i64 0, .bool false, .undef], ⟨H, none⟩⟩) := by
    rw [run_loop]
    generalize run T pr (.loop w_slices_IndexFunc_Si_Load_i_Load_1) = R
    simp +contextual only [w_slices_IndexFunc_Si_Load_i_Load_1, h0, Int.lt_irrefl, decide_false, go_sem, entry, joinEsc, if_pos, reduceIte, Nat.reduceAdd, Nat.reduceLeDiff, Nat.reduceLT, Nat.reduceEqDiff]
  have h1 : ∀ e', call T pr f_slices_IndexFunc_Si_Load_i_Load [.slice p1 s1 0 c1, .fn f_i_IsRow_1 [] []] ⟨H, e'⟩ = some (.int .i64 (-1), ⟨H, e'⟩) := by
    intro e'
    rw [call_eq t_slices_IndexFunc_Si_Load_i_Load]
    simp +contextual only [a_slices_IndexFunc_Si_Load_i_Load, c_slices_IndexFunc_Si_Load_i_Load, hl, h0, go_sem, entry, joinEsc, if_pos, reduceIte, Nat.reduceAdd, Nat.reduceLeDiff, Nat.reduceLT, Nat.reduceEqDiff]
  have h2 : ∀ e', call T pr f_slices_ContainsFunc_Si_Load_i_Load [.slice p1 s1 0 c1, .fn f_i_IsRow_1 [] []] ⟨H, e'⟩ = some (.bool false, ⟨H, e'⟩) := by
    intro e'
    rw [call_eq t_slices_ContainsFunc_Si_Load_i_Load]
    simp +contextual only [a_slices_ContainsFunc_Si_Load_i_Load, c_slices_ContainsFunc_Si_Load_i_Load, h1, show ¬ ((0 : Int) ≤ -1) by omega, decide_false, go_sem, entry, joinEsc, if_pos, reduceIte, Nat.reduceAdd, Nat.reduceLeDiff, Nat.reduceLT, Nat.reduceEqDiff]
  rw [call_eq t_i_IsRow]
  simp +contextual only [a_i_IsRow, c_i_IsRow, h2, h0, show ¬ ((12 : Int) < 0) by omega, decide_false, go_sem, entry, joinEsc, if_pos, reduceIte, Nat.reduceAdd, Nat.reduceLeDiff, Nat.reduceLT, Nat.reduceEqDiff]

/-- the rest of a stand -/
def restOk (a b t k : Int) : Bool := baseOk a b && ((decide (0 ≤ k) && decide (k ≤ 1000)) && (decide (0 ≤ t) && decide (t ≤ k)))

end Go.Proofs.Ytaikmfldjkbmmaa.Slim

/- Fractions, the gain of a chain, and the pull of a row; the law. -/
namespace Go.Proofs.Ytaikmfldjkbmmaa.Slim

open Go

set_option linter.unusedSimpArgs false

set_option linter.unusedVariables false

variable {pr : Prims} {H : List Blk} {e : Option Nat}

theorem wrapN {x : Nat} (h : x ≤ 9223372036854775807) : IntKind.i64.wrap (x : Int) = (x : Int) := wrap64 (by omega) (by omega)

theorem e_s_l1Most (a b : Int) : call T pr f_s_l1Most [.int .i64 a, .int .i64 b] ⟨H, e⟩ = some (.int .i64 (if b < a then a else b), ⟨H, e⟩) := by
  rw [call_eq t_s_l1Most]
  by_cases h : b < a <;> simp +contextual only [a_s_l1Most, c_s_l1Most, h, decide_true, decide_false, go_sem, entry, joinEsc, if_pos, reduceIte, Nat.reduceAdd, Nat.reduceLeDiff, Nat.reduceLT, Nat.reduceEqDiff]

/-- a fraction in lowest terms -/
def fracA (x y : Nat) : Nat := x / Nat.gcd y x
def fracB (x y : Nat) : Nat := y / Nat.gcd y x

abbrev fvV (x y : Nat) : AV := .agg [.int .i64 x, .int .i64 y]

theorem frac_facts {x y : Nat} (hy : 0 < y) (hx1 : x ≤ 4611686018427387904) (hy1 : y ≤ 4611686018427387904) :
    ¬ ((Nat.gcd y x : Nat) : Int) = 0 ∧ IntKind.i64.wrap (Int.tdiv (x : Int) (Nat.gcd y x : Nat)) = (fracA x y : Int) ∧ IntKind.i64.wrap (Int.tdiv (y : Int) (Nat.gcd y x : Nat)) = (fracB x y : Int) := by
  have hg : 0 < Nat.gcd y x := Nat.gcd_pos_of_pos_left _ hy
  have h1 : fracA x y ≤ x := Nat.div_le_self _ _
  have h2 : fracB x y ≤ y := Nat.div_le_self _ _
  refine ⟨by omega, ?_, ?_⟩
  · have : Int.tdiv (x : Int) (Nat.gcd y x : Nat) = (fracA x y : Int) := rfl
    rw [this]; exact wrapN (by omega)
  · have : Int.tdiv (y : Int) (Nat.gcd y x : Nat) = (fracB x y : Int) := rfl
    rw [this]; exact wrapN (by omega)

theorem frac_pos {x y : Nat} (hx : 0 < x) (hy : 0 < y) : 0 < fracA x y ∧ 0 < fracB x y ∧ fracA x y ≤ x ∧ fracB x y ≤ y := by
  have hg : 0 < Nat.gcd y x := Nat.gcd_pos_of_pos_left _ hy
  refine ⟨Nat.div_pos (Nat.le_of_dvd hx (Nat.gcd_dvd_right _ _)) hg, Nat.div_pos (Nat.le_of_dvd hy (Nat.gcd_dvd_left _ _)) hg, Nat.div_le_self _ _, Nat.div_le_self _ _⟩

/-- the gain of a valid stage -/
def gainA (s : Sg) : Nat := if s.1 = 2 then s.2.1.toNat else if s.1 = 5 then fracA (2 * s.2.1.toNat) (s.2.1.toNat - s.2.2.toNat) else fracA s.2.1.toNat s.2.2.toNat
def gainB (s : Sg) : Nat := if s.1 = 2 then 1 else if s.1 = 5 then fracB (2 * s.2.1.toNat) (s.2.1.toNat - s.2.2.toNat) else fracB s.2.1.toNat s.2.2.toNat

theorem stage_cases {s : Sg} (h : stageOk s = true) : (1 ≤ s.2.1 ∧ s.2.1 ≤ 24) ∧ (s.1 ≠ 2 → 1 ≤ s.2.2 ∧ s.2.2 ≤ 24) ∧ (s.1 = 5 → s.2.2 < s.2.1) := by
  unfold stageOk ratioOk at h
  by_cases h1 : s.1 = 1
  · rw [if_pos h1] at h
    simp at h
    exact ⟨h.1, fun _ => h.2, fun h5 => by omega⟩
  rw [if_neg h1] at h
  by_cases h3 : s.1 = 3
  · rw [if_pos h3] at h
    simp at h
    exact ⟨h.1, fun _ => h.2, fun h5 => by omega⟩
  rw [if_neg h3] at h
  by_cases h2 : s.1 = 2
  · rw [if_pos h2] at h
    simp at h
    exact ⟨h.1, fun hn => absurd h2 hn, fun h5 => by omega⟩
  rw [if_neg h2] at h
  by_cases h4 : s.1 = 4
  · rw [if_pos h4] at h
    simp at h
    exact ⟨h.1.1, fun _ => h.1.2, fun h5 => by omega⟩
  rw [if_neg h4] at h
  by_cases h5 : s.1 = 5
  · rw [if_pos h5] at h
    simp at h
    exact ⟨h.1.1, fun _ => h.1.2, fun _ => h.2⟩
  rw [if_neg h5] at h
  cases h

theorem gain_bounds {s : Sg} (h : stageOk s = true) : 0 < gainA s ∧ gainA s ≤ 48 ∧ 0 < gainB s ∧ gainB s ≤ 24 := by
  obtain ⟨h1, h2, h3⟩ := stage_cases h
  unfold gainA gainB
  by_cases k2 : s.1 = 2
  · simp only [if_pos k2]; omega
  · simp only [if_neg k2]
    have := h2 k2
    by_cases k5 : s.1 = 5
    · simp only [if_pos k5]
      have := h3 k5
      obtain ⟨f1, f2, f3, f4⟩ := frac_pos (x := 2 * s.2.1.toNat) (y := s.2.1.toNat - s.2.2.toNat) (by omega) (by omega)
      omega
    · simp only [if_neg k5]
      obtain ⟨f1, f2, f3, f4⟩ := frac_pos (x := s.2.1.toNat) (y := s.2.2.toNat) (by omega) (by omega)
      omega

/-- the gain of stages, from some gain on -/
def chainA : Nat → Nat → List Sg → Nat
  | P, _, [] => P
  | P, Q, s :: ss => chainA (fracA (P * gainA s) (Q * gainB s)) (fracB (P * gainA s) (Q * gainB s)) ss
def chainB : Nat → Nat → List Sg → Nat
  | _, Q, [] => Q
  | P, Q, s :: ss => chainB (fracA (P * gainA s) (Q * gainB s)) (fracB (P * gainA s) (Q * gainB s)) ss

theorem gain_step {s : Sg} {P Q i : Nat} (h : stageOk s = true) (hP : 0 < P ∧ P ≤ 48 ^ i) (hQ : 0 < Q ∧ Q ≤ 24 ^ i) (hi : i < 5) :
    (0 < P * gainA s ∧ P * gainA s ≤ 48 ^ (i + 1)) ∧ (0 < Q * gainB s ∧ Q * gainB s ≤ 24 ^ (i + 1)) ∧ 48 ^ (i + 1) ≤ 254803968 ∧ 24 ^ (i + 1) ≤ 254803968 := by
  obtain ⟨g1, g2, g3, g4⟩ := gain_bounds h
  refine ⟨⟨Nat.mul_pos hP.1 g1, ?_⟩, ⟨Nat.mul_pos hQ.1 g3, ?_⟩, ?_, ?_⟩
  · rw [Nat.pow_succ]; exact Nat.mul_le_mul hP.2 g2
  · rw [Nat.pow_succ]; exact Nat.mul_le_mul hQ.2 g4
  · have : 48 ^ (i + 1) ≤ 48 ^ 5 := Nat.pow_le_pow_right (by omega) (by omega)
    have h2 : (48 : Nat) ^ 5 = 254803968 := by decide
    omega
  · have : 24 ^ (i + 1) ≤ 24 ^ 5 := Nat.pow_le_pow_right (by omega) (by omega)
    have h2 : (24 : Nat) ^ 5 = 7962624 := by decide
    omega

theorem chain_bounds : ∀ (ss : List Sg) (i P Q : Nat), ss.all stageOk = true → ss.length + i ≤ 5 → (0 < P ∧ P ≤ 48 ^ i) → (0 < Q ∧ Q ≤ 24 ^ i) → 0 < chainA P Q ss ∧ chainA P Q ss ≤ 254803968 ∧ 0 < chainB P Q ss ∧ chainB P Q ss ≤ 254803968
  | [], i, P, Q, _, hi, hP, hQ => by
    have h1 : 48 ^ i ≤ 48 ^ 5 := Nat.pow_le_pow_right (by omega) (by simpa using hi)
    have h2 : (48 : Nat) ^ 5 = 254803968 := by decide
    have h3 : 24 ^ i ≤ 24 ^ 5 := Nat.pow_le_pow_right (by omega) (by simpa using hi)
    have h4 : (24 : Nat) ^ 5 = 7962624 := by decide
    rw [chainA, chainB]
    omega
  | s :: ss, i, P, Q, ha, hi, hP, hQ => by
    rw [List.all_cons, Bool.and_eq_true] at ha
    rw [List.length_cons] at hi
    obtain ⟨⟨g1, g2⟩, ⟨g3, g4⟩, _, _⟩ := gain_step ha.1 hP hQ (by omega)
    obtain ⟨f1, f2, f3, f4⟩ := frac_pos g1 g3
    rw [chainA, chainB]
    exact chain_bounds ss (i + 1) _ _ ha.2 (by omega) ⟨f1, by omega⟩ ⟨f2, by omega⟩

theorem ix02 : (0 : Int) < ((2 : Nat) : Int) := by omega
theorem ix12 : (1 : Int) < ((2 : Nat) : Int) := by omega
theorem ix01 : (0 : Int) ≤ 1 := by omega

end Go.Proofs.Ytaikmfldjkbmmaa.Slim

/- The pull that holds a row; the law. -/
namespace Go.Proofs.Ytaikmfldjkbmmaa.Slim

open Go

set_option linter.unusedSimpArgs false

set_option linter.unusedVariables false

variable {pr : Prims} {H : List Blk} {e : Option Nat}

def weightW (ls : List Ld) : Int := ls.foldl (fun a l => IntKind.i64.wrap (a + l.2)) 0

theorem loop_i_weightOf {q : Nat} {c : Option Nat} {ls : List Ld} {r : AV} (h : cellsAt H q = some (encL ls)) (hn : ls.length ≤ 9223372036854775806) :
    ∀ (k i : Nat) (a : Int) (G : List Blk) (y3 y7 : AV), k + i = ls.length → ∃ (G' : List Blk) (z3 z7 : AV), run T pr (.loop w_i_weightOf_1) ⟨[slL q ls.length c, r, .int .i64 a, y3, slL q ls.length c, .int .i64 ls.length, .int .i64 i, y7], ⟨H ++ G, e⟩⟩ =
      some (Ex.exit 0, ⟨[slL q ls.length c, r, .int .i64 ((ls.drop i).foldl (fun a l => IntKind.i64.wrap (a + l.2)) a), z3, slL q ls.length c, .int .i64 ls.length, .int .i64 ls.length, z7], ⟨H ++ G', e⟩⟩)
  | 0, i, a, G, y3, y7, hk => by
    have hi : i = ls.length := by omega
    subst hi
    refine ⟨G, y3, .bool false, ?_⟩
    rw [run_loop]
    generalize run T pr (.loop w_i_weightOf_1) = R
    simp +contextual only [w_i_weightOf_1, Nat.lt_irrefl, decide_false, List.drop_length, List.foldl_nil, go_sem, entry, joinEsc, if_pos, reduceIte, Nat.reduceAdd, Nat.reduceLeDiff, Nat.reduceLT, Nat.reduceEqDiff]
  | k + 1, i, a, G, y3, y7, hk => by
    have hi : i < ls.length := by omega
    have hl : ls[i]? = some ls[i] := List.getElem?_eq_getElem hi
    rw [run_loop, List.drop_eq_getElem_cons hi, List.foldl_cons]
    obtain ⟨G', z3, z7, ih⟩ := loop_i_weightOf (c := c) (r := r) h hn k (i + 1) (IntKind.i64.wrap (a + ls[i].2)) (G ++ [.cells [.int .i64 ls[i].1, .int .i64 ls[i].2] true]) (.ptr (some (H.length + G.length, 0))) (.bool true) (by omega)
    refine ⟨G', z3, z7, ?_⟩
    generalize run T pr (.loop w_i_weightOf_1) = R at ih ⊢
    simp +contextual only [w_i_weightOf_1, cells_mono h, hi, hl, part_encL hl, wrap_succ (show i < 9223372036854775807 by omega), decide_true, go_sem, entry, joinEsc, if_pos, reduceIte, Nat.reduceAdd, Nat.reduceLeDiff, Nat.reduceLT, Nat.reduceEqDiff]
    exact ih

theorem e_i_weightOf {q : Nat} {c : Option Nat} {ls : List Ld} (h : cellsAt H q = some (encL ls)) (hn : ls.length ≤ 9223372036854775806) : call T pr f_i_weightOf [slL q ls.length c] ⟨H, e⟩ = some (.int .i64 (weightW ls), ⟨H, e⟩) := by
  obtain ⟨G', z3, z7, hl⟩ := loop_i_weightOf (pr := pr) (e := none) (c := c) (r := .int .i64 0) h hn ls.length 0 0 [] .undef .undef rfl
  have h0 : ((0 : Nat) : Int) = 0 := rfl
  rw [h0, List.append_nil, List.drop_zero] at hl
  rw [call_eq t_i_weightOf]
  simp +contextual only [a_i_weightOf, c_i_weightOf, hl, go_sem, entry, joinEsc, if_pos, reduceIte, Nat.reduceAdd, Nat.reduceLeDiff, Nat.reduceLT, Nat.reduceEqDiff]
  rfl

theorem weight_fold : ∀ (ls : List Ld) (a : Nat), ls.all okL = true → a + ls.length * 99 ≤ 1000000 → ∃ n : Nat, ls.foldl (fun a l => IntKind.i64.wrap (a + l.2)) (a : Int) = (n : Int) ∧ n ≤ a + ls.length * 99
  | [], a, _, _ => ⟨a, rfl, by simp⟩
  | l :: ls, a, h, hb => by
    rw [List.all_cons, Bool.and_eq_true] at h
    rw [List.length_cons] at hb
    have h1 := h.1
    unfold okL at h1
    simp only [Bool.and_eq_true, decide_eq_true_eq] at h1
    have hw : IntKind.i64.wrap ((a : Int) + l.2) = ((a + l.2.toNat : Nat) : Int) := by rw [show (a : Int) + l.2 = ((a + l.2.toNat : Nat) : Int) by omega]; exact wrapN (by omega)
    obtain ⟨n, n1, n2⟩ := weight_fold ls (a + l.2.toNat) h.2 (by omega)
    refine ⟨n, ?_, by rw [List.length_cons]; omega⟩
    rw [List.foldl_cons, hw, n1]

theorem weight_ok {ls : List Ld} (h : rowOk ls = true) : ∃ n : Nat, weightW ls = n ∧ n ≤ 1000000 := by
  unfold rowOk at h
  rw [Bool.and_eq_true, decide_eq_true_eq] at h
  obtain ⟨n, n1, n2⟩ := weight_fold ls 0 h.2 (by omega)
  exact ⟨n, n1, by omega⟩

theorem ceil_frac (x y : Nat) (hy : 0 < y) : (fracA x y + fracB x y - 1) / fracB x y = (x + y - 1) / y := by
  have hg : 0 < Nat.gcd y x := Nat.gcd_pos_of_pos_left _ hy
  obtain ⟨x', hx'⟩ := Nat.gcd_dvd_right y x
  obtain ⟨y', hy'⟩ := Nat.gcd_dvd_left y x
  unfold fracA fracB
  generalize hgg : Nat.gcd y x = g at *
  have h1 : x / g = x' := by rw [hx', Nat.mul_div_cancel_left _ hg]
  have h2 : y / g = y' := by rw [hy', Nat.mul_div_cancel_left _ hg]
  rw [h1, h2]
  have hy'0 : 0 < y' := by
    rcases Nat.eq_zero_or_pos y' with h | h
    · rw [h, Nat.mul_zero] at hy'; omega
    · exact h
  have h3 : (x + y - 1) / g = x' + y' - 1 := by
    have h5 : x + y - 1 = g * (x' + y' - 1) + (g - 1) := by
      have e1 : g * (x' + y' - 1) = g * (x' + y') - g := by rw [Nat.mul_sub, Nat.mul_one]
      have e2 : g * (x' + y') = g * x' + g * y' := Nat.mul_add _ _ _
      have e3 : g * y' ≥ g := Nat.le_mul_of_pos_right _ hy'0
      rw [← hx', ← hy'] at e2
      omega
    rw [h5, Nat.mul_add_div hg, Nat.div_eq_of_lt (by omega), Nat.add_zero]
  rw [← h3, Nat.div_div_eq_div_mul, ← hy']

/-- the least pull, for a valid chain -/
def pullW (ss : List Sg) (n : Nat) : Nat := (n * chainB 1 1 ss + chainA 1 1 ss - 1) / chainA 1 1 ss

/-- what RowPull returns -/
def rowPullW (ls : List Ld) (ss : List Sg) (ok : Bool) : Nat := if ok = true then pullW ss (weightW ls).toNat else 0

end Go.Proofs.Ytaikmfldjkbmmaa.Slim

/- Marks on stands, copies of stands. -/
namespace Go.Proofs.Ytaikmfldjkbmmaa.Slim

open Go

set_option linter.unusedSimpArgs false

set_option linter.unusedVariables false

variable {pr : Prims} {H : List Blk} {e : Option Nat}

theorem markedL_get : ∀ (n k i : Nat), i < n → (markedL k n)[i]? = some (((k + i * 2 : Nat) : Int), ((k + i * 2 + 1 : Nat) : Int))
  | 0, k, i, h => by omega
  | n + 1, k, 0, h => by simp [markedL]
  | n + 1, k, i + 1, h => by
    rw [markedL, List.getElem?_cons_succ, markedL_get n (k + 2) i (by omega), show k + 2 + i * 2 = k + (i + 1) * 2 by omega]

theorem markedL_length : ∀ (n k : Nat), (markedL k n).length = n
  | 0, k => rfl
  | n + 1, k => by rw [markedL, List.length_cons, markedL_length n (k + 2)]

def markedS (k : Nat) : Nat → List Sg
  | 0 => []
  | n + 1 => ((k : Int), ((k + 1 : Nat) : Int), ((k + 2 : Nat) : Int)) :: markedS (k + 3) n

theorem markedS_get : ∀ (n k i : Nat), i < n → (markedS k n)[i]? = some (((k + i * 3 : Nat) : Int), ((k + i * 3 + 1 : Nat) : Int), ((k + i * 3 + 2 : Nat) : Int))
  | 0, k, i, h => by omega
  | n + 1, k, 0, h => by simp [markedS]
  | n + 1, k, i + 1, h => by
    rw [markedS, List.getElem?_cons_succ, markedS_get n (k + 3) i (by omega), show k + 3 + i * 3 = k + (i + 1) * 3 by omega]

theorem part_encS0 {ss : List Sg} {i : Nat} {s : Sg} (sz : Nat) (h : ss[i]? = some s) : part false (encS ss) (i * 3) sz = some (.int .i64 s.1) := by
  induction ss generalizing i with
  | nil => simp at h
  | cons a ss ih =>
    cases i with
    | zero => simp at h; subst h; simp [encS, part]
    | succ i =>
      simp at h
      rw [show (i + 1) * 3 = i * 3 + 1 + 1 + 1 by omega, encS, part_fk, part_fk, part_fk]
      exact ih h

theorem part_encS1 {ss : List Sg} {i : Nat} {s : Sg} (sz : Nat) (h : ss[i]? = some s) : part false (encS ss) (i * 3 + 1) sz = some (.int .i64 s.2.1) := by
  induction ss generalizing i with
  | nil => simp at h
  | cons a ss ih =>
    cases i with
    | zero => simp at h; subst h; simp [encS, part]
    | succ i =>
      simp at h
      rw [show (i + 1) * 3 + 1 = i * 3 + 1 + 1 + 1 + 1 by omega, encS, part_fk, part_fk, part_fk]
      exact ih h

theorem part_encS2 {ss : List Sg} {i : Nat} {s : Sg} (sz : Nat) (h : ss[i]? = some s) : part false (encS ss) (i * 3 + 2) sz = some (.int .i64 s.2.2) := by
  induction ss generalizing i with
  | nil => simp at h
  | cons a ss ih =>
    cases i with
    | zero => simp at h; subst h; simp [encS, part]
    | succ i =>
      simp at h
      rw [show (i + 1) * 3 + 2 = i * 3 + 2 + 1 + 1 + 1 by omega, encS, part_fk, part_fk, part_fk]
      exact ih h

theorem setRange_midS0 (P R : List Sg) (r : Sg) (a : Int) : setRange (encS (P ++ r :: R)) (P.length * 3) [.int .i64 a] = encS (P ++ (a, r.2) :: R) := by
  induction P with
  | nil => simp [encS, setRange]
  | cons p P ih =>
    simp only [encS, List.cons_append, List.length_cons, Nat.add_mul, Nat.one_mul] at *
    rw [show P.length * 3 + 3 = P.length * 3 + 1 + 1 + 1 by omega, setRange_k, setRange_k, setRange_k, ih]

theorem setRange_midS1 (P R : List Sg) (r : Sg) (a : Int) : setRange (encS (P ++ r :: R)) (P.length * 3 + 1) [.int .i64 a] = encS (P ++ (r.1, a, r.2.2) :: R) := by
  induction P with
  | nil => simp [encS, setRange]
  | cons p P ih =>
    simp only [encS, List.cons_append, List.length_cons, Nat.add_mul, Nat.one_mul] at *
    rw [show P.length * 3 + 3 + 1 = P.length * 3 + 1 + 1 + 1 + 1 by omega, setRange_k, setRange_k, setRange_k, ih]

theorem setRange_midS2 (P R : List Sg) (r : Sg) (a : Int) : setRange (encS (P ++ r :: R)) (P.length * 3 + 2) [.int .i64 a] = encS (P ++ (r.1, r.2.1, a) :: R) := by
  induction P with
  | nil => simp [encS, setRange]
  | cons p P ih =>
    simp only [encS, List.cons_append, List.length_cons, Nat.add_mul, Nat.one_mul] at *
    rw [show P.length * 3 + 3 + 2 = P.length * 3 + 2 + 1 + 1 + 1 by omega, setRange_k, setRange_k, setRange_k, ih]

theorem finish_one_len {L' l : List Blk} {n : Nat} (v : AV) (e0 : Option Nat) (hl : L'.length = n) (h : v.under n = true) : finish 1 n e0 v ⟨L' ++ l, none⟩ = some (v, ⟨L', e0⟩) := by
  subst hl
  simp [finish, h, clean]

theorem set_left {L l : List Blk} {q : Nat} {x : Blk} (h : q < L.length) : (L ++ l).set q x = L.set q x ++ l := by
  rw [List.set_append_left _ _ h]

/-- what marking leaves of memory -/
def markMem (L : List Blk) (q1 q2 n m x : Nat) : List Blk := (L.set q1 (.cells (encL (markedL x n)) true)).set q2 (.cells (encS (markedS (x + n * 2) m)) true)

theorem binop_nil (p : Nat × Nat) (sz n : Nat) (c : Option Nat) : binop 3 .eql (.slice (some p) sz n c) (.slice none 0 0 none) = some (.bool false) := Eq.trans rfl rfl

/-- an append of none leaves a dead block -/
def kill0 (n b : Nat) (L : List Blk) : List Blk := if n = 0 then L.set b .dead else L

theorem kill0_length (n b : Nat) (L : List Blk) : (kill0 n b L).length = L.length := by unfold kill0; split <;> simp

theorem kill0_new (n k : Nat) (l : List Blk) : kill0 n (H.length + k) (H ++ l) = H ++ kill0 n k l := by
  unfold kill0
  split
  · rw [set_newk]
  · rfl

theorem kill0_new0 (n : Nat) (l : List Blk) : kill0 n H.length (H ++ l) = H ++ kill0 n 0 l := kill0_new n 0 l

theorem kill0_cons (n k : Nat) (x : Blk) (l : List Blk) : kill0 n (k + 1) (x :: l) = x :: kill0 n k l := by
  unfold kill0
  split <;> rfl

theorem kill0_0 (n : Nat) (x : Blk) (l : List Blk) : kill0 n 0 (x :: l) = (if n = 0 then Blk.dead else x) :: l := by
  unfold kill0
  split <;> rfl

theorem append_all {L : List Blk} {b q n sz bytes : Nat} {c : Option Nat} {cs : List AV} (hb : L[b]? = some (.cells [] true)) (hq : cellsAt L q = some cs) (hl : cs.length = n * sz) (hm : n * bytes ≤ maxBytes) :
    appendV L e false sz bytes (.slice (some (b, 0)) sz 0 (some 0)) (.slice (some (q, 0)) sz n c) = some (.slice (some (L.length, 0)) sz n none, ⟨kill0 n b L ++ [.cells cs true], e⟩) := by
  unfold appendV
  have hs := srcCells_new L n sz c cs q hq hl
  simp only [hb, hs]
  rw [if_pos (by simp [hm, hl])]
  unfold kill0
  by_cases hn : n = 0
  · subst hn
    have : cs = [] := by simpa using hl
    subst this
    simp
  · rw [if_pos ⟨trivial, by omega⟩, if_neg hn]
    simp

theorem e_Clone_Load {q : Nat} {c : Option Nat} {ls : List Ld} (h : cellsAt H q = some (encL ls)) (hn : ls.length ≤ 1048576) : call T pr f_slices_Clone_Si_Load_i_Load [slL q ls.length c] ⟨H, e⟩ = some (slL H.length ls.length none, ⟨H ++ [.cells (encL ls) true], e⟩) := by
  have ha := fun L b e' (hb : L[b]? = some (.cells [] true)) hq => append_all (e := e') (L := L) (b := b) (q := q) (n := ls.length) (sz := 2) (bytes := 16) (c := c) (cs := encL ls) hb hq (encL_length ls) (by unfold maxBytes; omega)
  have hf : ∀ (B : Blk) (e0 : Option Nat), finish 2 H.length e0 (slL (H.length + 1) ls.length none) ⟨H ++ [B, .cells (encL ls) true], none⟩ = some (slL H.length ls.length none, ⟨H ++ [.cells (encL ls) true], e0⟩) :=
    fun B e0 => finish_two_at e0 rfl (under_encL _ _)
  rw [call_eq t_slices_Clone_Si_Load_i_Load]
  simp +contextual only [a_slices_Clone_Si_Load_i_Load, c_slices_Clone_Si_Load_i_Load, binop_nil, fillParts, ha, cells_mono h, kill0_new0, kill0_0, hf, go_sem, entry, joinEsc, if_pos, reduceIte, Nat.reduceAdd, Nat.reduceLeDiff, Nat.reduceLT, Nat.reduceEqDiff]

theorem cellsAt_lt {L : List Blk} {w : Nat} {cs : List AV} (h : cellsAt L w = some cs) : w < L.length := by
  unfold cellsAt at h
  cases hb : L[w]? with
  | none => rw [hb] at h; cases h
  | some x => exact (List.getElem?_eq_some_iff.mp hb).1

end Go.Proofs.Ytaikmfldjkbmmaa.Slim

/- People at other places. -/
namespace Go.Proofs.Ytaikmfldjkbmmaa.Slim

open Go

set_option linter.unusedSimpArgs false

set_option linter.unusedVariables false

variable {pr : Prims} {H : List Blk} {e : Option Nat}

/-- people at other places -/
def putL : List Ld → List Int → List Ld
  | [], _ => []
  | l :: ls, ss => (ss.headD 0, l.2) :: putL ls ss.tail

theorem putL_length : ∀ (ls : List Ld) (ss : List Int), (putL ls ss).length = ls.length
  | [], _ => rfl
  | l :: ls, ss => by simp [putL, putL_length ls]

theorem drop_head (ss : List Int) (i : Nat) (h : i < ss.length) : ss[i]? = some ((ss.drop i).headD 0) ∧ (ss.drop i).tail = ss.drop (i + 1) := by
  rw [List.drop_eq_getElem_cons h]
  exact ⟨List.getElem?_eq_getElem h, rfl⟩

theorem cellsAt_set_ne {L : List Blk} {b u : Nat} {x : Blk} {cs : List AV} (h : cellsAt L u = some cs) (hne : b ≠ u) : cellsAt (L.set b x) u = some cs := by
  unfold cellsAt at *
  rw [List.getElem?_set_ne hne]
  exact h

theorem cellsAt_get {L : List Blk} {j : Nat} {cs : List AV} {w : Bool} (h : L[j]? = some (.cells cs w)) : cellsAt L j = some cs := by
  unfold cellsAt
  rw [h]

abbrev spV (s0 s1 s2 : Int) : AV := .agg [.int .i64 s0, .int .i64 s1, .int .i64 s2]

/-- the digits of a number, the last one first -/
def digs (m : Nat) : Nat → Nat → List Nat
  | 0, _ => []
  | n + 1, k => k % m :: digs m n (k / m)

theorem digs_length (m : Nat) : ∀ n k, (digs m n k).length = n
  | 0, _ => rfl
  | n + 1, k => by simp [digs, digs_length m n]

def ints (l : List Nat) : List Int := l.map fun (i : Nat) => (i : Int)

theorem tmodN (k m : Nat) : Int.tmod (k : Int) (m : Int) = ((k % m : Nat) : Int) := rfl

theorem tdivN (k m : Nat) : Int.tdiv (k : Int) (m : Int) = ((k / m : Nat) : Int) := rfl

theorem putL_app : ∀ (P : List Ld) (Q : List Ld) (ss ts : List Int), P.length = ss.length → putL (P ++ Q) (ss ++ ts) = putL P ss ++ putL Q ts
  | [], Q, [], ts, _ => rfl
  | p :: P, Q, s :: ss, ts, h => by simp [putL, putL_app P Q ss ts (by simpa using h)]

end Go.Proofs.Ytaikmfldjkbmmaa.Slim

/- The safe moves of a party. -/
namespace Go.Proofs.Ytaikmfldjkbmmaa.Slim

open Go

set_option linter.unusedSimpArgs false

set_option linter.unusedVariables false

variable {pr : Prims} {H : List Blk} {e : Option Nat}

/-- one person at another place -/
def movd : List Ld → Nat → Int → List Ld
  | [], _, _ => []
  | l :: ls, 0, p => (p, l.2) :: ls
  | l :: ls, i + 1, p => l :: movd ls i p

theorem movd_length : ∀ (ls : List Ld) (i : Nat) (p : Int), (movd ls i p).length = ls.length
  | [], _, _ => rfl
  | l :: ls, 0, p => rfl
  | l :: ls, i + 1, p => by simp [movd, movd_length ls i p]

theorem movd_split {ls : List Ld} {i : Nat} (p : Int) (hi : i < ls.length) : ∃ P l R, ls = P ++ l :: R ∧ P.length = i ∧ ls[i]? = some l ∧ movd ls i p = P ++ (p, l.2) :: R := by
  induction ls generalizing i with
  | nil => simp at hi
  | cons l ls ih =>
    cases i with
    | zero => exact ⟨[], l, ls, rfl, rfl, rfl, rfl⟩
    | succ i =>
      obtain ⟨P, l', R, h1, h2, h3, h4⟩ := ih (by simpa using hi)
      exact ⟨l :: P, l', R, by rw [h1]; rfl, by simp [h2], by simpa using h3, by rw [movd, h4]; rfl⟩

theorem putL_set : ∀ (ls : List Ld) (ss : List Int) (i : Nat) (p : Int), i < ls.length → ls.length ≤ ss.length → putL ls (ss.set i p) = movd (putL ls ss) i p
  | [], ss, i, p, hi, hl => by simp at hi
  | l :: ls, [], i, p, hi, hl => by simp at hl
  | l :: ls, s :: ss, 0, p, hi, hl => rfl
  | l :: ls, s :: ss, i + 1, p, hi, hl => by
    have := putL_set ls ss i p (by simpa using hi) (by simpa using hl)
    simp [putL, movd, this]

theorem setRange_movd {ls : List Ld} {i : Nat} (p : Int) (hi : i < ls.length) : setRange (encL ls) (i * 2) [.int .i64 p] = encL (movd ls i p) := by
  obtain ⟨P, l, R, h1, h2, _, h4⟩ := movd_split p hi
  rw [h4, h1, ← h2]
  exact setRange_midL0 P R l p

/-- is it a place on the plank, and do they rest there? -/
def okMv (x a b : Int) (ls : List Ld) (i : Nat) (p : Int) : Bool := (decide (0 ≤ p) && decide (p ≤ x)) && decide (sideW (movd ls i p) a b = 0)

def plOf (ls : List Ld) (i : Nat) : Int := (ls[i]?.getD (0, 0)).1

/-- is a move safe? -/
def safeMv (x a b : Int) (ls : List Ld) (s i p : Int) : Bool := ((decide (0 ≤ i) && decide (i ≤ (ls.length : Int) - 1)) && (decide (0 ≤ p) && decide (p ≤ x))) && ((decide (wr (p - plOf ls i.toNat) = s) || decide (wr (p - plOf ls i.toNat) = wr (0 - s))) && decide (sideW (movd ls i.toNat p) a b = 0))

theorem at02 : ((0 : Int) ≤ 0 ∧ (0 : Int) < ((2 : Nat) : Int)) = True := by simp

theorem at12 : ((0 : Int) ≤ 1 ∧ (1 : Int) < ((2 : Nat) : Int)) = True := by simp

theorem toNat0 : Int.toNat 0 = 0 := rfl

theorem toNat1 : Int.toNat 1 = 1 := rfl

theorem append_ld2 {G : List Blk} {B : Blk} {j : Nat} {o : List Ld} {cap : Option Nat} (hG : G[j]? = some (.cells (encL o) true)) (hcap : cap = some 0 → o = []) (hmb : (o.length + 1) * 16 ≤ maxBytes) (a b : Int) :
    appendV (H ++ (G ++ [B, .cells [.int .i64 a, .int .i64 b] true])) e false 2 16 (slL (H.length + j) o.length cap) (.slice (some (H.length + (G.length + 1), 0)) 2 1 (some 1)) =
      some (slL (H.length + (G.length + 2)) (o.length + 1) none, ⟨H ++ (killIf cap j (G ++ [B, .cells [.int .i64 a, .int .i64 b] true]) ++ [.cells (encL o ++ [.int .i64 a, .int .i64 b]) true]), e⟩) := by
  have hj : j < G.length := (List.getElem?_eq_some_iff.mp hG).1
  have h := append_ld (H := H) (e := e) (G := G ++ [B]) (j := j) (o := o) (cap := cap) (by rw [List.getElem?_append_left hj]; exact hG) hcap hmb a b
  simpa [Nat.add_assoc] using h

/-- the safe ones of some moves of one person -/
def selM (x a b : Int) (ls : List Ld) (i : Nat) (ps : List Int) : List Ld := (ps.filter (okMv x a b ls i)).map fun p => ((i : Int), p)

theorem selM_cons (x a b : Int) (ls : List Ld) (i : Nat) (p : Int) (ps : List Int) : selM x a b ls i (p :: ps) = if okMv x a b ls i p = true then ((i : Int), p) :: selM x a b ls i ps else selM x a b ls i ps := by
  unfold selM
  cases h : okMv x a b ls i p <;> simp [h]

theorem set3 {s0 s1 s2 p : Int} {i : Nat} (hi : i < 3) : ∃ t0 t1 t2, [s0, s1, s2].set i p = [t0, t1, t2] ∧ setRange [.int .i64 s0, .int .i64 s1, .int .i64 s2] i [.int .i64 p] = [.int .i64 t0, .int .i64 t1, .int .i64 t2] := by
  match i, hi with
  | 0, _ => exact ⟨p, s1, s2, rfl, rfl⟩
  | 1, _ => exact ⟨s0, p, s2, rfl, rfl⟩
  | 2, _ => exact ⟨s0, s1, p, rfl, rfl⟩

/-- all safe moves -/
def mvsFrom (x a b s : Int) (ls : List Ld) : Nat → Nat → List Ld
  | 0, _ => []
  | k + 1, i => selM x a b ls i [wr (plOf ls i - s), wr (plOf ls i + s)] ++ mvsFrom x a b s ls k (i + 1)

theorem selM_le (x a b : Int) (ls : List Ld) (i : Nat) (ps : List Int) : (selM x a b ls i ps).length ≤ ps.length := by
  unfold selM
  rw [List.length_map]
  exact List.length_filter_le _ _

theorem plOf_putL : ∀ (ls : List Ld) (ss : List Int) (i : Nat) (p : Int), i < ls.length → ss[i]? = some p → plOf (putL ls ss) i = p
  | [], ss, i, p, hi, hp => by simp at hi
  | l :: ls, [], i, p, hi, hp => by simp at hp
  | l :: ls, s :: ss, 0, p, hi, hp => by simp at hp; subst hp; rfl
  | l :: ls, s :: ss, i + 1, p, hi, hp => plOf_putL ls ss i p (by simpa using hi) (by simpa using hp)

/-- how a party's places are bounded -/
def plB (ls : List Ld) : Prop := ∀ i, i < ls.length → 0 ≤ plOf ls i ∧ plOf ls i ≤ 60

theorem safe_ok {x a b s : Int} {ls : List Ld} {i : Nat} (hi : i < ls.length) (hpl : plB ls) (hs : 1 ≤ s ∧ s ≤ 4) {p : Int} (hp : p = wr (plOf ls i - s) ∨ p = wr (plOf ls i + s)) : safeMv x a b ls s i p = okMv x a b ls i p := by
  obtain ⟨h1, h2⟩ := hpl i hi
  have w1 : wr (plOf ls i - s) = plOf ls i - s := wrap64 (by omega) (by omega)
  have w2 : wr (plOf ls i + s) = plOf ls i + s := wrap64 (by omega) (by omega)
  have w3 : wr (0 - s) = - s := by show IntKind.i64.wrap (0 - s) = - s; rw [wrap64 (by omega) (by omega)]; omega
  have w4 : wr (p - plOf ls i) = p - plOf ls i := wrap64 (by omega) (by omega)
  have hr : (decide (0 ≤ (i : Int)) && decide ((i : Int) ≤ (ls.length : Int) - 1)) = true := by simp; omega
  unfold safeMv okMv
  rw [hr, Int.toNat_natCast, w3, w4, Bool.true_and]
  have : (decide (p - plOf ls i = s) || decide (p - plOf ls i = -s)) = true := by
    rw [w1, w2] at hp
    simp
    omega
  rw [this, Bool.true_and]

end Go.Proofs.Ytaikmfldjkbmmaa.Slim

/- Nothing is taken by contract here. -/
namespace Go.Proofs.Ytaikmfldjkbmmaa.Slim
end Go.Proofs.Ytaikmfldjkbmmaa.Slim

/- Tasks of a stand: what they make. -/
namespace Go.Proofs.Ytaikmfldjkbmmaa.Slim

open Go

set_option linter.unusedSimpArgs false

set_option linter.unusedVariables false

variable {pr : Prims} {H : List Blk} {e : Option Nat}

def sliceHiV (sz : Nat) (v h : AV) : Option AV := match v with
  | .slice p sz' n cap => (match natOf h with
    | some h => sliceVal sz p sz' n cap 0 h none
    | none => none)
  | _ => none

def sliceLoV (sz : Nat) (v l : AV) : Option AV := match v with
  | .slice p sz' n cap => (match natOf l with
    | some l => sliceVal sz p sz' n cap l n none
    | none => none)
  | _ => none

section

variable {C : FuncId → List AV → Mem → Option (AV × Mem)} {g : X → AV} {m : Mem}

theorem aop_sliceHi (sz : Nat) (x h : X) : aop C g m (.sliceSl sz x none (some h) none) = valOf m (sliceHiV sz (g x) (g h)) := by
  rw [aop_of_light rfl]
  simp only [light, sliceHiV, bound, optNat]
  generalize g x = v
  generalize natOf (g h) = o
  cases v <;> cases o <;> simp

theorem aop_sliceLo (sz : Nat) (x l : X) : aop C g m (.sliceSl sz x (some l) none none) = valOf m (sliceLoV sz (g x) (g l)) := by
  rw [aop_of_light rfl]
  simp only [light, sliceLoV, bound, optNat]
  generalize g x = v
  generalize natOf (g l) = o
  cases v <;> cases o <;> simp

end

theorem sliceHiV_at (sz b o n h : Nat) (cap : Option Nat) (hh : h ≤ n) : sliceHiV sz (.slice (some (b, o)) sz n cap) (.int .i64 h) = some (.slice (some (b, o)) sz h cap) := by
  unfold sliceHiV natOf sliceVal
  simp [hh]

theorem sliceLoV_at (sz b o n l : Nat) (hl : l ≤ n) : sliceLoV sz (.slice (some (b, o)) sz n none) (.int .i64 l) = some (.slice (some (b, o + l * sz)) sz (n - l) none) := by
  unfold sliceLoV natOf sliceVal
  simp [hl]

theorem encL_take : ∀ (ls : List Ld) (i : Nat), (encL ls).take (i * 2) = encL (ls.take i)
  | ls, 0 => by simp [encL]
  | [], i + 1 => by simp [encL]
  | l :: ls, i + 1 => by
    rw [show (i + 1) * 2 = i * 2 + 1 + 1 by omega]
    simp [encL, encL_take ls i]

theorem encL_drop : ∀ (ls : List Ld) (i : Nat), (encL ls).drop (i * 2) = encL (ls.drop i)
  | ls, 0 => by simp
  | [], i + 1 => by simp [encL]
  | l :: ls, i + 1 => by
    rw [show (i + 1) * 2 = i * 2 + 1 + 1 by omega]
    simp [encL, encL_drop ls i]

theorem encS_take : ∀ (ls : List Sg) (i : Nat), (encS ls).take (i * 3) = encS (ls.take i)
  | ls, 0 => by simp [encS]
  | [], i + 1 => by simp [encS]
  | l :: ls, i + 1 => by
    rw [show (i + 1) * 3 = i * 3 + 1 + 1 + 1 by omega]
    simp [encS, encS_take ls i]

theorem encS_drop : ∀ (ls : List Sg) (i : Nat), (encS ls).drop (i * 3) = encS (ls.drop i)
  | ls, 0 => by simp
  | [], i + 1 => by simp [encS]
  | l :: ls, i + 1 => by
    rw [show (i + 1) * 3 = i * 3 + 1 + 1 + 1 by omega]
    simp [encS, encS_drop ls i]

theorem encS_append : ∀ a b : List Sg, encS (a ++ b) = encS a ++ encS b
  | [], b => rfl
  | l :: a, b => by simp [encS, encS_append a b]

theorem encL_erase (ls : List Ld) (i : Nat) : (encL ls).take (i * 2) ++ (encL ls).drop ((i + 1) * 2) = encL (ls.eraseIdx i) := by
  rw [encL_take, encL_drop, List.eraseIdx_eq_take_drop_succ, encL_append]

theorem encS_erase (ls : List Sg) (i : Nat) : (encS ls).take (i * 3) ++ (encS ls).drop ((i + 1) * 3) = encS (ls.eraseIdx i) := by
  rw [encS_take, encS_drop, List.eraseIdx_eq_take_drop_succ, encS_append]

/-- an element taken out of a slice that has its block alone -/
theorem append_del {L : List Blk} {b n sz bytes i : Nat} {cs : List AV} (hb : L[b]? = some (.cells cs true)) (hcs : cs.length = n * sz) (hi : i < n) (hm : n * bytes ≤ maxBytes) :
    appendV L e false sz bytes (.slice (some (b, 0)) sz i none) (.slice (some (b, (i + 1) * sz)) sz (n - (i + 1)) none) = some (.slice (some (L.length, 0)) sz (n - 1) none, ⟨L.set b .dead ++ [.cells (cs.take (i * sz) ++ cs.drop ((i + 1) * sz)) true], e⟩) := by
  have e1 : (i + 1) * sz + (n - (i + 1)) * sz = n * sz := by rw [← Nat.add_mul]; congr 1; omega
  have e2 : (i + 1) * sz = i * sz + sz := by rw [Nat.add_mul, Nat.one_mul]
  have hs : srcCells false L (.slice (some (b, (i + 1) * sz)) sz (n - (i + 1)) none) = some (n - (i + 1), cs.drop ((i + 1) * sz)) := by
    unfold srcCells
    have hc : cellsAt L b = some cs := by unfold cellsAt; rw [hb]
    simp only [Bool.false_eq_true, if_false, hc]
    rw [if_pos (by omega), List.take_of_length_le (by rw [List.length_drop]; omega)]
  have e3 : i + (n - (i + 1)) = n - 1 := by omega
  unfold appendV
  simp only [hb, hs]
  rw [if_pos ⟨trivial, by rw [e3]; exact Nat.le_trans (Nat.mul_le_mul_right _ (by omega)) hm, by rw [List.length_drop]; omega, by omega⟩]
  rw [if_neg (by simp), if_pos trivial, e3, List.drop_zero]

/-- an element more on a slice that has its block alone -/
theorem append_gen {L : List Blk} {b q n sz bytes : Nat} {cs new : List AV} {c : Option Nat} (hb : L[b]? = some (.cells cs true)) (hq : cellsAt L q = some new) (hcs : cs.length = n * sz) (hnew : new.length = sz) (hm : (n + 1) * bytes ≤ maxBytes) :
    appendV L e false sz bytes (.slice (some (b, 0)) sz n none) (.slice (some (q, 0)) sz 1 c) = some (.slice (some (L.length, 0)) sz (n + 1) none, ⟨L.set b .dead ++ [.cells (cs ++ new) true], e⟩) := by
  have hs := srcCells_new L 1 sz c new q hq (by omega)
  unfold appendV
  simp only [hb, hs]
  rw [if_pos ⟨trivial, hm, by omega, by omega⟩, if_neg (by simp), if_pos trivial, List.drop_zero, ← hcs, List.take_length]

abbrev tkV (k x y z : Int) : AV := .agg [.int .i64 k, .int .i64 x, .int .i64 y, .int .i64 z]

/-- may a task be made? -/
def mayT (ls : List Ld) (ss : List Sg) (k x y z : Int) : Bool :=
  if k = 1 ∨ k = 4 then decide (z = 0)
  else if k = 2 then ((decide (0 ≤ x) && decide (x ≤ (ls.length : Int) - 1)) && decide (y = 0)) && decide (z = 0)
  else if k = 3 then (decide (0 ≤ x) && decide (x ≤ (ls.length : Int) - 1)) && decide (z = 0)
  else if k = 6 then ((decide (0 ≤ x) && decide (x ≤ (ss.length : Int) - 1)) && decide (y = 0)) && decide (z = 0)
  else decide (k = 5)

/-- what a task makes of a row and a chain -/
def rowT (ls : List Ld) (k x y : Int) : List Ld :=
  if k = 1 then ls ++ [(x, y)] else if k = 2 then ls.eraseIdx x.toNat else if k = 3 then movd ls x.toNat y else ls

def chainT (ss : List Sg) (k x y z : Int) : List Sg :=
  if k = 5 then ss ++ [(x, y, z)] else if k = 6 then ss.eraseIdx x.toNat else ss

def baseA (a k x : Int) : Int := if k = 4 then x else a

end Go.Proofs.Ytaikmfldjkbmmaa.Slim

/- Tasks of a stand: DoTask. -/
namespace Go.Proofs.Ytaikmfldjkbmmaa.Slim

open Go

set_option linter.unusedSimpArgs false

set_option linter.unusedVariables false

variable {pr : Prims} {H : List Blk} {e : Option Nat}

def stOk (ls : List Ld) (ss : List Sg) (a b t c : Int) : Bool := rowOk ls && (chainOk ss && restOk a b t c)

theorem tipSide_at {ls : List Ld} {n : Nat} (hn : ls.length = n) (hn2 : n ≤ 1048576) (a b : Int) {L : List Blk} {q1 : Nat} {c1 : Option Nat} (h1 : cellsAt L q1 = some (encL ls)) :
    call T pr f_i_tipSide [slL q1 n c1, .int .i64 a, .int .i64 b] ⟨L, e⟩ = some (.int .i64 (sideW ls a b), ⟨L, e⟩) := by
  subst hn
  exact e_i_tipSide h1 (by omega) a b

theorem l2Side_at {ls : List Ld} {n : Nat} (hn : ls.length = n) (hn2 : n ≤ 1048576) (a b : Int) {L : List Blk} {q1 : Nat} {c1 : Option Nat} (h1 : cellsAt L q1 = some (encL ls)) :
    call T pr f_s_l2Side [slL q1 n c1, .int .i64 a, .int .i64 b] ⟨L, e⟩ = some (.int .i64 (sideW ls a b), ⟨L, e⟩) := by
  subst hn
  exact e_s_l2Side h1 (by omega) a b

abbrev noStand : AV := stV (.slice none 0 0 none) 0 0 (.slice none 0 0 none) 0 0

/-- can a task of a valid stand be made? -/
def doOk (ls : List Ld) (ss : List Sg) (a b t c k x y z : Int) : Bool := mayT ls ss k x y z && stOk (rowT ls k x y) (chainT ss k x y z) (baseA a k x) (baseA b k y) t (wr (c + 1))

/-- how often the row did not stand behind a task -/
def tipsT (ls : List Ld) (a b t k x y : Int) : Int := if decide (sideW (rowT ls k x y) (baseA a k x) (baseA b k y) = 0) = true then t else wr (t + 1)

/-- what the call of a task returns -/
def doRes (H : List Blk) (e : Option Nat) (ok : Bool) (ls : List Ld) (ss : List Sg) (a b t c : Int) : Option (AV × Mem) :=
  if ok = true then some (.tup [stV (slL H.length ls.length none) a b (slS (H.length + 1) ss.length none) t c, .bool true], ⟨H ++ [.cells (encL ls) true, .cells (encS ss) true], e⟩)
  else some (.tup [noStand, .bool false], ⟨H, e⟩)

theorem rowT_length (ls : List Ld) (k x y : Int) : (rowT ls k x y).length ≤ ls.length + 1 := by
  unfold rowT
  split
  · simp
  · split
    · have := List.length_eraseIdx_le ls x.toNat; omega
    · split
      · rw [movd_length]; omega
      · omega

theorem chainT_length (ss : List Sg) (k x y z : Int) : (chainT ss k x y z).length ≤ ss.length + 1 := by
  unfold chainT
  split
  · simp
  · split
    · have := List.length_eraseIdx_le ss x.toNat; omega
    · omega

end Go.Proofs.Ytaikmfldjkbmmaa.Slim

/- The slim machine: walking by what holds at the end; loops by invariants. -/
namespace Go.Proofs.Ytaikmfldjkbmmaa.Slim
open Go
set_option linter.unusedVariables false
set_option linter.unusedSimpArgs false

section
variable {T : Table} {pr : Prims} {H : List Blk} {e : Option Nat}

/-- code comes to an end, of which this holds -/
def Wp (r : Option (Ex × St)) (Q : Ex → St → Prop) : Prop := ∃ ex st, r = some (ex, st) ∧ Q ex st
/-- a call (or an operation) comes to an end, of which this holds -/
def Wc (r : Option (AV × Mem)) (Q : AV → Mem → Prop) : Prop := ∃ v m, r = some (v, m) ∧ Q v m

theorem Wp.mono {r : Option (Ex × St)} {P Q : Ex → St → Prop} (h : Wp r P) (k : ∀ ex st, P ex st → Q ex st) : Wp r Q := by
  obtain ⟨ex, st, h1, h2⟩ := h
  exact ⟨ex, st, h1, k _ _ h2⟩
theorem Wc.mono {r : Option (AV × Mem)} {P Q : AV → Mem → Prop} (h : Wc r P) (k : ∀ v m, P v m → Q v m) : Wc r Q := by
  obtain ⟨v, m, h1, h2⟩ := h
  exact ⟨v, m, h1, k _ _ h2⟩
theorem Wc.eq {r : Option (AV × Mem)} {v : AV} {m : Mem} (h : Wc r fun v' m' => v' = v ∧ m' = m) : r = some (v, m) := by
  obtain ⟨_, _, h1, rfl, rfl⟩ := h
  exact h1
theorem Wc.of_eq {r : Option (AV × Mem)} {v : AV} {m : Mem} {Q : AV → Mem → Prop} (h : r = some (v, m)) (k : Q v m) : Wc r Q := ⟨v, m, h, k⟩

@[congr] theorem Wp_congr {r r' : Option (Ex × St)} {Q : Ex → St → Prop} (h : r = r') : Wp r Q = Wp r' Q := by rw [h]
@[congr] theorem Wc_congr {r r' : Option (AV × Mem)} {Q : AV → Mem → Prop} (h : r = r') : Wc r Q = Wc r' Q := by rw [h]

theorem Wp_some (ex : Ex) (st : St) (Q : Ex → St → Prop) : Wp (some (ex, st)) Q = Q ex st := by
  apply propext
  constructor
  · rintro ⟨_, _, h1, h2⟩; cases h1; exact h2
  · exact fun h => ⟨_, _, rfl, h⟩
theorem Wp_none (Q : Ex → St → Prop) : Wp none Q = False := by
  apply propext
  constructor
  · rintro ⟨_, _, h1, _⟩; cases h1
  · exact False.elim
theorem Wp_ite (c : Prop) [Decidable c] (a b : Option (Ex × St)) (Q : Ex → St → Prop) : Wp (if c then a else b) Q = ((c → Wp a Q) ∧ (¬ c → Wp b Q)) := by
  by_cases h : c <;> simp [h]
theorem Wc_some (v : AV) (m : Mem) (Q : AV → Mem → Prop) : Wc (some (v, m)) Q = Q v m := by
  apply propext
  constructor
  · rintro ⟨_, _, h1, h2⟩; cases h1; exact h2
  · exact fun h => ⟨_, _, rfl, h⟩
theorem Wc_none (Q : AV → Mem → Prop) : Wc none Q = False := by
  apply propext
  constructor
  · rintro ⟨_, _, h1, _⟩; cases h1
  · exact False.elim
theorem Wc_ite (c : Prop) [Decidable c] (a b : Option (AV × Mem)) (Q : AV → Mem → Prop) : Wc (if c then a else b) Q = ((c → Wc a Q) ∧ (¬ c → Wc b Q)) := by
  by_cases h : c <;> simp [h]

def seqQ (f : St → Option (Ex × St)) (Q : Ex → St → Prop) : Ex → St → Prop
  | .normal, st => Wp (f st) Q
  | ex, st => Q ex st
theorem seqQ_normal (f : St → Option (Ex × St)) (Q : Ex → St → Prop) (st : St) : seqQ f Q .normal st = Wp (f st) Q := Eq.trans rfl rfl
theorem seqQ_exit (f : St → Option (Ex × St)) (Q : Ex → St → Prop) (k : Nat) (st : St) : seqQ f Q (.exit k) st = Q (.exit k) st := Eq.trans rfl rfl
theorem seqQ_ret (f : St → Option (Ex × St)) (Q : Ex → St → Prop) (st : St) : seqQ f Q .ret st = Q .ret st := Eq.trans rfl rfl
theorem Wp_thenRun (r : Option (Ex × St)) (f : St → Option (Ex × St)) (Q : Ex → St → Prop) : Wp (thenRun r f) Q = Wp r (seqQ f Q) := by
  cases r with
  | none => simp only [thenRun_none, Wp_none]
  | some p =>
    obtain ⟨ex, st⟩ := p
    cases ex <;> simp only [thenRun_normal, thenRun_ret, thenRun_exit, Wp_some, seqQ]

def blkQ (id : Nat) (Q : Ex → St → Prop) : Ex → St → Prop
  | .exit k, st => if k = id then Q .normal st else Q (.exit k) st
  | ex, st => Q ex st
theorem blkQ_normal (id : Nat) (Q : Ex → St → Prop) (st : St) : blkQ id Q .normal st = Q .normal st := Eq.trans rfl rfl
theorem blkQ_ret (id : Nat) (Q : Ex → St → Prop) (st : St) : blkQ id Q .ret st = Q .ret st := Eq.trans rfl rfl
theorem blkQ_same (id : Nat) (Q : Ex → St → Prop) (st : St) : blkQ id Q (.exit id) st = Q .normal st := by simp [blkQ]
theorem blkQ_exit (id k : Nat) (Q : Ex → St → Prop) (st : St) : blkQ id Q (.exit k) st = if k = id then Q .normal st else Q (.exit k) st := Eq.trans rfl rfl
theorem Wp_inBlock (id : Nat) (r : Option (Ex × St)) (Q : Ex → St → Prop) : Wp (inBlock id r) Q = Wp r (blkQ id Q) := by
  cases r with
  | none => simp only [inBlock_none, Wp_none]
  | some p =>
    obtain ⟨ex, st⟩ := p
    cases ex with
    | normal => simp only [inBlock_normal, Wp_some, blkQ]
    | ret => simp only [inBlock_ret, Wp_some, blkQ]
    | exit k => by_cases h : k = id <;> simp only [inBlock_exit, h, if_true, if_false, Wp_some, blkQ]

/-- behind a region's operation -/
def opQ (tm : List AV) (outs : List (Nat × Nat)) (f : AV → Mem → Option (List AV × Mem)) (Q : Ex → St → Prop) : AV → Mem → Prop := fun v m => Wp (outRun tm outs (f v m)) Q
theorem opQ_at (tm : List AV) (outs : List (Nat × Nat)) (f : AV → Mem → Option (List AV × Mem)) (Q : Ex → St → Prop) (v : AV) (m : Mem) : opQ tm outs f Q v m = Wp (outRun tm outs (f v m)) Q := Eq.trans rfl rfl
theorem Wp_opThen (tm : List AV) (outs : List (Nat × Nat)) (r : Option (AV × Mem)) (f : AV → Mem → Option (List AV × Mem)) (Q : Ex → St → Prop) :
    Wp (outRun tm outs (opThen r f)) Q = Wc r (opQ tm outs f Q) := by
  cases r with
  | none => simp only [opThen_none, outRun_none, Wp_none, Wc_none]
  | some p =>
    obtain ⟨v, m⟩ := p
    simp only [opThen_some, Wc_some, opQ]

/-- behind a guarded operation -/
theorem Wp_guardP (tm : List AV) (outs : List (Nat × Nat)) (p : Prop) [Decidable p] (r : Option (AV × Mem)) (m : Mem) (f : AV → Mem → Option (List AV × Mem)) (Q : Ex → St → Prop) :
    Wp (outRun tm outs (guardP p r m f)) Q = ((p → Wc r (opQ tm outs f Q)) ∧ (¬ p → Wp (outRun tm outs (f (.tup []) m)) Q)) := by
  by_cases h : p
  · simp only [h, guardP_true, Wp_opThen, true_imp_iff, not_true_eq_false, false_imp_iff, and_true]
  · simp only [h, guardP_false, not_false_eq_true, true_imp_iff, false_imp_iff, true_and]

/-- behind a call's code -/
def retQ (F : AFun) (m : Mem) (Q : AV → Mem → Prop) : Ex → St → Prop
  | .exit _, _ => False
  | _, st => Wc (finRun F m st) Q
theorem retQ_normal (F : AFun) (m : Mem) (Q : AV → Mem → Prop) (st : St) : retQ F m Q .normal st = Wc (finRun F m st) Q := Eq.trans rfl rfl
theorem retQ_ret (F : AFun) (m : Mem) (Q : AV → Mem → Prop) (st : St) : retQ F m Q .ret st = Wc (finRun F m st) Q := Eq.trans rfl rfl
theorem Wc_endCall (F : AFun) (m : Mem) (r : Option (Ex × St)) (Q : AV → Mem → Prop) : Wc (endCall F m r) Q = Wp r (retQ F m Q) := by
  cases r with
  | none => simp only [endCall_none, Wc_none, Wp_none]
  | some p =>
    obtain ⟨ex, st⟩ := p
    cases ex <;> simp only [endCall_normal, endCall_ret, endCall_exit, Wc_none, Wp_some, retQ]

theorem call_wc {f : FuncId} {F : AFun} (h : T f = some F) (args : List AV) (m : Mem) (Q : AV → Mem → Prop) : Wc (call T pr f args m) Q = Wp (run T pr F.code ⟨entry F args, { m with esc := none }⟩) (retQ F m Q) := by
  rw [call_eq h, Wc_endCall]

/-! loops -/
/-- what a loop's round must bring -/
abbrev Holds (I : St → Prop) (st : St) : Prop := I st
@[congr] theorem Holds_congr {I : St → Prop} {st st' : St} (h : st = st') : Holds I st = Holds I st' := by rw [h]
def loopQ (I : St → Prop) (Q : Ex → St → Prop) : Ex → St → Prop
  | .normal, st => Holds I st
  | ex, st => Q ex st
theorem loopQ_normal (I : St → Prop) (Q : Ex → St → Prop) (st : St) : loopQ I Q .normal st = Holds I st := Eq.trans rfl rfl
theorem loopQ_exit (I : St → Prop) (Q : Ex → St → Prop) (k : Nat) (st : St) : loopQ I Q (.exit k) st = Q (.exit k) st := Eq.trans rfl rfl
theorem loopQ_ret (I : St → Prop) (Q : Ex → St → Prop) (st : St) : loopQ I Q .ret st = Q .ret st := Eq.trans rfl rfl

theorem Wp_loop {b : ACode} {Q : Ex → St → Prop} (I : Nat → St → Prop) (hs : ∀ k st, I k st → Wp (run T pr b st) (loopQ (fun st' => ∃ j, j < k ∧ I j st') Q)) :
    ∀ (n : Nat) (st : St), I n st → Wp (run T pr (.loop b) st) Q := by
  intro n
  induction n using Nat.strongRecOn with
  | _ n ih =>
    intro st h
    rw [run_loop, Wp_thenRun]
    refine (hs n st h).mono fun ex st' h' => ?_
    cases ex with
    | normal =>
      obtain ⟨j, hj, hI⟩ := h'
      exact ih j hj st' hI
    | exit k => exact h'
    | ret => exact h'

/-! the end of a call that keeps what its result names -/
theorem roots_slice_new (sz n o k : Nat) (c : Option Nat) : AV.roots H.length (.slice (some (H.length + k, o)) sz n c) = [H.length + k] := by simp [AV.roots]
theorem roots_slice_new0 (sz n o : Nat) (c : Option Nat) : AV.roots H.length (.slice (some (H.length, o)) sz n c) = [H.length] := by simp [AV.roots]
theorem roots_slice_none (lim sz n : Nat) (c : Option Nat) : AV.roots lim (.slice none sz n c) = [] := by simp [AV.roots]
theorem roots_slice_old {lim b : Nat} (sz n o : Nat) (c : Option Nat) (h : b < lim) : AV.roots lim (.slice (some (b, o)) sz n c) = [] := by simp [AV.roots, h]
theorem roots_ptr_new (o k : Nat) : AV.roots H.length (.ptr (some (H.length + k, o))) = [H.length + k] := by simp [AV.roots]
theorem roots_ptr_new0 (o : Nat) : AV.roots H.length (.ptr (some (H.length, o))) = [H.length] := by simp [AV.roots]
theorem roots_int (lim : Nat) (k : IntKind) (x : Int) : AV.roots lim (.int k x) = [] := by simp [AV.roots]
theorem roots_bool (lim : Nat) (x : Bool) : AV.roots lim (.bool x) = [] := by simp [AV.roots]
theorem roots_str (lim : Nat) (x : ByteArray) : AV.roots lim (.str x) = [] := by simp [AV.roots]
theorem roots_agg (lim : Nat) (cs : List AV) : AV.roots lim (.agg cs) = AV.roots.go lim cs := by simp [AV.roots]
theorem roots_tup (lim : Nat) (cs : List AV) : AV.roots lim (.tup cs) = AV.roots.go lim cs := by simp [AV.roots]
theorem roots_cons (lim : Nat) (c : AV) (cs : List AV) : AV.roots.go lim (c :: cs) = AV.roots lim c ++ AV.roots.go lim cs := by simp [AV.roots.go]
theorem roots_nil (lim : Nat) : AV.roots.go lim [] = [] := by simp [AV.roots.go]
theorem rename_slice (f : Nat → Nat) (b o sz n : Nat) (c : Option Nat) : AV.rename f (.slice (some (b, o)) sz n c) = .slice (some (f b, o)) sz n c := by simp [AV.rename]
theorem rename_slice_none (f : Nat → Nat) (sz n : Nat) (c : Option Nat) : AV.rename f (.slice none sz n c) = .slice none sz n c := by simp [AV.rename]
theorem rename_ptr (f : Nat → Nat) (b o : Nat) : AV.rename f (.ptr (some (b, o))) = .ptr (some (f b, o)) := by simp [AV.rename]
theorem rename_int (f : Nat → Nat) (k : IntKind) (x : Int) : AV.rename f (.int k x) = .int k x := by simp [AV.rename]
theorem rename_bool (f : Nat → Nat) (x : Bool) : AV.rename f (.bool x) = .bool x := by simp [AV.rename]
theorem rename_str (f : Nat → Nat) (x : ByteArray) : AV.rename f (.str x) = .str x := by simp [AV.rename]
theorem rename_agg (f : Nat → Nat) (cs : List AV) : AV.rename f (.agg cs) = .agg (AV.rename.go f cs) := by simp [AV.rename]
theorem rename_tup (f : Nat → Nat) (cs : List AV) : AV.rename f (.tup cs) = .tup (AV.rename.go f cs) := by simp [AV.rename]
theorem rename_cons (f : Nat → Nat) (c : AV) (cs : List AV) : AV.rename.go f (c :: cs) = AV.rename f c :: AV.rename.go f cs := by simp [AV.rename.go]
theorem rename_nil (f : Nat → Nat) : AV.rename.go f [] = [] := by simp [AV.rename.go]

def keepBlks (L : List Blk) (rs : List Nat) : List Blk := rs.map fun b => (L[b]?).getD .dead
theorem keepBlks_nil (L : List Blk) : keepBlks L [] = [] := Eq.trans rfl rfl
theorem keepBlks_cons (L : List Blk) (b : Nat) (rs : List Nat) : keepBlks L (b :: rs) = (L[b]?).getD .dead :: keepBlks L rs := Eq.trans rfl rfl
def flatAll (lim : Nat) (L : List Blk) (rs : List Nat) : Bool := rs.all fun b => flatBlk lim L[b]?
theorem flatAll_nil (lim : Nat) (L : List Blk) : flatAll lim L [] = true := Eq.trans rfl rfl
theorem flatAll_cons (lim : Nat) (L : List Blk) (b : Nat) (rs : List Nat) : flatAll lim L (b :: rs) = (flatBlk lim L[b]? && flatAll lim L rs) := Eq.trans rfl rfl
theorem flatBlk_cells (lim : Nat) (cs : List AV) (w : Bool) : flatBlk lim (some (.cells cs w)) = cs.all fun c => c.under lim := Eq.trans rfl rfl
theorem finish_two_eq (G : List Blk) (e0 e1 : Option Nat) (v : AV) : finish 2 H.length e0 v ⟨H ++ G, e1⟩ =
    if clean H.length e1 = true ∧ flatAll H.length (H ++ G) (dedup (v.roots H.length)) = true then some (v.rename (renum H.length (dedup (v.roots H.length))), ⟨H ++ keepBlks (H ++ G) (dedup (v.roots H.length)), e0⟩) else none := by
  unfold finish keepBlks flatAll
  simp
theorem finish_two_eq0 (e0 e1 : Option Nat) (v : AV) : finish 2 H.length e0 v ⟨H, e1⟩ =
    if clean H.length e1 = true ∧ flatAll H.length H (dedup (v.roots H.length)) = true then some (v.rename (renum H.length (dedup (v.roots H.length))), ⟨H ++ keepBlks H (dedup (v.roots H.length)), e0⟩) else none := by
  unfold finish keepBlks flatAll
  simp
theorem finish_one_eq (G : List Blk) (e0 e1 : Option Nat) (v : AV) : finish 1 H.length e0 v ⟨H ++ G, e1⟩ = if v.under H.length = true ∧ clean H.length e1 = true then some (v, ⟨H, e0⟩) else none := by
  unfold finish
  simp
theorem finish_one_eq0 (e0 e1 : Option Nat) (v : AV) : finish 1 H.length e0 v ⟨H, e1⟩ = if v.under H.length = true ∧ clean H.length e1 = true then some (v, ⟨H, e0⟩) else none := by
  unfold finish
  simp
theorem dedup_nil : dedup [] = [] := Eq.trans rfl rfl
theorem dedup_one (b : Nat) : dedup [b] = [b] := Eq.trans rfl rfl
theorem dedup_two (a b : Nat) : dedup [a, b] = if a = b then [a] else [a, b] := by
  by_cases h : a = b
  · simp [dedup, h]
  · have : ¬ b = a := fun h' => h h'.symm
    simp [dedup, h, this]
theorem renum_old {lim b : Nat} (rs : List Nat) (h : b < lim) : renum lim rs b = b := by simp [renum, h]
theorem renum_one (k : Nat) : renum H.length [H.length + k] (H.length + k) = H.length := by
  have h1 : ¬ H.length + k < H.length := by omega
  simp only [renum, h1, if_false, List.idxOf_cons_self, Nat.add_zero]
theorem renum_one0 : renum H.length [H.length] H.length = H.length := by simp [renum]
theorem renum_two0 {a b : Nat} (h : H.length ≤ a) : renum H.length [a, b] a = H.length := by
  have h1 : ¬ a < H.length := by omega
  simp [renum, h1]
theorem renum_two1 {a b : Nat} (h : H.length ≤ b) (hne : a ≠ b) : renum H.length [a, b] b = H.length + 1 := by
  have h1 : ¬ b < H.length := by omega
  have h2 : (a == b) = false := by simpa using hne
  simp [renum, h1, h2, List.idxOf_cons]

theorem finV_wc (F : AFun) (m : Mem) (st : St) (Q : AV → Mem → Prop) : Wc (finRun F m st) Q = Wc (finV F m (resultList st.tm st.m.H F.results) st.m) Q := Eq.trans rfl rfl

theorem get_more {α : Type} {L : List α} {j : Nat} {b : α} (h : L[j]? = some b) (X : List α) : (L ++ X)[j]? = some b := by
  rw [List.getElem?_append_left (List.getElem?_eq_some_iff.mp h).1]; exact h
theorem cellsAt_of {L : List Blk} {j : Nat} {cs : List AV} {w : Bool} (h : L[j]? = some (.cells cs w)) : cellsAt L j = some cs := by
  unfold cellsAt; rw [h]

theorem clean_none' (n : Nat) : clean n none = true := Eq.trans rfl rfl
theorem clean_some (n k : Nat) : clean n (some k) = decide (n ≤ k) := Eq.trans rfl rfl
theorem clean_ite (c : Prop) [Decidable c] (n : Nat) (a b : Option Nat) : clean n (if c then a else b) = if c then clean n a else clean n b := by split <;> rfl
theorem minEsc_none (b : Nat) : minEsc none b = some b := Eq.trans rfl rfl
theorem minEsc_some (a b : Nat) : minEsc (some a) b = some (min a b) := Eq.trans rfl rfl
end

end Go.Proofs.Ytaikmfldjkbmmaa.Slim

/- The drawing of arguments from bytes: the cursor. -/
namespace Go.Proofs.Ytaikmfldjkbmmaa.Slim

open Go

set_option linter.unusedSimpArgs false

set_option linter.unusedVariables false

variable {pr : Prims} {H : List Blk} {e : Option Nat}

section

variable {C : FuncId → List AV → Mem → Option (AV × Mem)} {g : X → AV} {m : Mem}

def nilCheckV (v : AV) : Option AV := match v with
  | .ptr (some p) => some (.ptr (some p))
  | .fn f a b => some (.fn f a b)
  | _ => none

theorem aop_nilCheck (x : X) : aop C g m (.nilCheck x) = valOf m (nilCheckV (g x)) := by
  rw [aop_of_light rfl]
  simp only [light, nilCheckV]
  generalize g x = v
  cases v with
  | ptr p => cases p <;> rfl
  | _ => rfl

theorem nilCheckV_ptr (p : Nat × Nat) : nilCheckV (.ptr (some p)) = some (.ptr (some p)) := rfl

end

/-- a slice of bytes, in memory -/
def CodeAt (L : List Blk) (av : AV) : Prop :=
  ∃ zs : List Int, zs.length ≤ 70000 ∧ (∀ z ∈ zs, 0 ≤ z ∧ z ≤ 255) ∧ ((av = .slice none 0 0 none ∧ zs = []) ∨ ∃ b c, av = .slice (some (b, 0)) 1 zs.length c ∧ cellsAt L b = some (zs.map (AV.int .u8)))

theorem CodeAt.more {L : List Blk} {av : AV} (h : CodeAt L av) (G : List Blk) : CodeAt (L ++ G) av := by
  obtain ⟨zs, h1, h2, h3 | ⟨b, c, h3, h4⟩⟩ := h
  · exact ⟨zs, h1, h2, .inl h3⟩
  · exact ⟨zs, h1, h2, .inr ⟨b, c, h3, cells_mono h4 G⟩⟩

abbrev curB (av : AV) (p h : Int) : Blk := .cells [av, .int .i64 p, .int .u64 h] true

/-- a cursor -/
def Cu (L : List Blk) (q : Nat) (av : AV) (p : Int) : Prop := (∃ h, L[q]? = some (curB av p h)) ∧ CodeAt L av ∧ 0 ≤ p

theorem Cu.lt {L : List Blk} {q : Nat} {av : AV} {p : Int} (h : Cu L q av p) : q < L.length := by
  obtain ⟨⟨_, h⟩, _⟩ := h
  exact (List.getElem?_eq_some_iff.mp h).1

theorem Cu.more {L : List Blk} {q : Nat} {av : AV} {p : Int} (h : Cu L q av p) (G : List Blk) : Cu (L ++ G) q av p := by
  have hl := h.lt
  obtain ⟨⟨z, h1⟩, h2, h3⟩ := h
  exact ⟨⟨z, by rw [List.getElem?_append_left hl, h1]⟩, h2.more G, h3⟩

theorem Cu.step {L : List Blk} {q : Nat} {av : AV} {p : Int} (h : Cu L q av p) {y : Int} (hy : 0 ≤ y) (z : Int) : Cu (L.set q (curB av y z)) q av y := by
  have hl := h.lt
  obtain ⟨⟨w, h1⟩, ⟨zs, g1, g2, g3⟩, h3⟩ := h
  refine ⟨⟨z, List.getElem?_set_self hl⟩, ⟨zs, g1, g2, ?_⟩, hy⟩
  rcases g3 with g3 | ⟨b, c, e2, e3⟩
  · exact .inl g3
  refine .inr ⟨b, c, e2, ?_⟩
  have hbq : b ≠ q := by
    rintro rfl
    unfold cellsAt at e3
    rw [h1] at e3
    simp at e3
    match zs with
    | [] => simp at e3
    | [_] => simp at e3
    | _ :: _ :: _ => simp at e3
  unfold cellsAt at e3 ⊢
  rw [List.getElem?_set_ne (fun h => hbq h.symm)]
  exact e3

theorem set_app {L : List Blk} {q : Nat} (h : q < L.length) (x : Blk) (G : List Blk) : (L ++ G).set q x = L.set q x ++ G := List.set_append_left _ _ h

theorem finish_one_setG (v : AV) (e0 e1 : Option Nat) (b : Nat) (x : Blk) (G : List Blk) : finish 1 H.length e0 v ⟨H.set b x ++ G, e1⟩ = if v.under H.length = true ∧ clean H.length e1 = true then some (v, ⟨H.set b x, e0⟩) else none := by
  unfold finish
  have : (H.set b x ++ G).take H.length = H.set b x := by
    rw [List.take_append_of_le_length (by simp), List.take_of_length_le (by simp)]
  simp [this]

theorem finish_one_set0 (v : AV) (e0 e1 : Option Nat) (b : Nat) (x : Blk) : finish 1 H.length e0 v ⟨H.set b x, e1⟩ = if v.under H.length = true ∧ clean H.length e1 = true then some (v, ⟨H.set b x, e0⟩) else none := by
  have := finish_one_setG (H := H) v e0 e1 b x []
  rwa [List.append_nil] at this

theorem cellsAt_s0 (q : Nat) (x : Blk) (l : List Blk) : cellsAt (H.set q x ++ l) H.length = cellsAt l 0 := by simp [cellsAt, List.getElem?_append_right]

theorem cellsAt_sk (q : Nat) (x : Blk) (l : List Blk) (k : Nat) : cellsAt (H.set q x ++ l) (H.length + k) = cellsAt l k := by simp [cellsAt, List.getElem?_append_right]

theorem blkAt_s0 (q : Nat) (x : Blk) (l : List Blk) : (H.set q x ++ l)[H.length]? = l[0]? := by simp [List.getElem?_append_right]

theorem blkAt_sk (q : Nat) (x : Blk) (l : List Blk) (k : Nat) : (H.set q x ++ l)[H.length + k]? = l[k]? := by simp [List.getElem?_append_right]

theorem set_s0 (q : Nat) (x : Blk) (l : List Blk) (b : Blk) : (H.set q x ++ l).set H.length b = H.set q x ++ l.set 0 b := by simp [List.set_append_right]

theorem set_sk (q : Nat) (x : Blk) (l : List Blk) (b : Blk) (k : Nat) : (H.set q x ++ l).set (H.length + k) b = H.set q x ++ l.set k b := by simp [List.set_append_right]

theorem set_sapp {q : Nat} (h : q < H.length) (x y : Blk) (l : List Blk) : (H.set q x ++ l).set q y = H.set q y ++ l := by
  rw [List.set_append_left _ _ (by simpa using h), List.set_set]

theorem Cu.new {G : List Blk} {k : Nat} {av : AV} {y z : Int} (hG : G[k]? = some (curB av y z)) (hc : CodeAt H av) (hy : 0 ≤ y) : Cu (H ++ G) (H.length + k) av y :=
  ⟨⟨z, by rw [List.getElem?_append_right (by omega), Nat.add_sub_cancel_left, hG]⟩, hc.more G, hy⟩

theorem Cu.cells {L : List Blk} {q : Nat} {av : AV} {p : Int} (h : Cu L q av p) : ∃ w, L[q]? = some (curB av p w) ∧ cellsAt L q = some [av, .int .i64 p, .int .u64 w] := by
  obtain ⟨⟨w, h1⟩, _⟩ := h
  exact ⟨w, h1, by unfold cellsAt; rw [h1]⟩

theorem cells_set {L : List Blk} {q : Nat} (h : q < L.length) (cs : List AV) (wr : Bool) : cellsAt (L.set q (.cells cs wr)) q = some cs := by
  unfold cellsAt
  rw [List.getElem?_set_self h]

theorem andI_255 (x : Int) : 0 ≤ andI .u64 x 255 ∧ andI .u64 x 255 ≤ 255 := by
  have h1 : (BitVec.ofInt 64 x &&& BitVec.ofInt 64 255).toNat ≤ 255 := by
    rw [BitVec.toNat_and]
    exact Nat.le_trans Nat.and_le_right (by decide)
  have h2 : andI .u64 x 255 = IntKind.u64.wrap ((BitVec.ofInt 64 x &&& BitVec.ofInt 64 255).toNat : Int) := rfl
  rw [h2]
  generalize (BitVec.ofInt 64 x &&& BitVec.ofInt 64 255).toNat = n at *
  have : IntKind.u64.wrap (n : Int) = n := by
    simp [IntKind.wrap, IntKind.bits, IntKind.signed]
    omega
  rw [this]
  omega

theorem wc_next {q : Nat} {av : AV} {p : Int} (h : Cu H q av p) (hp : p ≤ 1000000000000) : Wc (call T pr f_s_l1Cur_next [.ptr (some (q, 0))] ⟨H, e⟩) (fun v m => ∃ x y z : Int, v = .int .i64 x ∧ 0 ≤ x ∧ x ≤ 255 ∧ 0 ≤ y ∧ y ≤ p + 1 ∧ m = ⟨H.set q (curB av y z), e⟩) := by
  have hl := h.lt
  obtain ⟨w, h1, hcell⟩ := h.cells
  obtain ⟨_, ⟨zs, g2, g3, g4⟩, h3⟩ := h
  obtain ⟨p', sz, c, rfl⟩ : ∃ p' sz c, av = .slice p' sz zs.length c := by
    rcases g4 with ⟨rfl, rfl⟩ | ⟨b, c, rfl, _⟩
    · exact ⟨_, _, _, rfl⟩
    · exact ⟨_, _, _, rfl⟩
  obtain ⟨n, rfl⟩ : ∃ n : Nat, p = (n : Int) := ⟨p.toNat, by omega⟩
  have hw := wrap_succ (show n < 9223372036854775807 by omega)
  have hsg : ∀ (y : Blk), (H.set q y)[q]? = some y := fun y => List.getElem?_set_self hl
  have hcs := fun cs wr => cells_set (L := H) hl cs wr
  rw [call_wc t_s_l1Cur_next]
  by_cases hn : n < zs.length
  · have hne : zs ≠ [] := by intro h0; rw [h0] at hn; simp at hn
    obtain ⟨b, hq, hb⟩ : ∃ b, (p' = some (b, 0) ∧ sz = 1) ∧ cellsAt H b = some (zs.map (AV.int .u8)) := by
      rcases g4 with ⟨_, rfl⟩ | ⟨b, c', hq, hb⟩
      · exact absurd rfl hne
      · cases hq; exact ⟨b, ⟨rfl, rfl⟩, hb⟩
    obtain ⟨rfl, rfl⟩ := hq
    have hz := g3 zs[n] (List.getElem_mem _)
    have hpart : part false (zs.map (AV.int .u8)) n 1 = some (.int .u8 zs[n]) := by
      rw [part_false, List.getElem?_map, List.getElem?_eq_getElem hn]
      rfl
    have hcv : IntKind.i64.wrap zs[n] = zs[n] := wrap64 (by omega) (by omega)
    have hle : decide (((n + 1 : Nat) : Int) ≤ (zs.length : Int)) = true := decide_eq_true (by omega)
    have hle' : n + 1 ≤ zs.length := hn
    simp +contextual only [a_s_l1Cur_next, c_s_l1Cur_next, aop_nilCheck, nilCheckV_ptr, h1, hcell, hsg, hcs, hn, hb, hpart, hcv, hw, hle, hle', List.set_set, Nat.mul_one, decide_true, finish_one_set0, clean_none', Wp_some, Wp_none, Wp_ite, Wc_some, Wc_none, Wc_ite, Wp_thenRun, seqQ_normal, seqQ_exit, seqQ_ret, Wp_inBlock, blkQ_normal, blkQ_ret, blkQ_same, blkQ_exit, Wp_opThen, opQ_at, Wp_guardP, retQ_normal, retQ_ret, loopQ_normal, loopQ_exit, loopQ_ret, go_sem, entry, joinEsc, if_pos, reduceIte, Nat.reduceAdd, Nat.reduceLeDiff, Nat.reduceLT, Nat.reduceEqDiff]
    exact ⟨_, _, _, rfl, hz.1, hz.2, by omega, by omega, rfl⟩
  · have hle : decide (((n + 1 : Nat) : Int) ≤ (zs.length : Int)) = false := decide_eq_false (by omega)
    have hle' : ¬ n + 1 ≤ zs.length := by omega
    have hcv : ∀ x : Int, IntKind.i64.wrap (andI .u64 x 255) = andI .u64 x 255 := fun x => wrap64 (by have := andI_255 x; omega) (by have := andI_255 x; omega)
    simp +contextual only [a_s_l1Cur_next, c_s_l1Cur_next, aop_nilCheck, nilCheckV_ptr, h1, hcell, hsg, hcs, hn, hcv, hw, hle, hle', show ¬ ((40 : Int) < 0) by omega, List.set_set, Nat.mul_one, decide_true, decide_false, finish_one_set0, clean_none', Wp_some, Wp_none, Wp_ite, Wc_some, Wc_none, Wc_ite, Wp_thenRun, seqQ_normal, seqQ_exit, seqQ_ret, Wp_inBlock, blkQ_normal, blkQ_ret, blkQ_same, blkQ_exit, Wp_opThen, opQ_at, Wp_guardP, retQ_normal, retQ_ret, loopQ_normal, loopQ_exit, loopQ_ret, go_sem, entry, joinEsc, if_pos, reduceIte, Nat.reduceAdd, Nat.reduceLeDiff, Nat.reduceLT, Nat.reduceEqDiff]
    exact ⟨_, _, _, rfl, (andI_255 _).1, (andI_255 _).2, by omega, by omega, rfl⟩

theorem wc_pick {q : Nat} {av : AV} {p : Int} (n : Int) (h : Cu H q av p) (hp : p ≤ 100000000000) (hn : n ≤ 1000000000000) : Wc (call T pr f_s_l1Cur_pick [.ptr (some (q, 0)), .int .i64 n] ⟨H, e⟩) (fun v m => ∃ x y z : Int, v = .int .i64 x ∧ 0 ≤ x ∧ (x < n ∨ x = 0) ∧ 0 ≤ y ∧ y ≤ p + 2 ∧ m = ⟨H.set q (curB av y z), e⟩) := by
  have hl := h.lt
  rw [call_wc t_s_l1Cur_pick]
  by_cases h1 : n ≤ 1
  · obtain ⟨w, hw, _⟩ := h.cells
    have hsame : H = H.set q (curB av p w) := by
      obtain ⟨hb, he⟩ := List.getElem?_eq_some_iff.mp hw
      rw [← he, List.set_getElem_self]
    have h1' : decide (n ≤ 1) = true := decide_eq_true h1
    simp +contextual only [a_s_l1Cur_pick, c_s_l1Cur_pick, h1, h1', decide_true, Wp_some, Wp_none, Wp_ite, Wc_some, Wc_none, Wc_ite, Wp_thenRun, seqQ_normal, seqQ_exit, seqQ_ret, Wp_inBlock, blkQ_normal, blkQ_ret, blkQ_same, blkQ_exit, Wp_opThen, opQ_at, Wp_guardP, retQ_normal, retQ_ret, loopQ_normal, loopQ_exit, loopQ_ret, finish_one_eq, finish_one_eq0, finish_two_eq, finish_two_eq0, roots_slice_new, roots_slice_new0, roots_slice_none, roots_ptr_new, roots_ptr_new0, roots_int, roots_bool, roots_str, roots_agg, roots_tup, roots_cons, roots_nil, rename_slice, rename_slice_none, rename_ptr, rename_int, rename_bool, rename_str, rename_agg, rename_tup, rename_cons, rename_nil, keepBlks_nil, keepBlks_cons, flatAll_nil, flatAll_cons, flatBlk_cells, dedup_nil, dedup_one, dedup_two, renum_one, renum_one0, renum_two0, renum_two1, clean_none', clean_some, minEsc_none, minEsc_some, Nat.add_left_cancel_iff, Nat.le_add_right, Nat.le_refl, decide_true, go_sem, entry, joinEsc, if_pos, reduceIte, Nat.reduceAdd, Nat.reduceLeDiff, Nat.reduceLT, Nat.reduceEqDiff]
    exact ⟨0, p, w, rfl, Int.le_refl _, .inr rfl, h.2.2, by omega, by rw [← hsame]⟩
  · have h1' : decide (n ≤ 1) = false := decide_eq_false h1
    simp +contextual only [a_s_l1Cur_pick, c_s_l1Cur_pick, h1, h1', decide_false, Wp_some, Wp_none, Wp_ite, Wc_some, Wc_none, Wc_ite, Wp_thenRun, seqQ_normal, seqQ_exit, seqQ_ret, Wp_inBlock, blkQ_normal, blkQ_ret, blkQ_same, blkQ_exit, Wp_opThen, opQ_at, Wp_guardP, retQ_normal, retQ_ret, loopQ_normal, loopQ_exit, loopQ_ret, go_sem, entry, joinEsc, if_pos, reduceIte, Nat.reduceAdd, Nat.reduceLeDiff, Nat.reduceLT, Nat.reduceEqDiff]
    refine (wc_next h (by omega)).mono ?_
    rintro v m ⟨x, y, z, rfl, hx0, hx1, hy0, hy1, rfl⟩
    have h' := h.step hy0 z
    have hmod : ∀ u : Int, 0 ≤ u → 0 ≤ u.tmod n ∧ u.tmod n < n := fun u hu => ⟨Int.tmod_nonneg _ hu, Int.tmod_lt_of_pos _ (by omega)⟩
    have hnz : ¬ n = 0 := by omega
    by_cases h2 : 200 < n
    · have h2' : decide (200 < n) = true := decide_eq_true h2
      have hm1 : IntKind.i64.wrap (x * 256) = x * 256 := wrap64 (by omega) (by omega)
      simp +contextual only [gt_iff_lt, h2, h2', hm1, decide_true, Wp_some, Wp_none, Wp_ite, Wc_some, Wc_none, Wc_ite, Wp_thenRun, seqQ_normal, seqQ_exit, seqQ_ret, Wp_inBlock, blkQ_normal, blkQ_ret, blkQ_same, blkQ_exit, Wp_opThen, opQ_at, Wp_guardP, retQ_normal, retQ_ret, loopQ_normal, loopQ_exit, loopQ_ret, go_sem, entry, joinEsc, if_pos, reduceIte, Nat.reduceAdd, Nat.reduceLeDiff, Nat.reduceLT, Nat.reduceEqDiff]
      refine (wc_next h' (by omega)).mono ?_
      rintro v m ⟨x2, y2, z2, rfl, hx20, hx21, hy20, hy21, rfl⟩
      have hm2 : IntKind.i64.wrap (x * 256 + x2) = x * 256 + x2 := wrap64 (by omega) (by omega)
      have hm := hmod (x * 256 + x2) (by omega)
      simp +contextual only [a_s_l1Cur_pick, hm2, hnz, List.set_set, finish_one_set0, clean_none', Wp_some, Wp_none, Wp_ite, Wc_some, Wc_none, Wc_ite, Wp_thenRun, seqQ_normal, seqQ_exit, seqQ_ret, Wp_inBlock, blkQ_normal, blkQ_ret, blkQ_same, blkQ_exit, Wp_opThen, opQ_at, Wp_guardP, retQ_normal, retQ_ret, loopQ_normal, loopQ_exit, loopQ_ret, finish_one_eq, finish_one_eq0, finish_two_eq, finish_two_eq0, roots_slice_new, roots_slice_new0, roots_slice_none, roots_ptr_new, roots_ptr_new0, roots_int, roots_bool, roots_str, roots_agg, roots_tup, roots_cons, roots_nil, rename_slice, rename_slice_none, rename_ptr, rename_int, rename_bool, rename_str, rename_agg, rename_tup, rename_cons, rename_nil, keepBlks_nil, keepBlks_cons, flatAll_nil, flatAll_cons, flatBlk_cells, dedup_nil, dedup_one, dedup_two, renum_one, renum_one0, renum_two0, renum_two1, clean_none', clean_some, minEsc_none, minEsc_some, Nat.add_left_cancel_iff, Nat.le_add_right, Nat.le_refl, decide_true, go_sem, entry, joinEsc, if_pos, reduceIte, Nat.reduceAdd, Nat.reduceLeDiff, Nat.reduceLT, Nat.reduceEqDiff]
      exact ⟨_, _, _, rfl, hm.1, .inl hm.2, hy20, by omega, rfl⟩
    · have h2' : decide (200 < n) = false := decide_eq_false h2
      have hm := hmod x hx0
      simp +contextual only [a_s_l1Cur_pick, gt_iff_lt, h2, h2', hnz, List.set_set, finish_one_set0, clean_none', decide_false, Wp_some, Wp_none, Wp_ite, Wc_some, Wc_none, Wc_ite, Wp_thenRun, seqQ_normal, seqQ_exit, seqQ_ret, Wp_inBlock, blkQ_normal, blkQ_ret, blkQ_same, blkQ_exit, Wp_opThen, opQ_at, Wp_guardP, retQ_normal, retQ_ret, loopQ_normal, loopQ_exit, loopQ_ret, finish_one_eq, finish_one_eq0, finish_two_eq, finish_two_eq0, roots_slice_new, roots_slice_new0, roots_slice_none, roots_ptr_new, roots_ptr_new0, roots_int, roots_bool, roots_str, roots_agg, roots_tup, roots_cons, roots_nil, rename_slice, rename_slice_none, rename_ptr, rename_int, rename_bool, rename_str, rename_agg, rename_tup, rename_cons, rename_nil, keepBlks_nil, keepBlks_cons, flatAll_nil, flatAll_cons, flatBlk_cells, dedup_nil, dedup_one, dedup_two, renum_one, renum_one0, renum_two0, renum_two1, clean_none', clean_some, minEsc_none, minEsc_some, Nat.add_left_cancel_iff, Nat.le_add_right, Nat.le_refl, decide_true, go_sem, entry, joinEsc, if_pos, reduceIte, Nat.reduceAdd, Nat.reduceLeDiff, Nat.reduceLT, Nat.reduceEqDiff]
      exact ⟨_, _, _, rfl, hm.1, .inl hm.2, hy0, by omega, rfl⟩

theorem wc_one {q : Nat} {av : AV} {p : Int} (n : Int) (h : Cu H q av p) (hp : p ≤ 100000000000) (hn : n ≤ 1000000000000) : Wc (call T pr f_s_l1Cur_one [.ptr (some (q, 0)), .int .i64 n] ⟨H, e⟩) (fun v m => ∃ (x : Bool) (y z : Int), v = .bool x ∧ 0 ≤ y ∧ y ≤ p + 2 ∧ m = ⟨H.set q (curB av y z), e⟩) := by
  rw [call_wc t_s_l1Cur_one]
  simp +contextual only [a_s_l1Cur_one, c_s_l1Cur_one, Wp_some, Wp_none, Wp_ite, Wc_some, Wc_none, Wc_ite, Wp_thenRun, seqQ_normal, seqQ_exit, seqQ_ret, Wp_inBlock, blkQ_normal, blkQ_ret, blkQ_same, blkQ_exit, Wp_opThen, opQ_at, Wp_guardP, retQ_normal, retQ_ret, loopQ_normal, loopQ_exit, loopQ_ret, go_sem, entry, joinEsc, if_pos, reduceIte, Nat.reduceAdd, Nat.reduceLeDiff, Nat.reduceLT, Nat.reduceEqDiff]
  refine (wc_pick n h hp hn).mono ?_
  rintro v m ⟨x, y, z, rfl, hx0, hx1, hy0, hy1, rfl⟩
  simp +contextual only [a_s_l1Cur_one, List.set_set, finish_one_set0, clean_none', Wp_some, Wp_none, Wp_ite, Wc_some, Wc_none, Wc_ite, Wp_thenRun, seqQ_normal, seqQ_exit, seqQ_ret, Wp_inBlock, blkQ_normal, blkQ_ret, blkQ_same, blkQ_exit, Wp_opThen, opQ_at, Wp_guardP, retQ_normal, retQ_ret, loopQ_normal, loopQ_exit, loopQ_ret, finish_one_eq, finish_one_eq0, finish_two_eq, finish_two_eq0, roots_slice_new, roots_slice_new0, roots_slice_none, roots_ptr_new, roots_ptr_new0, roots_int, roots_bool, roots_str, roots_agg, roots_tup, roots_cons, roots_nil, rename_slice, rename_slice_none, rename_ptr, rename_int, rename_bool, rename_str, rename_agg, rename_tup, rename_cons, rename_nil, keepBlks_nil, keepBlks_cons, flatAll_nil, flatAll_cons, flatBlk_cells, dedup_nil, dedup_one, dedup_two, renum_one, renum_one0, renum_two0, renum_two1, clean_none', clean_some, minEsc_none, minEsc_some, Nat.add_left_cancel_iff, Nat.le_add_right, Nat.le_refl, decide_true, go_sem, entry, joinEsc, if_pos, reduceIte, Nat.reduceAdd, Nat.reduceLeDiff, Nat.reduceLT, Nat.reduceEqDiff]
  exact ⟨_, _, _, rfl, hy0, by omega, rfl⟩

theorem wc_among {q b : Nat} {av : AV} {p : Int} {c : Option Nat} {zs : List Int} (h : Cu H q av p) (hp : p ≤ 100000000000) (hb : cellsAt H b = some (zs.map (AV.int .i64))) (hbq : b ≠ q) (h0 : 0 < zs.length) (hn : zs.length ≤ 1000000) : Wc (call T pr f_s_l1Cur_among [.ptr (some (q, 0)), .slice (some (b, 0)) 1 zs.length c] ⟨H, e⟩) (fun v m => ∃ x y z : Int, v = .int .i64 x ∧ x ∈ zs ∧ 0 ≤ y ∧ y ≤ p + 2 ∧ m = ⟨H.set q (curB av y z), e⟩) := by
  rw [call_wc t_s_l1Cur_among]
  simp +contextual only [a_s_l1Cur_among, c_s_l1Cur_among, Wp_some, Wp_none, Wp_ite, Wc_some, Wc_none, Wc_ite, Wp_thenRun, seqQ_normal, seqQ_exit, seqQ_ret, Wp_inBlock, blkQ_normal, blkQ_ret, blkQ_same, blkQ_exit, Wp_opThen, opQ_at, Wp_guardP, retQ_normal, retQ_ret, loopQ_normal, loopQ_exit, loopQ_ret, go_sem, entry, joinEsc, if_pos, reduceIte, Nat.reduceAdd, Nat.reduceLeDiff, Nat.reduceLT, Nat.reduceEqDiff]
  refine (wc_pick (zs.length : Int) h hp (by omega)).mono ?_
  rintro v m ⟨x, y, z, rfl, hx0, hx1, hy0, hy1, rfl⟩
  obtain ⟨i, rfl⟩ : ∃ i : Nat, x = (i : Int) := ⟨x.toNat, by omega⟩
  have hi : i < zs.length := by omega
  have hcs : cellsAt (H.set q (curB av y z)) b = some (zs.map (AV.int .i64)) := by
    unfold cellsAt at hb ⊢
    rw [List.getElem?_set_ne (fun h => hbq h.symm)]
    exact hb
  have hpart : part false (zs.map (AV.int .i64)) i 1 = some (.int .i64 zs[i]) := by
    rw [part_false, List.getElem?_map, List.getElem?_eq_getElem hi]
    rfl
  simp +contextual only [a_s_l1Cur_among, hi, hcs, hpart, Nat.mul_one, List.set_set, finish_one_set0, clean_none', Wp_some, Wp_none, Wp_ite, Wc_some, Wc_none, Wc_ite, Wp_thenRun, seqQ_normal, seqQ_exit, seqQ_ret, Wp_inBlock, blkQ_normal, blkQ_ret, blkQ_same, blkQ_exit, Wp_opThen, opQ_at, Wp_guardP, retQ_normal, retQ_ret, loopQ_normal, loopQ_exit, loopQ_ret, finish_one_eq, finish_one_eq0, finish_two_eq, finish_two_eq0, roots_slice_new, roots_slice_new0, roots_slice_none, roots_ptr_new, roots_ptr_new0, roots_int, roots_bool, roots_str, roots_agg, roots_tup, roots_cons, roots_nil, rename_slice, rename_slice_none, rename_ptr, rename_int, rename_bool, rename_str, rename_agg, rename_tup, rename_cons, rename_nil, keepBlks_nil, keepBlks_cons, flatAll_nil, flatAll_cons, flatBlk_cells, dedup_nil, dedup_one, dedup_two, renum_one, renum_one0, renum_two0, renum_two1, clean_none', clean_some, minEsc_none, minEsc_some, Nat.add_left_cancel_iff, Nat.le_add_right, Nat.le_refl, decide_true, go_sem, entry, joinEsc, if_pos, reduceIte, Nat.reduceAdd, Nat.reduceLeDiff, Nat.reduceLT, Nat.reduceEqDiff]
  exact ⟨_, _, _, rfl, List.getElem_mem _, hy0, by omega, rfl⟩

end Go.Proofs.Ytaikmfldjkbmmaa.Slim

/- The drawing of arguments from bytes: what is cut from the bytes. -/
namespace Go.Proofs.Ytaikmfldjkbmmaa.Slim

open Go

set_option linter.unusedSimpArgs false

set_option linter.unusedVariables false

variable {pr : Prims} {H : List Blk} {e : Option Nat}

def seqHd : ACode → ACode
  | .seq a _ => a
  | c => c

def seqTl : ACode → ACode
  | .seq _ c => c
  | c => c

theorem seq_cut2 {c : ACode} (h : c = .seq (seqHd c) (.seq (seqHd (seqTl c)) (seqTl (seqTl c)))) : ∃ R, R = seqTl (seqTl c) ∧ c = .seq (seqHd c) (.seq (seqHd (seqTl c)) R) := ⟨_, rfl, h⟩

def slLoV (sz : Nat) (v l : AV) : Option AV := match v with
  | .slice p sz' n cap => (match natOf l with
    | some l => sliceVal sz p sz' n cap l n none
    | none => none)
  | _ => none

section

variable {C : FuncId → List AV → Mem → Option (AV × Mem)} {g : X → AV} {m : Mem}

theorem aop_slLo (sz : Nat) (x l : X) : aop C g m (.sliceSl sz x (some l) none none) = valOf m (slLoV sz (g x) (g l)) := by
  rw [aop_of_light rfl]
  simp only [light, slLoV, bound, optNat]
  generalize g x = v
  generalize natOf (g l) = o
  cases v <;> cases o <;> simp

end

theorem slLoV_c (sz b o n l : Nat) (cap : Option Nat) (hl : l ≤ n) : slLoV sz (.slice (some (b, o)) sz n cap) (.int .i64 l) = some (.slice (some (b, o + l * sz)) sz (n - l) (cap.map (· - l))) := by
  unfold slLoV natOf sliceVal
  simp [hl]

theorem src_part {L : List Blk} {q sz n o k : Nat} {cs : List AV} (c : Option Nat) (h : cellsAt L q = some cs) (hl : o * sz + k * sz ≤ cs.length) : srcCells false L (.slice (some (q, o * sz)) sz k c) = some (k, (cs.drop (o * sz)).take (k * sz)) := by
  unfold srcCells
  simp [h, hl]

theorem src_new (L : List Blk) (n sz : Nat) (cap : Option Nat) (cs : List AV) (b : Nat) (h : cellsAt L b = some cs) (hl : cs.length = n * sz) : srcCells false L (.slice (some (b, 0)) sz n cap) = some (n, cs) := by
  unfold srcCells
  simp [h, ← hl]

def codeLen : AV → Nat
  | .slice _ _ n _ => n
  | _ => 0

theorem CodeAt.form {L : List Blk} {av : AV} (h : CodeAt L av) : ∃ p sz n c, av = .slice p sz n c := by
  obtain ⟨zs, _, _, ⟨rfl, _⟩ | ⟨b, c, rfl, _⟩⟩ := h
  · exact ⟨_, _, _, _, rfl⟩
  · exact ⟨_, _, _, _, rfl⟩

/-- an argument that is a slice of bytes -/
def ArgB (L : List Blk) (av : AV) (zs : List Int) : Prop :=
  (∀ z ∈ zs, 0 ≤ z ∧ z ≤ 255) ∧ ((av = .slice none 0 0 none ∧ zs = []) ∨ ∃ b c, av = .slice (some (b, 0)) 1 zs.length c ∧ cellsAt L b = some (zs.map (AV.int .u8)))

theorem bytes_of : ∀ (es : List (List Int)), (∀ e ∈ es, e.length = 1 ∧ ∀ z ∈ e, (Lit.int .u8 z).wf = true) → es.flatten.length = es.length ∧ ∀ z ∈ es.flatten, 0 ≤ z ∧ z ≤ 255
  | [], _ => by simp
  | x :: es, h => by
    obtain ⟨h1, h2⟩ := bytes_of es fun e he => h e (by simp [he])
    obtain ⟨hx1, hx2⟩ := h x (by simp)
    match x, hx1 with
    | [a], _ =>
      refine ⟨by simp [h1], fun z hz => ?_⟩
      rw [List.flatten_cons] at hz
      rcases List.mem_append.mp hz with hz | hz
      · have := hx2 z hz
        simp [Lit.wf, IntKind.min, IntKind.max, IntKind.signed, IntKind.bits] at this
        omega
      · exact h2 z hz

theorem argB_of {av : AV} {es : List (List Int)} (h : IsArg H av .u8 1 es) : ∃ zs, ArgB H av zs := by
  obtain ⟨h1, h2⟩ := h
  obtain ⟨h6, h7⟩ := bytes_of es h1
  rcases h2 with ⟨rfl, rfl⟩ | ⟨b, cap, rfl, h3, h4, h5⟩
  · exact ⟨[], by simp, .inl ⟨rfl, rfl⟩⟩
  · refine ⟨es.flatten, h7, .inr ⟨b, some cap, by rw [h6], ?_⟩⟩
    unfold cellsAt
    rw [h5]

theorem ArgB.form {L : List Blk} {av : AV} {zs : List Int} (h : ArgB L av zs) : ∃ p sz n c, av = .slice p sz n c ∧ (n ≤ 65536 → CodeAt L av) := by
  obtain ⟨h1, ⟨rfl, rfl⟩ | ⟨b, c, rfl, h2⟩⟩ := h
  · exact ⟨_, _, _, _, rfl, fun _ => ⟨[], by simp, by simp, .inl ⟨rfl, rfl⟩⟩⟩
  · exact ⟨_, _, _, _, rfl, fun hn => ⟨zs, by omega, h1, .inr ⟨b, c, rfl, h2⟩⟩⟩

theorem append_none {L : List Blk} {b sz : Nat} {src : AV} (hb : L[b]? = some (.cells [] true)) (hs : srcCells false L src = some (0, [])) : appendV L e false 1 1 (.slice (some (b, 0)) 1 0 (some 0)) src = some (.slice (some (L.length, 0)) 1 0 none, ⟨L.set b .dead ++ [.cells [] true], e⟩) := by
  unfold appendV
  simp only [hb, hs]
  rw [if_pos ⟨trivial, by simp [maxBytes], by simp, by simp⟩, if_neg (by simp), if_pos trivial]
  rfl

theorem append_some {L : List Blk} {b n : Nat} {src : AV} {cs : List AV} (hb : L[b]? = some (.cells [] true)) (hs : srcCells false L src = some (n, cs)) (h0 : 0 < n) (hn : n ≤ 1000000) (hc : cs.length = n) : appendV L e false 1 1 (.slice (some (b, 0)) 1 0 (some 0)) src = some (.slice (some (L.length, 0)) 1 n none, ⟨L ++ [.cells cs true], e⟩) := by
  unfold appendV
  simp only [hb, hs]
  rw [if_pos ⟨trivial, by unfold maxBytes; omega, by omega, by simp⟩, if_pos ⟨trivial, h0⟩, Nat.zero_add]

theorem append_one {L : List Blk} {b q n : Nat} {cs new : List AV} {c : Option Nat} (hb : L[b]? = some (.cells cs true)) (hq : cellsAt L q = some new) (hcs : cs.length = n) (hnew : new.length = 1) (hn : n ≤ 1000000) :
    appendV L e false 1 1 (.slice (some (b, 0)) 1 n none) (.slice (some (q, 0)) 1 1 c) = some (.slice (some (L.length, 0)) 1 (n + 1) none, ⟨L.set b .dead ++ [.cells (cs ++ new) true], e⟩) := by
  have hs := src_new L 1 1 c new q hq (by omega)
  unfold appendV
  simp only [hb, hs]
  rw [if_pos ⟨trivial, by unfold maxBytes; omega, by omega, by omega⟩, if_neg (by simp), List.drop_zero, List.take_of_length_le (by omega), if_pos trivial]

theorem CodeAt.new {G : List Blk} {k : Nat} {zs : List Int} {c : Option Nat} (hG : G[k]? = some (.cells (zs.map (AV.int .u8)) true)) (h1 : zs.length ≤ 70000) (h2 : ∀ z ∈ zs, 0 ≤ z ∧ z ≤ 255) : CodeAt (H ++ G) (.slice (some (H.length + k, 0)) 1 zs.length c) := by
  refine ⟨zs, h1, h2, .inr ⟨_, _, rfl, ?_⟩⟩
  rw [cellsAt_newk]
  unfold cellsAt
  rw [hG]

def slHiV (sz : Nat) (v h : AV) : Option AV := match v with
  | .slice p sz' n cap => (match natOf h with
    | some h => sliceVal sz p sz' n cap 0 h none
    | none => none)
  | _ => none

section

variable {C : FuncId → List AV → Mem → Option (AV × Mem)} {g : X → AV} {m : Mem}

theorem aop_slHi (sz : Nat) (x h : X) : aop C g m (.sliceSl sz x none (some h) none) = valOf m (slHiV sz (g x) (g h)) := by
  rw [aop_of_light rfl]
  simp only [light, slHiV, bound, optNat]
  generalize g x = v
  generalize natOf (g h) = o
  cases v <;> cases o <;> simp

end

theorem slHiV_c (sz b n l : Nat) (cap : Option Nat) (hl : l ≤ n) : slHiV sz (.slice (some (b, 0)) sz n cap) (.int .i64 l) = some (.slice (some (b, 0)) sz l cap) := by
  unfold slHiV natOf sliceVal
  simp [hl]

end Go.Proofs.Ytaikmfldjkbmmaa.Slim

/- The drawing of arguments from bytes: growing lists. -/
namespace Go.Proofs.Ytaikmfldjkbmmaa.Slim

open Go

set_option linter.unusedSimpArgs false

set_option linter.unusedVariables false

variable {pr : Prims} {H : List Blk} {e : Option Nat}

/-- one of some numbers, drawn -/
theorem amongZ {q b n : Nat} {av : AV} {p : Int} {c : Option Nat} (zs : List Int) (h : Cu H q av p) (hp : p ≤ 100000000000) (hb : cellsAt H b = some (zs.map (AV.int .i64))) (hbq : b ≠ q) (hn : zs.length = n) (h0 : 0 < n) (hn2 : n ≤ 1000000) : Wc (call T pr f_s_l1Cur_among [.ptr (some (q, 0)), .slice (some (b, 0)) 1 n c] ⟨H, e⟩) (fun v m => ∃ x y z : Int, v = .int .i64 x ∧ x ∈ zs ∧ 0 ≤ y ∧ y ≤ p + 2 ∧ m = ⟨H.set q (curB av y z), e⟩) := by
  subst hn
  exact wc_among h hp hb hbq h0 hn2

/-- an old block falls, where an append may have written into it -/
def killL (L : List Blk) (b : Nat) (keep : Bool) : List Blk := if keep = true then L else L.set b .dead

theorem killL_length (L : List Blk) (b : Nat) (k : Bool) : (killL L b k).length = L.length := by unfold killL; split <;> simp

theorem killL_get {L : List Blk} {b i : Nat} (k : Bool) (h : i ≠ b) : (killL L b k)[i]? = L[i]? := by
  unfold killL
  split
  · rfl
  · exact List.getElem?_set_ne (fun e => h e.symm)

/-- some elements more -/
theorem apG {L : List Blk} {b sz bytes n k : Nat} {cs new : List AV} {cap : Option Nat} {src : AV} (hb : L[b]? = some (.cells cs true)) (hs : srcCells false L src = some (k, new)) (hcs : cs.length = n * sz) (hnew : new.length = k * sz) (hm : (n + k) * bytes ≤ maxBytes) (hcap : cap = some 0 → n = 0) :
    appendV L e false sz bytes (.slice (some (b, 0)) sz n cap) src = some (.slice (some (L.length, 0)) sz (n + k) none, ⟨killL L b (decide (cap = some 0 ∧ 0 < k)) ++ [.cells (cs ++ new) true], e⟩) := by
  unfold appendV
  simp only [hb, hs]
  rw [if_pos ⟨trivial, hm, hnew, by omega⟩]
  by_cases h : cap = some 0 ∧ 0 < k
  · have hn := hcap h.1
    subst hn
    have : cs = [] := List.eq_nil_of_length_eq_zero (by omega)
    subst this
    rw [if_pos h]
    simp [killL, h]
  · rw [if_neg h, if_pos trivial, List.drop_zero, List.take_of_length_le (by omega)]
    simp [killL, h]

/-- one element more -/
theorem apOne {L : List Blk} {b q sz bytes n : Nat} {cs new : List AV} {cap c : Option Nat} (hb : L[b]? = some (.cells cs true)) (hq : cellsAt L q = some new) (hcs : cs.length = n * sz) (hnew : new.length = sz) (hm : (n + 1) * bytes ≤ maxBytes) (hcap : cap = some 0 → n = 0) :
    appendV L e false sz bytes (.slice (some (b, 0)) sz n cap) (.slice (some (q, 0)) sz 1 c) = some (.slice (some (L.length, 0)) sz (n + 1) none, ⟨killL L b (decide (cap = some 0)) ++ [.cells (cs ++ new) true], e⟩) := by
  have := apG (e := e) (bytes := bytes) (cap := cap) hb (src_new L 1 sz c new q hq (by omega)) hcs (by omega) hm hcap
  rw [this]
  simp

/-- a memory that has grown -/
def Grown (H L : List Blk) : Prop := ∃ G, L = H ++ G

theorem Grown.refl (H : List Blk) : Grown H H := ⟨[], by simp⟩
theorem Grown.le {H L : List Blk} (h : Grown H L) : H.length ≤ L.length := by
  obtain ⟨G, rfl⟩ := h
  simp
theorem Grown.more {H L : List Blk} (h : Grown H L) (X : List Blk) : Grown H (L ++ X) := by
  obtain ⟨G, rfl⟩ := h
  exact ⟨G ++ X, by simp⟩
theorem Grown.put {H L : List Blk} (h : Grown H L) {b : Nat} (hb : H.length ≤ b) (x : Blk) : Grown H (L.set b x) := by
  obtain ⟨G, rfl⟩ := h
  exact ⟨G.set (b - H.length) x, List.set_append_right _ _ hb⟩
theorem Grown.kill {H L : List Blk} (h : Grown H L) {b : Nat} (hb : H.length ≤ b) (k : Bool) : Grown H (killL L b k) := by
  unfold killL
  split
  · exact h
  · exact h.put hb _
theorem Grown.cur {H L : List Blk} {q : Nat} {x : Blk} (h : Grown (H.set q x) L) (hq : q < H.length) (y : Blk) : Grown (H.set q y) (L.set q y) := by
  obtain ⟨G, rfl⟩ := h
  exact ⟨G, by rw [List.set_append_left _ _ (by simpa using hq), List.set_set]⟩
theorem Grown.get {H L : List Blk} (h : Grown H L) {i : Nat} (hi : i < H.length) : L[i]? = H[i]? := by
  obtain ⟨G, rfl⟩ := h
  exact List.getElem?_append_left hi
theorem Grown.cells {H L : List Blk} {q : Nat} {x : Blk} (h : Grown (H.set q x) L) {b : Nat} {cs : List AV} (hb : cellsAt H b = some cs) (hne : b ≠ q) : cellsAt L b = some cs := by
  have hl : b < H.length := by
    unfold cellsAt at hb
    rcases Nat.lt_or_ge b H.length with h | h
    · exact h
    · rw [List.getElem?_eq_none h] at hb; cases hb
  unfold cellsAt at hb ⊢
  rw [h.get (by simpa using hl), List.getElem?_set_ne (fun e => hne e.symm)]
  exact hb
theorem Grown.curs {H L : List Blk} {q : Nat} {av : AV} {p y z : Int} (h : Grown (H.set q (curB av y z)) L) (hc : Cu H q av p) (hy : 0 ≤ y) : Cu L q av y := by
  obtain ⟨G, rfl⟩ := h
  exact (hc.step hy z).more G

/-- some elements more: what is known behind it -/
theorem wc_ap {L : List Blk} {b sz bytes n k : Nat} {cs new : List AV} {cap : Option Nat} {src : AV} {Q : AV → Mem → Prop} (hb : L[b]? = some (.cells cs true)) (hs : srcCells false L src = some (k, new)) (hcs : cs.length = n * sz) (hnew : new.length = k * sz) (hm : (n + k) * bytes ≤ maxBytes) (hcap : cap = some 0 → n = 0)
    (hQ : ∀ L' : List Blk, L'.length = L.length + 1 → (∀ i, i ≠ b → i < L.length → L'[i]? = L[i]?) → L'[L.length]? = some (.cells (cs ++ new) true) → (∀ H0, Grown H0 L → H0.length ≤ b → Grown H0 L') → Q (.slice (some (L.length, 0)) sz (n + k) none) ⟨L', e⟩) :
    Wc (appendV L e false sz bytes (.slice (some (b, 0)) sz n cap) src) Q := by
  refine Wc.of_eq (apG hb hs hcs hnew hm hcap) (hQ _ ?_ ?_ ?_ ?_)
  · rw [List.length_append, killL_length]; rfl
  · intro i h1 h2
    rw [List.getElem?_append_left (by rw [killL_length]; exact h2), killL_get _ h1]
  · have hl := killL_length L b (decide (cap = some 0 ∧ 0 < k))
    rw [List.getElem?_append_right (by omega), hl, Nat.sub_self]
    rfl
  · exact fun H0 hg hb => (hg.kill hb _).more _

theorem set_self_at {L : List Blk} {q : Nat} {x : Blk} (h : L[q]? = some x) : L.set q x = L := by
  obtain ⟨hlt, he⟩ := List.getElem?_eq_some_iff.mp h
  rw [← he, List.set_getElem_self]

/-- the end of a call that hands back one list, of a memory that has grown -/
theorem finish_sl {L : List Blk} {b sz n : Nat} {c : Option Nat} {cs : List AV} {w : Bool} (hL : Grown H L) (e0 e1 : Option Nat) (hc : clean H.length e1 = true) (hb : H.length ≤ b) (hG : L[b]? = some (.cells cs w)) (hu : (cs.all fun c => c.under H.length) = true) :
    finish 2 H.length e0 (.slice (some (b, 0)) sz n c) ⟨L, e1⟩ = some (.slice (some (H.length, 0)) sz n c, ⟨H ++ [.cells cs w], e0⟩) := by
  obtain ⟨G, rfl⟩ := hL
  obtain ⟨j, rfl⟩ : ∃ j, b = H.length + j := ⟨b - H.length, by omega⟩
  have hlt : ¬ H.length + j < H.length := by omega
  have hr : dedup (AV.roots H.length (.slice (some (H.length + j, 0)) sz n c)) = [H.length + j] := by simp [AV.roots, dedup, hlt]
  unfold finish
  simp only [hr]
  have h2 : ([H.length + j].all fun b => flatBlk H.length (H ++ G)[b]?) = true := by
    simp only [List.all_cons, List.all_nil, Bool.and_true, hG, flatBlk, hu]
  simp only [hc, h2, and_self, if_true]
  simp [AV.rename, renum, hlt, hG]

theorem finish_sl_set {q : Nat} {X : Blk} {L : List Blk} {b sz n : Nat} {c : Option Nat} {cs : List AV} {w : Bool} (hL : Grown (H.set q X) L) (e0 e1 : Option Nat) (hc : clean H.length e1 = true) (hb : H.length ≤ b) (hG : L[b]? = some (.cells cs w)) (hu : (cs.all fun c => c.under H.length) = true) :
    finish 2 H.length e0 (.slice (some (b, 0)) sz n c) ⟨L, e1⟩ = some (.slice (some (H.length, 0)) sz n c, ⟨H.set q X ++ [.cells cs w], e0⟩) := by
  have hl : (H.set q X).length = H.length := List.length_set
  have := finish_sl (H := H.set q X) (sz := sz) (n := n) (c := c) hL e0 e1 (by rw [hl]; exact hc) (by rw [hl]; exact hb) hG (by rw [hl]; exact hu)
  rw [hl] at this
  exact this

/-- the end of a call that hands back something plain and two lists -/
theorem finish_sl2 {L : List Blk} {b1 b2 s1 s2 n1 n2 : Nat} {c1 c2 : Option Nat} {cs1 cs2 : List AV} {w1 w2 : Bool} (v0 : AV) (h0 : AV.roots H.length v0 = []) (h0' : ∀ f, AV.rename f v0 = v0) (hL : Grown H L) (e0 e1 : Option Nat) (hc : clean H.length e1 = true) (hb1 : H.length ≤ b1) (hb2 : H.length ≤ b2) (hne : b1 ≠ b2)
    (h1 : L[b1]? = some (.cells cs1 w1)) (h2 : L[b2]? = some (.cells cs2 w2)) (u1 : (cs1.all fun c => c.under H.length) = true) (u2 : (cs2.all fun c => c.under H.length) = true) :
    finish 2 H.length e0 (.tup [v0, .slice (some (b1, 0)) s1 n1 c1, .slice (some (b2, 0)) s2 n2 c2]) ⟨L, e1⟩ = some (.tup [v0, .slice (some (H.length, 0)) s1 n1 c1, .slice (some (H.length + 1, 0)) s2 n2 c2], ⟨H ++ [.cells cs1 w1, .cells cs2 w2], e0⟩) := by
  obtain ⟨G, rfl⟩ := hL
  have hlt1 : ¬ b1 < H.length := by omega
  have hlt2 : ¬ b2 < H.length := by omega
  have hr : dedup (AV.roots H.length (.tup [v0, .slice (some (b1, 0)) s1 n1 c1, .slice (some (b2, 0)) s2 n2 c2])) = [b1, b2] := by
    simp only [AV.roots, AV.roots.go, h0, if_neg hlt1, if_neg hlt2, List.nil_append, List.cons_append, List.append_nil]
    simp [dedup, hne, Ne.symm hne]
  unfold finish
  simp only [hr]
  have h3 : ([b1, b2].all fun b => flatBlk H.length (H ++ G)[b]?) = true := by
    simp only [List.all_cons, List.all_nil, Bool.and_true, h1, h2, flatBlk, u1, u2, Bool.and_self]
  simp only [hc, h3, and_self, if_true]
  have hq : (b1 == b2) = false := by simpa using hne
  have hq' : (b2 == b1) = false := by simpa using Ne.symm hne
  simp [AV.rename, AV.rename.go, h0', renum, h1, h2, hlt1, hlt2, List.idxOf_cons, hq, hq']

/-- the end of a call that hands back something plain and a list -/
theorem finish_sl1 {L : List Blk} {b1 s1 n1 : Nat} {c1 : Option Nat} {cs1 : List AV} {w1 : Bool} (v0 : AV) (h0 : AV.roots H.length v0 = []) (h0' : ∀ f, AV.rename f v0 = v0) (hL : Grown H L) (e0 e1 : Option Nat) (hc : clean H.length e1 = true) (hb1 : H.length ≤ b1)
    (h1 : L[b1]? = some (.cells cs1 w1)) (u1 : (cs1.all fun c => c.under H.length) = true) :
    finish 2 H.length e0 (.tup [v0, .slice (some (b1, 0)) s1 n1 c1]) ⟨L, e1⟩ = some (.tup [v0, .slice (some (H.length, 0)) s1 n1 c1], ⟨H ++ [.cells cs1 w1], e0⟩) := by
  obtain ⟨G, rfl⟩ := hL
  have hlt1 : ¬ b1 < H.length := by omega
  have hr : dedup (AV.roots H.length (.tup [v0, .slice (some (b1, 0)) s1 n1 c1])) = [b1] := by
    simp only [AV.roots, AV.roots.go, h0, if_neg hlt1, List.nil_append, List.cons_append, List.append_nil]
    simp [dedup]
  unfold finish
  simp only [hr]
  have h3 : ([b1].all fun b => flatBlk H.length (H ++ G)[b]?) = true := by
    simp only [List.all_cons, List.all_nil, Bool.and_true, h1, flatBlk, u1, Bool.and_self]
  simp only [hc, h3, and_self, if_true]
  simp [AV.rename, AV.rename.go, h0', renum, h1, hlt1]

theorem e_l_rBig (p : Option (Nat × Nat)) (sz n : Nat) (c : Option Nat) : call T pr f_l_rBig [.slice p sz n c] ⟨H, e⟩ = some (.bool (decide ((65536 : Int) < (n : Int))), ⟨H, e⟩) := by
  rw [call_eq t_l_rBig]
  simp +contextual only [a_l_rBig, c_l_rBig, gt_iff_lt, go_sem, entry, joinEsc, if_pos, reduceIte, Nat.reduceAdd, Nat.reduceLeDiff, Nat.reduceLT, Nat.reduceEqDiff]

end Go.Proofs.Ytaikmfldjkbmmaa.Slim

/- Beams: bends and shears in the program. -/
namespace Go.Proofs.Ytaikmfldjkbmmaa.Slim

open Go

set_option linter.unusedSimpArgs false

set_option linter.unusedVariables false

variable {pr : Prims} {H : List Blk} {e : Option Nat}

theorem encI_one (xs : List Int) (x : Int) : encI xs ++ [AV.int .i64 x] = encI (xs ++ [x]) := by simp [encI]

theorem mul_bds {x d M D : Int} (h1 : -M ≤ x) (h2 : x ≤ M) (h3 : 0 ≤ d) (h4 : d ≤ D) (hM : 0 ≤ M) : -(M * D) ≤ x * d ∧ x * d ≤ M * D := by
  have e1 : x * d ≤ M * d := Int.mul_le_mul_of_nonneg_right h2 h3
  have e2 : M * d ≤ M * D := Int.mul_le_mul_of_nonneg_left h4 hM
  have e3 : -M * d ≤ x * d := Int.mul_le_mul_of_nonneg_right h1 h3
  have e4 : -M * d = -(M * d) := Int.neg_mul _ _
  omega

theorem sumZ_append (g : Ld → Int) : ∀ a b : List Ld, sumZ g (a ++ b) = sumZ g a + sumZ g b
  | [], b => by simp [sumZ]
  | l :: a, b => by rw [List.cons_append, sumZ, sumZ, sumZ_append g a b]; omega

theorem sumZ_take (g : Ld → Int) {ls : List Ld} {i : Nat} (h : i < ls.length) : sumZ g (ls.take (i + 1)) = sumZ g (ls.take i) + g ls[i] := by
  rw [List.take_succ_eq_append_getElem h, sumZ_append]
  simp [sumZ]

/-- what is known of a row on a beam -/
structure OnB (x a b : Int) (ls : List Ld) : Prop where
  x1 : 1 ≤ x
  x2 : x ≤ 60
  a0 : 0 ≤ a
  ab : a < b
  bx : b ≤ x
  len : ls.length ≤ 12
  row : rowOk ls = true
  each : ∀ l ∈ ls, 0 ≤ l.1 ∧ l.1 ≤ x ∧ 1 ≤ l.2 ∧ l.2 ≤ 99

theorem on_facts {x a b : Int} {ls : List Ld} (h : onOk x a b ls = true) : OnB x a b ls := by
  unfold onOk beamOk at h
  simp only [Bool.and_eq_true, decide_eq_true_eq, Bool.not_eq_true'] at h
  obtain ⟨⟨⟨h1, h2, h3, h4, h5⟩, h6⟩, h7⟩ := h
  obtain ⟨r1, r2⟩ := row_facts h6
  refine ⟨h1, h2, h3, h4, h5, r1, h6, fun l hl => ?_⟩
  have hk := r2 l hl
  unfold okL at hk
  simp only [Bool.and_eq_true, decide_eq_true_eq] at hk
  have hx : ¬ x < l.1 := by
    intro hlt
    rw [List.any_eq_false] at h7
    exact h7 l hl (decide_eq_true hlt)
  omega

theorem mx_bds {t : Int} (h : t ≤ 60) : 0 ≤ mx t ∧ mx t ≤ 60 := by
  unfold mx
  split <;> omega

theorem max_mx (t : Int) : (if (0 : Int) > t then 0 else t) = mx t := by
  unfold mx
  split <;> split <;> omega

section
variable {x a b : Int} {ls : List Ld}

/-- the third part of a bend -/
def bendG (a b p : Int) (l : Ld) : Int := (b - a) * l.2 * mx (p - l.1)

theorem bendG_bds (h : OnB x a b ls) {p : Int} (hp : p ≤ 60) {l : Ld} (hl : l ∈ ls) : (0 ≤ (b - a) * l.2 ∧ (b - a) * l.2 ≤ 5940) ∧ (-356400 ≤ bendG a b p l ∧ bendG a b p l ≤ 356400) := by
  obtain ⟨e1, e2, e3, e4⟩ := h.each l hl
  have h1 := h.x2; have h2 := h.a0; have h3 := h.ab; have h4 := h.bx
  have g0 : 0 ≤ (b - a) * l.2 := Int.mul_nonneg (by omega) (by omega)
  have g1 : (b - a) * l.2 ≤ 60 * 99 := Int.le_trans (Int.mul_le_mul_of_nonneg_right (show b - a ≤ 60 by omega) (by omega)) (Int.mul_le_mul_of_nonneg_left e4 (by omega))
  obtain ⟨m1, m2⟩ := mx_bds (t := p - l.1) (by omega)
  have := mul_bds (x := (b - a) * l.2) (d := mx (p - l.1)) (M := 5940) (D := 60) (by omega) (by omega) m1 m2 (by omega)
  unfold bendG
  omega

theorem bend_bds (h : OnB x a b ls) {p : Int} (hp0 : 0 ≤ p) (hp : p ≤ 60) : (-4276800 ≤ -momZ ls b * mx (p - a) ∧ -momZ ls b * mx (p - a) ≤ 4276800) ∧ (-4276800 ≤ momZ ls a * mx (p - b) ∧ momZ ls a * mx (p - b) ≤ 4276800) ∧ (∀ i, -4276800 ≤ sumZ (bendG a b p) (ls.take i) ∧ sumZ (bendG a b p) (ls.take i) ≤ 4276800) ∧ (-71280 ≤ momZ ls a ∧ momZ ls a ≤ 71280) ∧ (-71280 ≤ momZ ls b ∧ momZ ls b ≤ 71280) := by
  have h1 := h.x2; have h2 := h.a0; have h3 := h.ab; have h4 := h.bx
  obtain ⟨_, m1, m2⟩ := mom_at h.row (p := a) (by omega)
  obtain ⟨_, m3, m4⟩ := mom_at h.row (p := b) (by omega)
  obtain ⟨k1, k2⟩ := mx_bds (t := p - a) (by omega)
  obtain ⟨k3, k4⟩ := mx_bds (t := p - b) (by omega)
  have q1 := mul_bds (x := -momZ ls b) (d := mx (p - a)) (M := 71280) (D := 60) (by omega) (by omega) k1 k2 (by omega)
  have q2 := mul_bds (x := momZ ls a) (d := mx (p - b)) (M := 71280) (D := 60) (by omega) (by omega) k3 k4 (by omega)
  refine ⟨by omega, by omega, fun i => ?_, ⟨m1, m2⟩, ⟨m3, m4⟩⟩
  have hb := sumZ_bd (g := bendG a b p) (B := 356400) (by omega) (ls.take i) (fun l hl => (bendG_bds h hp (List.mem_of_mem_take hl)).2)
  have hl := h.len
  have : (ls.take i).length ≤ 12 := by rw [List.length_take]; omega
  omega

theorem e_i_Beam_span (x a b : Int) (ha : 0 ≤ a) (hab : a < b) (hb : b ≤ 60) : call T pr f_i_Beam_span [bmV x a b] ⟨H, e⟩ = some (.int .i64 (b - a), ⟨H, e⟩) := by
  rw [call_eq t_i_Beam_span]
  simp +contextual only [a_i_Beam_span, c_i_Beam_span, show IntKind.i64.wrap (b - a) = b - a from wrap64 (by omega) (by omega), go_sem, entry, joinEsc, if_pos, reduceIte, Nat.reduceAdd, Nat.reduceLeDiff, Nat.reduceLT, Nat.reduceEqDiff]

theorem e_i_Beam_supports {q : Nat} {c : Option Nat} (hq : cellsAt H q = some (encL ls)) (h : OnB x a b ls) : call T pr f_i_Beam_supports [bmV x a b, slL q ls.length c] ⟨H, e⟩ = some (.tup [.int .i64 (-momZ ls b), .int .i64 (momZ ls a)], ⟨H, e⟩) := by
  have h1 := h.x2; have h2 := h.a0; have h3 := h.ab; have h4 := h.bx
  have hl := h.len
  obtain ⟨k1, k2, k3⟩ := mom_at h.row (p := a) (by omega)
  obtain ⟨k4, k5, k6⟩ := mom_at h.row (p := b) (by omega)
  have hm := fun G => e_i_momentAbout (pr := pr) (e := none) (c := c) (cells_mono hq G) (by omega)
  have hn : IntKind.i64.wrap (0 - momZ ls b) = -momZ ls b := by rw [Int.zero_sub]; exact wrap64 (by omega) (by omega)
  rw [call_eq t_i_Beam_supports]
  simp +contextual only [a_i_Beam_supports, c_i_Beam_supports, hm, k1, k4, hn, go_sem, entry, joinEsc, if_pos, reduceIte, Nat.reduceAdd, Nat.reduceLeDiff, Nat.reduceLT, Nat.reduceEqDiff]

theorem e_i_Beam_bendAt {q : Nat} {c : Option Nat} (hq : cellsAt H q = some (encL ls)) (h : OnB x a b ls) {p : Int} (hp0 : 0 ≤ p) (hp : p ≤ 60) : call T pr f_i_Beam_bendAt [bmV x a b, slL q ls.length c, .int .i64 p] ⟨H, e⟩ = some (.int .i64 (bendZ a b ls p), ⟨H, e⟩) := by
  have h1 := h.x2; have h2 := h.a0; have h3 := h.ab; have h4 := h.bx
  have hl := h.len
  obtain ⟨b1, b2, b3, b4, b5⟩ := bend_bds h hp0 hp
  apply Wc.eq
  rw [call_wc t_i_Beam_bendAt]
  have hs := fun G => e_i_Beam_supports (pr := pr) (e := none) (c := c) (cells_mono hq G) h
  have w1 : IntKind.i64.wrap (p - a) = p - a := wrap64 (by omega) (by omega)
  have w2 : IntKind.i64.wrap (p - b) = p - b := wrap64 (by omega) (by omega)
  have w3 : IntKind.i64.wrap (-momZ ls b * mx (p - a)) = -momZ ls b * mx (p - a) := wrap64 (by omega) (by omega)
  have w4 : IntKind.i64.wrap (momZ ls a * mx (p - b)) = momZ ls a * mx (p - b) := wrap64 (by omega) (by omega)
  have w5 : IntKind.i64.wrap (-momZ ls b * mx (p - a) + momZ ls a * mx (p - b)) = -momZ ls b * mx (p - a) + momZ ls a * mx (p - b) := wrap64 (by omega) (by omega)
  simp +contextual only [a_i_Beam_bendAt, c_i_Beam_bendAt, hs, w1, w2, max_mx, w3, w4, w5, Wp_some, Wp_none, Wp_ite, Wc_some, Wc_none, Wc_ite, Wp_thenRun, seqQ_normal, seqQ_exit, seqQ_ret, Wp_inBlock, blkQ_normal, blkQ_ret, blkQ_same, blkQ_exit, Wp_opThen, opQ_at, Wp_guardP, retQ_normal, retQ_ret, loopQ_normal, loopQ_exit, loopQ_ret, go_sem, entry, joinEsc, if_pos, reduceIte, Nat.reduceAdd, Nat.reduceLeDiff, Nat.reduceLT, Nat.reduceEqDiff]
  have hat := bendZ_at a b ls p
  have hgd : sumZ (fun l => (b - a) * l.2 * mx (p - l.1)) ls = sumZ (bendG a b p) ls := rfl
  rw [hgd] at hat
  have hu0 : -8553600 ≤ -momZ ls b * mx (p - a) + momZ ls a * mx (p - b) ∧ -momZ ls b * mx (p - a) + momZ ls a * mx (p - b) ≤ 8553600 := by omega
  generalize -momZ ls b * mx (p - a) + momZ ls a * mx (p - b) = u0 at *
  refine Wp_loop (fun k st => ∃ (i : Nat) (G : List Blk) (w8 w12 : AV), i + k = ls.length ∧ st = ⟨[bmV x a b, slL q ls.length c, .int .i64 p, .ptr (some (H.length, 0)), .int .i64 0, .int .i64 (-momZ ls b), .int .i64 (momZ ls a), .int .i64 (u0 - sumZ (bendG a b p) (ls.take i)), w8, slL q ls.length c, .int .i64 ls.length, .int .i64 i, w12], ⟨H ++ .cells [.int .i64 x, .int .i64 a, .int .i64 b] true :: G, none⟩⟩) ?_ ls.length _ ?_
  · rintro k _ ⟨i, G, w8, w12, hi, rfl⟩
    by_cases hk : k = 0
    · have he : i = ls.length := by omega
      subst he
      rw [List.take_length, ← hat]
      simp (maxSteps := 2000000) +contextual only [w_i_Beam_bendAt_1, Nat.lt_irrefl, decide_false, Wp_some, Wp_none, Wp_ite, Wc_some, Wc_none, Wc_ite, Wp_thenRun, seqQ_normal, seqQ_exit, seqQ_ret, Wp_inBlock, blkQ_normal, blkQ_ret, blkQ_same, blkQ_exit, Wp_opThen, opQ_at, Wp_guardP, retQ_normal, retQ_ret, loopQ_normal, loopQ_exit, loopQ_ret, go_sem, entry, joinEsc, if_pos, reduceIte, Nat.reduceAdd, Nat.reduceLeDiff, Nat.reduceLT, Nat.reduceEqDiff]
    · have hii : i < ls.length := by omega
      have hmem := List.getElem_mem hii
      obtain ⟨⟨g0, g1⟩, g2, g3⟩ := bendG_bds h hp hmem
      obtain ⟨e1, e2, e3, e4⟩ := h.each _ hmem
      have ht := sumZ_take (bendG a b p) hii
      have hb3 := b3 i
      have hb4 := b3 (i + 1)
      have hsp := fun G => e_i_Beam_span (pr := pr) (H := G) (e := none) x a b h2 h3 (by omega)
      have v1 : IntKind.i64.wrap (p - ls[i].1) = p - ls[i].1 := wrap64 (by omega) (by omega)
      have v2 : IntKind.i64.wrap ((b - a) * ls[i].2) = (b - a) * ls[i].2 := wrap64 (by omega) (by omega)
      have v3 : IntKind.i64.wrap ((b - a) * ls[i].2 * mx (p - ls[i].1)) = (b - a) * ls[i].2 * mx (p - ls[i].1) := wrap64 (by unfold bendG at g2; omega) (by unfold bendG at g3; omega)
      have hqm := fun G => cells_mono hq G
      have hpt := part_encL (List.getElem?_eq_getElem hii)
      have hw := wrap_succ (show i < 9223372036854775807 by omega)
      have v4 : IntKind.i64.wrap (u0 - sumZ (bendG a b p) (ls.take i) - (b - a) * ls[i].2 * mx (p - ls[i].1)) = u0 - sumZ (bendG a b p) (ls.take (i + 1)) := by
        rw [ht]
        unfold bendG at *
        rw [wrap64 (by omega) (by omega)]
        omega
      simp (maxSteps := 2000000) +contextual only [w_i_Beam_bendAt_1, hii, hsp, v1, v2, v3, v4, hw, hqm, hpt, max_mx, decide_true, Wp_some, Wp_none, Wp_ite, Wc_some, Wc_none, Wc_ite, Wp_thenRun, seqQ_normal, seqQ_exit, seqQ_ret, Wp_inBlock, blkQ_normal, blkQ_ret, blkQ_same, blkQ_exit, Wp_opThen, opQ_at, Wp_guardP, retQ_normal, retQ_ret, loopQ_normal, loopQ_exit, loopQ_ret, go_sem, entry, joinEsc, if_pos, reduceIte, Nat.reduceAdd, Nat.reduceLeDiff, Nat.reduceLT, Nat.reduceEqDiff]
      exact ⟨k - 1, by omega, i + 1, _, _, _, by omega, rfl⟩
  · refine ⟨0, [], .undef, .undef, by omega, ?_⟩
    simp [sumZ]

end

end Go.Proofs.Ytaikmfldjkbmmaa.Slim
