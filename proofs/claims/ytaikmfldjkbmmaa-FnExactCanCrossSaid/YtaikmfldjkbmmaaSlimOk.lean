/- The slim functions are the program's. -/
import Derived.Test.YtaikmfldjkbmmaaSlimFns
import Derived.Test.YtaikmfldjkbmmaaChecked
namespace Go.Proofs.Ytaikmfldjkbmmaa.Slim
open Go
theorem ok_gosem_cut_init : compileFn Try.prog [] 1 [] Try.f2 = some a_gosem_cut_init := by kernel_rfl
theorem ok_l_FnExactRestsOn : compileFn Try.prog [0, 1, 2, 4, 5, 6, 7, 8, 9, 10, 15, 40, 45] 1 [] Try.f3 = some a_l_FnExactRestsOn := by kernel_rfl
theorem ok_l_FnExactCanCross : compileFn Try.prog [0, 1, 2, 4, 5, 6, 7, 8, 9, 10, 15, 40, 45] 1 [] Try.f4 = some a_l_FnExactCanCross := by kernel_rfl
theorem ok_l_FnBeams : compileFn Try.prog [0, 2, 3, 4, 5, 6, 7, 8, 9, 10, 11, 12, 13, 14, 15, 16, 17, 18, 19, 20, 21, 22, 23, 24, 25, 26, 27, 28, 29, 30, 31, 32, 33, 34, 35, 36, 37, 38, 39, 40, 41, 42, 43, 44, 45, 46, 47, 48, 49, 50, 51, 52, 53, 54, 55, 57, 83, 109, 141, 166, 198, 231, 259, 284, 285, 309, 311, 370, 375, 409, 413, 466, 483, 507] 1 [(27, [0, 1, 2, 3, 4, 5, 6, 7, 8, 9, 10, 12, 11, 13, 14, 15]), (51, [0, 1, 2, 3, 4, 5, 6, 7, 8, 9, 10, 11, 12, 13, 14, 15, 16, 17]), (59, [0, 1, 2, 3, 4, 5, 6, 7, 8, 9, 10, 11, 12, 13, 14, 15, 16, 17, 18, 19, 20, 21, 22, 23, 24, 25, 26, 27, 28, 29, 30, 31, 32, 33, 34, 35, 36, 37, 38, 39, 40, 41, 42, 43, 44, 45, 46, 47, 48, 49, 50])] Try.f5 = some a_l_FnBeams := by kernel_rfl
theorem ok_l_szLoadS : compileFn Try.prog [0, 1, 4, 10] 1 [] Try.f7 = some a_l_szLoadS := by kernel_rfl
theorem ok_s_RestsOn : compileFn Try.prog [0, 1, 2, 4, 5, 9] 1 [] Try.f8 = some a_s_RestsOn := by kernel_rfl
theorem ok_l_toBeam : compileFn Try.prog [0, 1, 2, 3] 1 [] Try.f9 = some a_l_toBeam := by kernel_rfl
theorem ok_l_toLoadS : compileFn Try.prog [0, 2, 3, 4, 11] 2 [] Try.f10 = some a_l_toLoadS := by kernel_rfl
theorem ok_i_RestsOn : compileFn Try.prog [0, 1, 2, 4, 5, 9] 1 [] Try.f11 = some a_i_RestsOn := by kernel_rfl
theorem ok_l_eqLoadS : compileFn Try.prog [0, 1, 4, 5, 10, 14, 26] 1 [(6, [0, 1, 2, 3, 4, 5, 6, 7, 8, 9])] Try.f12 = some a_l_eqLoadS := by kernel_rfl
theorem ok_s_CanCross : compileFn Try.prog [0, 1, 2, 4, 5, 6, 14, 18, 29] 1 [(6, [0, 1, 3, 4, 5, 6, 2, 7, 8])] Try.f13 = some a_s_CanCross := by kernel_rfl
theorem ok_i_CanCross : compileFn Try.prog [0, 1, 2, 4, 5, 6, 14, 17, 18, 19, 26] 1 [(6, [0, 1, 2, 3, 4, 5])] Try.f14 = some a_i_CanCross := by kernel_rfl
theorem ok_l_rBig : compileFn Try.prog [0, 2] 1 [] Try.f15 = some a_l_rBig := by kernel_rfl
theorem ok_s_DrawBendTimes : compileFn Try.prog [0, 2, 3] 2 [] Try.f16 = some a_s_DrawBendTimes := by kernel_rfl
theorem ok_i_BendTimes : compileFn Try.prog [0, 1, 2, 4, 5, 9] 2 [] Try.f17 = some a_i_BendTimes := by kernel_rfl
theorem ok_s_BendTimes : compileFn Try.prog [0, 1, 2, 4, 5, 9] 2 [] Try.f18 = some a_s_BendTimes := by kernel_rfl
theorem ok_l_rInts : compileFn Try.prog [0, 1, 4, 5, 10, 14, 25] 1 [(6, [0, 1, 2, 3, 4, 5, 6, 7, 8])] Try.f19 = some a_l_rInts := by kernel_rfl
theorem ok_i_ShearTimes : compileFn Try.prog [0, 1, 2, 4, 5, 6, 7, 8, 9, 10, 12, 16, 25, 26, 27, 32, 39, 43, 44, 45, 46, 52] 2 [(17, [0, 1, 3, 4, 2, 5, 6, 7])] Try.f20 = some a_i_ShearTimes := by kernel_rfl
theorem ok_s_ShearTimes : compileFn Try.prog [0, 1, 2, 4, 5, 9] 2 [] Try.f21 = some a_s_ShearTimes := by kernel_rfl
theorem ok_i_SupportTimes : compileFn Try.prog [0, 1, 2, 4, 5, 6, 7, 8, 12] 1 [] Try.f22 = some a_i_SupportTimes := by kernel_rfl
theorem ok_s_SupportTimes : compileFn Try.prog [0, 1, 2, 4, 5, 6, 10] 1 [(3, [0, 1, 2, 5, 6, 7, 3, 4, 8, 9, 10, 11])] Try.f23 = some a_s_SupportTimes := by kernel_rfl
theorem ok_i_GreatestBend : compileFn Try.prog [0, 1, 2, 4, 5, 6, 7, 8, 9, 10, 11, 15, 18, 19, 20, 21, 31] 1 [] Try.f24 = some a_i_GreatestBend := by kernel_rfl
theorem ok_s_GreatestBend : compileFn Try.prog [0, 1, 2, 4, 5, 6, 7, 8, 9, 10, 11, 15, 22, 37] 1 [(7, [0, 1, 2, 3, 4, 5, 6, 7, 8, 9, 10])] Try.f25 = some a_s_GreatestBend := by kernel_rfl
theorem ok_s_DrawInfluenceOf : compileFn Try.prog [0, 2, 3, 4, 5] 1 [(3, [0, 1, 2, 3, 4, 5])] Try.f26 = some a_s_DrawInfluenceOf := by kernel_rfl
theorem ok_i_InfluenceOf : compileFn Try.prog [0, 1, 2, 4, 5, 6, 7, 11, 15, 16, 17] 2 [] Try.f27 = some a_i_InfluenceOf := by kernel_rfl
theorem ok_s_InfluenceOf : compileFn Try.prog [0, 1, 2, 4, 5, 15] 2 [] Try.f28 = some a_s_InfluenceOf := by kernel_rfl
theorem ok_i_IsBeam : compileFn Try.prog [0, 1, 2] 1 [] Try.f29 = some a_i_IsBeam := by kernel_rfl
theorem ok_s_IsBeam : compileFn Try.prog [0, 1, 2] 1 [] Try.f30 = some a_s_IsBeam := by kernel_rfl
theorem ok_s_DrawBendBy : compileFn Try.prog [0, 2, 3, 4, 5, 6, 7] 2 [(4, [0, 1, 2, 3, 4, 5, 6, 7])] Try.f31 = some a_s_DrawBendBy := by kernel_rfl
theorem ok_i_BendBy : compileFn Try.prog [0, 1, 2, 3, 6, 7, 17] 1 [] Try.f32 = some a_i_BendBy := by kernel_rfl
theorem ok_s_BendBy : compileFn Try.prog [0, 1, 2, 3, 6, 7, 8, 9, 10, 21, 28] 1 [(7, [0, 1, 2, 3, 4, 5, 6, 7, 8, 9, 10, 11, 12, 13, 14, 15, 16])] Try.f33 = some a_s_BendBy := by kernel_rfl
theorem ok_i_MirrorBeam : compileFn Try.prog [0, 1, 2, 3, 6] 1 [] Try.f34 = some a_i_MirrorBeam := by kernel_rfl
theorem ok_s_MirrorBeam : compileFn Try.prog [0, 1, 2, 3, 6] 1 [] Try.f35 = some a_s_MirrorBeam := by kernel_rfl
theorem ok_i_WeightOf : compileFn Try.prog [0, 2, 3, 6] 1 [] Try.f36 = some a_i_WeightOf := by kernel_rfl
theorem ok_s_DrawWorstBend : compileFn Try.prog [0, 2, 3, 4] 2 [] Try.f37 = some a_s_DrawWorstBend := by kernel_rfl
theorem ok_i_WorstBend : compileFn Try.prog [0, 1, 2, 3, 6, 7, 8, 9, 10, 11, 12, 21, 24, 25, 26, 40] 1 [(7, [0, 1, 2, 4, 3, 5, 6])] Try.f38 = some a_i_WorstBend := by kernel_rfl
theorem ok_s_WorstBend : compileFn Try.prog [0, 1, 2, 3, 6, 7, 8, 9, 10, 11, 12, 27, 31, 48] 1 [(7, [0, 1, 2, 5, 3, 4, 6, 7, 8])] Try.f39 = some a_s_WorstBend := by kernel_rfl
theorem ok_s_DrawCanCross : compileFn Try.prog [0, 2, 3, 4] 2 [] Try.f40 = some a_s_DrawCanCross := by kernel_rfl
theorem ok_i_IsConvoy : compileFn Try.prog [0, 2, 3, 4, 5, 6, 7, 8, 45] 1 [(4, [0, 1, 2, 3, 4, 5, 6, 7, 8, 9, 10, 11, 12, 13, 14, 15, 16, 17, 18, 19, 20, 21, 22, 23, 24, 25, 26, 27, 28, 29, 30, 31, 32, 33])] Try.f41 = some a_i_IsConvoy := by kernel_rfl
theorem ok_s_DrawOutermostPlaces : compileFn Try.prog [0, 2, 3, 4, 5, 6, 7] 2 [(4, [0, 1, 2, 3, 4, 5, 6, 7])] Try.f42 = some a_s_DrawOutermostPlaces := by kernel_rfl
theorem ok_i_OutermostPlaces : compileFn Try.prog [0, 1, 2, 3, 6, 7, 8, 9, 10, 11, 25, 28, 29, 30, 39, 41, 46] 1 [] Try.f43 = some a_i_OutermostPlaces := by kernel_rfl
theorem ok_s_OutermostPlaces : compileFn Try.prog [0, 1, 2, 3, 6, 7, 8, 9, 10, 11, 25, 29, 41, 43, 47] 1 [(7, [0, 1, 2, 4, 5, 6, 7, 3, 8, 9])] Try.f44 = some a_s_OutermostPlaces := by kernel_rfl
theorem ok_s_DrawIsConvoy : compileFn Try.prog [0, 2, 3] 2 [] Try.f45 = some a_s_DrawIsConvoy := by kernel_rfl
theorem ok_s_IsConvoy : compileFn Try.prog [0, 2] 1 [] Try.f46 = some a_s_IsConvoy := by kernel_rfl
theorem ok_s_DrawConvoyRow : compileFn Try.prog [0, 2, 3, 4, 5, 6, 7] 2 [(4, [0, 1, 2, 3, 4, 5, 6, 7])] Try.f47 = some a_s_DrawConvoyRow := by kernel_rfl
theorem ok_i_ConvoyRow : compileFn Try.prog [0, 1, 2, 3, 6, 7, 16] 2 [] Try.f48 = some a_i_ConvoyRow := by kernel_rfl
theorem ok_s_ConvoyRow : compileFn Try.prog [0, 1, 2, 3, 6, 7, 22] 2 [] Try.f49 = some a_s_ConvoyRow := by kernel_rfl
theorem ok_l_rRow : compileFn Try.prog [0, 1, 4, 5, 10, 14, 25] 1 [(6, [0, 1, 2, 3, 4, 5, 6, 7, 8])] Try.f50 = some a_l_rRow := by kernel_rfl
theorem ok_s_l6On : compileFn Try.prog [0, 1, 2, 4, 5, 13, 17, 27] 1 [(6, [0, 1, 2, 3, 4, 5, 6, 7])] Try.f51 = some a_s_l6On := by kernel_rfl
theorem ok_s_l2Side : compileFn Try.prog [0, 1, 2, 6, 10, 14] 1 [] Try.f52 = some a_s_l2Side := by kernel_rfl
theorem ok_l_toLoad : compileFn Try.prog [0, 1, 2, 3] 1 [] Try.f53 = some a_l_toLoad := by kernel_rfl
theorem ok_i_isOn : compileFn Try.prog [0, 1, 2, 4] 1 [] Try.f54 = some a_i_isOn := by kernel_rfl
theorem ok_i_Beam_rests : compileFn Try.prog [0, 1, 2, 4] 1 [] Try.f55 = some a_i_Beam_rests := by kernel_rfl
theorem ok_l_eqLoad : compileFn Try.prog [0, 1, 2, 3, 4, 9, 14] 1 [] Try.f56 = some a_l_eqLoad := by kernel_rfl
theorem ok_s_l6Beam : compileFn Try.prog [0, 1, 2] 1 [] Try.f57 = some a_s_l6Beam := by kernel_rfl
theorem ok_s_l6Convoy : compileFn Try.prog [0, 2, 3, 7, 43] 1 [(4, [0, 1, 2, 3, 4, 5, 6, 7, 8, 9, 10, 11, 12, 13, 14, 15, 16, 17, 18, 19, 20, 21, 22, 23, 24, 25, 26, 27, 28, 29, 30, 31, 32, 33])] Try.f58 = some a_s_l6Convoy := by kernel_rfl
theorem ok_s_l6At : compileFn Try.prog [0, 1, 4, 5, 6, 11, 20] 2 [(6, [0, 1, 2, 3, 4, 5, 6, 7, 8, 9, 10, 11, 12, 13, 14, 15, 16])] Try.f59 = some a_s_l6At := by kernel_rfl
theorem ok_i_convoyRow : compileFn Try.prog [0, 1, 4, 5, 7, 9, 10, 11, 12, 18] 2 [] Try.f60 = some a_i_convoyRow := by kernel_rfl
theorem ok_s_DrawRestsOn : compileFn Try.prog [0, 2, 3, 4, 5] 2 [(3, [0, 1, 2, 3, 4, 5])] Try.f61 = some a_s_DrawRestsOn := by kernel_rfl
theorem ok_i_Beam_bends : compileFn Try.prog [0, 1, 2, 4, 5, 6, 10, 11, 12] 2 [] Try.f62 = some a_i_Beam_bends := by kernel_rfl
theorem ok_s_l6Bends : compileFn Try.prog [0, 1, 2, 4, 5, 6, 7, 15] 2 [(5, [0, 1, 2, 3, 4, 5, 6, 7, 8, 9, 10, 11, 12])] Try.f63 = some a_s_l6Bends := by kernel_rfl
theorem ok_i_Beam_supports : compileFn Try.prog [0, 1, 2, 4, 5] 1 [(1, [0, 1, 2, 5, 6, 7, 3, 4, 8, 9, 10])] Try.f64 = some a_i_Beam_supports := by kernel_rfl
theorem ok_i_Beam_span : compileFn Try.prog [0, 1, 2] 1 [] Try.f65 = some a_i_Beam_span := by kernel_rfl
theorem ok_s_l6Shears : compileFn Try.prog [0, 1, 2, 4, 5, 6, 7, 8, 16] 2 [] Try.f66 = some a_s_l6Shears := by kernel_rfl
theorem ok_s_l2Moment : compileFn Try.prog [0, 1, 4, 5, 6, 10] 1 [(5, [0, 1, 2, 3, 4, 5, 6, 7, 8, 9, 10, 11, 12, 13, 14, 15])] Try.f67 = some a_s_l2Moment := by kernel_rfl
theorem ok_s_l1Most : compileFn Try.prog [0, 1, 4, 7] 1 [] Try.f68 = some a_s_l1Most := by kernel_rfl
theorem ok_s_l1Cur_beam : compileFn Try.prog [0, 2, 3, 4, 12, 29, 30, 36, 47] 1 [(5, [0, 1, 2, 3, 4, 5, 6, 7, 8, 9, 10, 11])] Try.f69 = some a_s_l1Cur_beam := by kernel_rfl
theorem ok_s_l1Cur_placeOn : compileFn Try.prog [0, 1, 3, 4, 6] 1 [] Try.f70 = some a_s_l1Cur_placeOn := by kernel_rfl
theorem ok_i_isOnBeam : compileFn Try.prog [0, 1, 2, 4] 1 [] Try.f71 = some a_i_isOnBeam := by kernel_rfl
theorem ok_i_Beam_bendAt : compileFn Try.prog [0, 1, 2, 3, 6, 7, 8, 9, 11, 33, 34, 35, 36] 1 [(6, [0, 1, 3, 4, 6, 7, 8, 9, 10, 2, 5, 11, 12, 13])] Try.f72 = some a_i_Beam_bendAt := by kernel_rfl
theorem ok_s_l1In : compileFn Try.prog [0, 1, 2, 6] 1 [] Try.f73 = some a_s_l1In := by kernel_rfl
theorem ok_s_l6Influence : compileFn Try.prog [0, 1, 2, 4, 5, 6, 11] 2 [] Try.f74 = some a_s_l6Influence := by kernel_rfl
theorem ok_i_within : compileFn Try.prog [0, 1, 2, 6] 1 [] Try.f75 = some a_i_within := by kernel_rfl
theorem ok_s_l1Cur_onBeam : compileFn Try.prog [0, 1, 3, 4, 5, 6, 19, 23] 2 [(6, [0, 1, 2, 3, 4, 5, 6, 7, 8, 9, 10, 11, 12, 13])] Try.f76 = some a_s_l1Cur_onBeam := by kernel_rfl
theorem ok_i_IsRow : compileFn Try.prog [0, 2, 5] 1 [] Try.f77 = some a_i_IsRow := by kernel_rfl
theorem ok_i_weightOf : compileFn Try.prog [0, 2, 3, 5, 6, 7, 8, 9] 1 [] Try.f78 = some a_i_weightOf := by kernel_rfl
theorem ok_s_l1Cur_convoy : compileFn Try.prog [0, 2, 3, 4, 5, 11, 30, 31, 39, 50, 58, 62, 68] 2 [] Try.f79 = some a_s_l1Cur_convoy := by kernel_rfl
theorem ok_i_isWeight : compileFn Try.prog [0, 2] 1 [] Try.f80 = some a_i_isWeight := by kernel_rfl
theorem ok_s_l1Cur_among : compileFn Try.prog [0, 1, 4] 1 [] Try.f81 = some a_s_l1Cur_among := by kernel_rfl
theorem ok_i_standsWith : compileFn Try.prog [0, 1, 2, 3, 4, 10] 1 [] Try.f82 = some a_i_standsWith := by kernel_rfl
theorem ok_s_l2With : compileFn Try.prog [0, 1, 2, 6] 2 [] Try.f83 = some a_s_l2With := by kernel_rfl
theorem ok_s_l2Row : compileFn Try.prog [0, 2, 3, 11, 29] 1 [] Try.f84 = some a_s_l2Row := by kernel_rfl
theorem ok_slices_ContainsFunc_Si_Load_i_Load : compileFn Try.prog [0, 1, 4] 1 [] Try.f85 = some a_slices_ContainsFunc_Si_Load_i_Load := by kernel_rfl
theorem ok_i_isOn_1 : compileFn Try.prog [0, 1, 2, 3] 1 [] Try.f86 = some a_i_isOn_1 := by kernel_rfl
theorem ok_i_tipSide : compileFn Try.prog [0, 1, 2, 6, 7, 12] 1 [] Try.f87 = some a_i_tipSide := by kernel_rfl
theorem ok_i_momentAbout : compileFn Try.prog [0, 1, 4, 5, 7, 8, 9, 10, 11] 1 [] Try.f88 = some a_i_momentAbout := by kernel_rfl
theorem ok_s_l6Forces : compileFn Try.prog [0, 1, 2, 4, 5, 6, 31] 2 [(2, [0, 1, 2, 3, 4, 5, 6, 7, 8, 9]), (3, [0, 1, 2, 3, 4, 5, 6, 7, 8]), (7, [0, 1, 2, 3, 4, 5, 6, 7, 8, 9, 10, 11, 12, 13, 14, 15, 16, 17, 18, 19, 20, 21, 22, 23, 24, 25, 26, 27])] Try.f89 = some a_s_l6Forces := by kernel_rfl
theorem ok_s_l1Cur_one : compileFn Try.prog [0, 1, 4] 1 [] Try.f90 = some a_s_l1Cur_one := by kernel_rfl
theorem ok_s_l1Cur_pick : compileFn Try.prog [0, 1, 4, 5, 7, 11] 1 [] Try.f91 = some a_s_l1Cur_pick := by kernel_rfl
theorem ok_s_l1Least : compileFn Try.prog [0, 1, 4, 7] 1 [] Try.f92 = some a_s_l1Least := by kernel_rfl
theorem ok_s_l1Cur_row : compileFn Try.prog [0, 2] 2 [] Try.f93 = some a_s_l1Cur_row := by kernel_rfl
theorem ok_i_IsRow_1 : compileFn Try.prog [0, 1, 2] 1 [] Try.f94 = some a_i_IsRow_1 := by kernel_rfl
theorem ok_i_isPlace : compileFn Try.prog [0, 2] 1 [] Try.f95 = some a_i_isPlace := by kernel_rfl
theorem ok_slices_Clone_Si_Load_i_Load : compileFn Try.prog [0, 2, 4] 2 [] Try.f96 = some a_slices_Clone_Si_Load_i_Load := by kernel_rfl
theorem ok_s_l2In : compileFn Try.prog [0, 2] 1 [] Try.f97 = some a_s_l2In := by kernel_rfl
theorem ok_slices_IndexFunc_Si_Load_i_Load : compileFn Try.prog [0, 1, 4, 5, 7, 8, 9, 16] 1 [] Try.f98 = some a_slices_IndexFunc_Si_Load_i_Load := by kernel_rfl
theorem ok_s_l1Cur_next : compileFn Try.prog [0, 2, 3, 13, 53] 1 [(2, [0, 1, 2, 3, 4, 5, 6, 7, 8, 9]), (3, [0, 1, 2, 3, 4, 5, 6, 7, 8, 9, 10, 11]), (6, [0, 1, 2, 3, 4, 5, 6, 7, 8, 9])] Try.f99 = some a_s_l1Cur_next := by kernel_rfl
theorem ok_s_l1Cur_someRow : compileFn Try.prog [0, 1, 4, 5, 6, 7, 15, 36, 38, 39, 50, 61, 65] 2 [] Try.f100 = some a_s_l1Cur_someRow := by kernel_rfl
theorem tabOk : TableOk Try.prog T := tableOk_of (by
  unfold tab
  exact allCons ⟨_, _, _, _, Try.func2, ok_gosem_cut_init⟩ <|
    allCons ⟨_, _, _, _, Try.func3, ok_l_FnExactRestsOn⟩ <|
    allCons ⟨_, _, _, _, Try.func4, ok_l_FnExactCanCross⟩ <|
    allCons ⟨_, _, _, _, Try.func5, ok_l_FnBeams⟩ <|
    allCons ⟨_, _, _, _, Try.func7, ok_l_szLoadS⟩ <|
    allCons ⟨_, _, _, _, Try.func8, ok_s_RestsOn⟩ <|
    allCons ⟨_, _, _, _, Try.func9, ok_l_toBeam⟩ <|
    allCons ⟨_, _, _, _, Try.func10, ok_l_toLoadS⟩ <|
    allCons ⟨_, _, _, _, Try.func11, ok_i_RestsOn⟩ <|
    allCons ⟨_, _, _, _, Try.func12, ok_l_eqLoadS⟩ <|
    allCons ⟨_, _, _, _, Try.func13, ok_s_CanCross⟩ <|
    allCons ⟨_, _, _, _, Try.func14, ok_i_CanCross⟩ <|
    allCons ⟨_, _, _, _, Try.func15, ok_l_rBig⟩ <|
    allCons ⟨_, _, _, _, Try.func16, ok_s_DrawBendTimes⟩ <|
    allCons ⟨_, _, _, _, Try.func17, ok_i_BendTimes⟩ <|
    allCons ⟨_, _, _, _, Try.func18, ok_s_BendTimes⟩ <|
    allCons ⟨_, _, _, _, Try.func19, ok_l_rInts⟩ <|
    allCons ⟨_, _, _, _, Try.func20, ok_i_ShearTimes⟩ <|
    allCons ⟨_, _, _, _, Try.func21, ok_s_ShearTimes⟩ <|
    allCons ⟨_, _, _, _, Try.func22, ok_i_SupportTimes⟩ <|
    allCons ⟨_, _, _, _, Try.func23, ok_s_SupportTimes⟩ <|
    allCons ⟨_, _, _, _, Try.func24, ok_i_GreatestBend⟩ <|
    allCons ⟨_, _, _, _, Try.func25, ok_s_GreatestBend⟩ <|
    allCons ⟨_, _, _, _, Try.func26, ok_s_DrawInfluenceOf⟩ <|
    allCons ⟨_, _, _, _, Try.func27, ok_i_InfluenceOf⟩ <|
    allCons ⟨_, _, _, _, Try.func28, ok_s_InfluenceOf⟩ <|
    allCons ⟨_, _, _, _, Try.func29, ok_i_IsBeam⟩ <|
    allCons ⟨_, _, _, _, Try.func30, ok_s_IsBeam⟩ <|
    allCons ⟨_, _, _, _, Try.func31, ok_s_DrawBendBy⟩ <|
    allCons ⟨_, _, _, _, Try.func32, ok_i_BendBy⟩ <|
    allCons ⟨_, _, _, _, Try.func33, ok_s_BendBy⟩ <|
    allCons ⟨_, _, _, _, Try.func34, ok_i_MirrorBeam⟩ <|
    allCons ⟨_, _, _, _, Try.func35, ok_s_MirrorBeam⟩ <|
    allCons ⟨_, _, _, _, Try.func36, ok_i_WeightOf⟩ <|
    allCons ⟨_, _, _, _, Try.func37, ok_s_DrawWorstBend⟩ <|
    allCons ⟨_, _, _, _, Try.func38, ok_i_WorstBend⟩ <|
    allCons ⟨_, _, _, _, Try.func39, ok_s_WorstBend⟩ <|
    allCons ⟨_, _, _, _, Try.func40, ok_s_DrawCanCross⟩ <|
    allCons ⟨_, _, _, _, Try.func41, ok_i_IsConvoy⟩ <|
    allCons ⟨_, _, _, _, Try.func42, ok_s_DrawOutermostPlaces⟩ <|
    allCons ⟨_, _, _, _, Try.func43, ok_i_OutermostPlaces⟩ <|
    allCons ⟨_, _, _, _, Try.func44, ok_s_OutermostPlaces⟩ <|
    allCons ⟨_, _, _, _, Try.func45, ok_s_DrawIsConvoy⟩ <|
    allCons ⟨_, _, _, _, Try.func46, ok_s_IsConvoy⟩ <|
    allCons ⟨_, _, _, _, Try.func47, ok_s_DrawConvoyRow⟩ <|
    allCons ⟨_, _, _, _, Try.func48, ok_i_ConvoyRow⟩ <|
    allCons ⟨_, _, _, _, Try.func49, ok_s_ConvoyRow⟩ <|
    allCons ⟨_, _, _, _, Try.func50, ok_l_rRow⟩ <|
    allCons ⟨_, _, _, _, Try.func51, ok_s_l6On⟩ <|
    allCons ⟨_, _, _, _, Try.func52, ok_s_l2Side⟩ <|
    allCons ⟨_, _, _, _, Try.func53, ok_l_toLoad⟩ <|
    allCons ⟨_, _, _, _, Try.func54, ok_i_isOn⟩ <|
    allCons ⟨_, _, _, _, Try.func55, ok_i_Beam_rests⟩ <|
    allCons ⟨_, _, _, _, Try.func56, ok_l_eqLoad⟩ <|
    allCons ⟨_, _, _, _, Try.func57, ok_s_l6Beam⟩ <|
    allCons ⟨_, _, _, _, Try.func58, ok_s_l6Convoy⟩ <|
    allCons ⟨_, _, _, _, Try.func59, ok_s_l6At⟩ <|
    allCons ⟨_, _, _, _, Try.func60, ok_i_convoyRow⟩ <|
    allCons ⟨_, _, _, _, Try.func61, ok_s_DrawRestsOn⟩ <|
    allCons ⟨_, _, _, _, Try.func62, ok_i_Beam_bends⟩ <|
    allCons ⟨_, _, _, _, Try.func63, ok_s_l6Bends⟩ <|
    allCons ⟨_, _, _, _, Try.func64, ok_i_Beam_supports⟩ <|
    allCons ⟨_, _, _, _, Try.func65, ok_i_Beam_span⟩ <|
    allCons ⟨_, _, _, _, Try.func66, ok_s_l6Shears⟩ <|
    allCons ⟨_, _, _, _, Try.func67, ok_s_l2Moment⟩ <|
    allCons ⟨_, _, _, _, Try.func68, ok_s_l1Most⟩ <|
    allCons ⟨_, _, _, _, Try.func69, ok_s_l1Cur_beam⟩ <|
    allCons ⟨_, _, _, _, Try.func70, ok_s_l1Cur_placeOn⟩ <|
    allCons ⟨_, _, _, _, Try.func71, ok_i_isOnBeam⟩ <|
    allCons ⟨_, _, _, _, Try.func72, ok_i_Beam_bendAt⟩ <|
    allCons ⟨_, _, _, _, Try.func73, ok_s_l1In⟩ <|
    allCons ⟨_, _, _, _, Try.func74, ok_s_l6Influence⟩ <|
    allCons ⟨_, _, _, _, Try.func75, ok_i_within⟩ <|
    allCons ⟨_, _, _, _, Try.func76, ok_s_l1Cur_onBeam⟩ <|
    allCons ⟨_, _, _, _, Try.func77, ok_i_IsRow⟩ <|
    allCons ⟨_, _, _, _, Try.func78, ok_i_weightOf⟩ <|
    allCons ⟨_, _, _, _, Try.func79, ok_s_l1Cur_convoy⟩ <|
    allCons ⟨_, _, _, _, Try.func80, ok_i_isWeight⟩ <|
    allCons ⟨_, _, _, _, Try.func81, ok_s_l1Cur_among⟩ <|
    allCons ⟨_, _, _, _, Try.func82, ok_i_standsWith⟩ <|
    allCons ⟨_, _, _, _, Try.func83, ok_s_l2With⟩ <|
    allCons ⟨_, _, _, _, Try.func84, ok_s_l2Row⟩ <|
    allCons ⟨_, _, _, _, Try.func85, ok_slices_ContainsFunc_Si_Load_i_Load⟩ <|
    allCons ⟨_, _, _, _, Try.func86, ok_i_isOn_1⟩ <|
    allCons ⟨_, _, _, _, Try.func87, ok_i_tipSide⟩ <|
    allCons ⟨_, _, _, _, Try.func88, ok_i_momentAbout⟩ <|
    allCons ⟨_, _, _, _, Try.func89, ok_s_l6Forces⟩ <|
    allCons ⟨_, _, _, _, Try.func90, ok_s_l1Cur_one⟩ <|
    allCons ⟨_, _, _, _, Try.func91, ok_s_l1Cur_pick⟩ <|
    allCons ⟨_, _, _, _, Try.func92, ok_s_l1Least⟩ <|
    allCons ⟨_, _, _, _, Try.func93, ok_s_l1Cur_row⟩ <|
    allCons ⟨_, _, _, _, Try.func94, ok_i_IsRow_1⟩ <|
    allCons ⟨_, _, _, _, Try.func95, ok_i_isPlace⟩ <|
    allCons ⟨_, _, _, _, Try.func96, ok_slices_Clone_Si_Load_i_Load⟩ <|
    allCons ⟨_, _, _, _, Try.func97, ok_s_l2In⟩ <|
    allCons ⟨_, _, _, _, Try.func98, ok_slices_IndexFunc_Si_Load_i_Load⟩ <|
    allCons ⟨_, _, _, _, Try.func99, ok_s_l1Cur_next⟩ <|
    allCons ⟨_, _, _, _, Try.func100, ok_s_l1Cur_someRow⟩ <|
    allNil)
end Go.Proofs.Ytaikmfldjkbmmaa.Slim
