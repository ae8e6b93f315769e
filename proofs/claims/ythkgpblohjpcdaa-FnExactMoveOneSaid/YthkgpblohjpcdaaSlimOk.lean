/- The slim functions are the program's. -/
import Derived.Test.YthkgpblohjpcdaaSlimFns
import Derived.Test.YthkgpblohjpcdaaChecked
namespace Go.Proofs.Ythkgpblohjpcdaa.Slim
open Go
theorem ok_gosem_cut_init : compileFn Try.prog [] 1 [] Try.f2 = some a_gosem_cut_init := by kernel_rfl
theorem ok_l_FnExactIsParty : compileFn Try.prog [0, 1, 2, 3, 4, 5, 6, 11, 21, 26] 1 [(10, [0, 1, 2, 3, 4])] Try.f3 = some a_l_FnExactIsParty := by kernel_rfl
theorem ok_l_FnExactRestingPlaces : compileFn Try.prog [0, 1, 2, 3, 4, 5, 6, 7, 8, 13, 34, 39] 1 [(10, [0, 1, 2, 3, 4])] Try.f4 = some a_l_FnExactRestingPlaces := by kernel_rfl
theorem ok_l_FnExactSafeMoves : compileFn Try.prog [0, 1, 2, 3, 4, 5, 6, 7, 8, 9, 10, 11, 12, 13, 18, 40, 45, 61, 69, 72, 87, 92, 95] 1 [(10, [0, 1, 2, 3, 4])] Try.f5 = some a_l_FnExactSafeMoves := by kernel_rfl
theorem ok_l_FnExactMoveOne : compileFn Try.prog [0, 1, 2, 3, 4, 5, 6, 7, 8, 9, 10, 11, 12, 13, 14, 15, 20, 46, 51, 67, 75, 78, 95, 100, 103] 1 [(5, [0, 2, 1, 3, 4, 5, 6, 7, 8, 9, 10]), (7, [0, 1, 2, 3, 4, 5, 6, 7, 8, 9]), (10, [0, 1, 2, 3, 4]), (24, [0, 2, 1, 3, 4, 5, 6, 7, 8, 9, 10])] Try.f6 = some a_l_FnExactMoveOne := by kernel_rfl
theorem ok_l_FnExactCountPlaces : compileFn Try.prog [0, 1, 2, 3, 4, 5, 6, 7, 8, 13, 34, 39] 1 [(10, [0, 1, 2, 3, 4])] Try.f7 = some a_l_FnExactCountPlaces := by kernel_rfl
theorem ok_l_FnExactIsWalkOn : compileFn Try.prog [0, 1, 2, 4, 5, 6, 7, 8, 9, 10, 11, 16, 21, 47, 52, 57] 1 [(14, [0, 1, 2, 3, 4])] Try.f8 = some a_l_FnExactIsWalkOn := by kernel_rfl
theorem ok_l_FnExactFarthestOut : compileFn Try.prog [0, 1, 2, 4, 5, 6, 7, 8, 9, 10, 11, 12, 17, 47, 52] 1 [(10, [0, 1, 2, 3, 4])] Try.f9 = some a_l_FnExactFarthestOut := by kernel_rfl
theorem ok_l_FnExactMeetSteps : compileFn Try.prog [0, 1, 2, 3, 4, 5, 6, 7, 8, 9, 10, 15, 43, 48] 1 [(10, [0, 1, 2, 3, 4])] Try.f10 = some a_l_FnExactMeetSteps := by kernel_rfl
theorem ok_l_FnExactWalkTo : compileFn Try.prog [0, 1, 2, 4, 5, 6, 7, 8, 9, 10, 11, 12, 13, 14, 15, 16, 21, 26, 53, 58, 63, 82, 90, 93, 110, 115, 118] 1 [(14, [0, 1, 2, 3, 4])] Try.f11 = some a_l_FnExactWalkTo := by kernel_rfl
theorem ok_l_FnExactStepsTo : compileFn Try.prog [0, 1, 2, 4, 5, 6, 7, 8, 9, 10, 11, 14, 19, 45, 50, 55] 1 [(13, [0, 1, 2, 3, 4])] Try.f12 = some a_l_FnExactStepsTo := by kernel_rfl
theorem ok_l_FnExactFirstWalkTo : compileFn Try.prog [0, 1, 2, 4, 5, 6, 7, 8, 9, 10, 11, 12, 13, 14, 15, 16, 19, 24, 51, 56, 61, 80, 88, 91, 108, 113, 116] 1 [(13, [0, 1, 2, 3, 4])] Try.f13 = some a_l_FnExactFirstWalkTo := by kernel_rfl
theorem ok_l_FnPlanks : compileFn Try.prog [0, 2, 3, 4, 5, 6, 7, 8, 9, 10, 11, 12, 13, 14, 15, 16, 17, 18, 19, 20, 21, 22, 23, 24, 25, 26, 27, 28, 29, 30, 32, 58, 81, 113, 145, 146, 178, 179, 185, 204] 1 [] Try.f14 = some a_l_FnPlanks := by kernel_rfl
theorem ok_l_FnParties : compileFn Try.prog [0, 2, 3, 4, 5, 6, 7, 8, 9, 10, 11, 12, 13, 14, 15, 16, 17, 18, 19, 20, 21, 22, 23, 24, 25, 26, 27, 28, 29, 30, 31, 32, 33, 34, 35, 36, 37, 38, 39, 40, 41, 42, 43, 44, 46, 72, 99, 125, 150, 176, 204, 205, 209, 223, 224, 247, 253, 257, 270, 299, 301, 323, 328, 341] 1 [(35, [0, 1, 2, 3, 4, 5, 6, 7, 8, 9]), (39, [0, 1, 2, 3, 4, 5, 6, 7, 8, 9, 10, 11, 12, 13, 14, 15, 16, 17]), (47, [0, 1, 2, 3, 4, 5, 6, 7, 8, 9, 10]), (48, [0, 1, 2, 3, 4, 5, 6, 7, 8, 9, 10, 11, 12, 13]), (49, [0, 1, 2, 3, 4, 5, 6, 7, 8, 9, 10, 11, 12, 13]), (61, [0, 1, 2, 3, 4, 5, 6, 7, 8, 9, 10])] Try.f15 = some a_l_FnParties := by kernel_rfl
theorem ok_l_szParty : compileFn Try.prog [0, 1, 2, 4, 10] 1 [] Try.f16 = some a_l_szParty := by kernel_rfl
theorem ok_s_IsParty : compileFn Try.prog [0, 1, 2] 1 [] Try.f17 = some a_s_IsParty := by kernel_rfl
theorem ok_l_toParty : compileFn Try.prog [0, 1, 2, 3] 2 [] Try.f18 = some a_l_toParty := by kernel_rfl
theorem ok_i_IsParty : compileFn Try.prog [0, 1, 2] 1 [] Try.f19 = some a_i_IsParty := by kernel_rfl
theorem ok_l_eqParty : compileFn Try.prog [0, 1, 2, 3, 4, 10, 16, 21] 1 [] Try.f20 = some a_l_eqParty := by kernel_rfl
theorem ok_s_RestingPlaces : compileFn Try.prog [0, 1, 2, 3, 4, 5, 8, 12, 18] 1 [] Try.f21 = some a_s_RestingPlaces := by kernel_rfl
theorem ok_i_RestingPlaces : compileFn Try.prog [0, 1, 2, 3, 4, 5, 6, 7, 8, 11, 14, 15, 16, 24, 25, 26, 31, 32, 33, 52] 1 [] Try.f22 = some a_i_RestingPlaces := by kernel_rfl
theorem ok_s_SafeMoves : compileFn Try.prog [0, 1, 2, 3, 6] 2 [] Try.f23 = some a_s_SafeMoves := by kernel_rfl
theorem ok_i_SafeMoves : compileFn Try.prog [0, 1, 2, 3, 6] 2 [(3, [0, 1, 2, 3, 4, 5])] Try.f24 = some a_i_SafeMoves := by kernel_rfl
theorem ok_l_eqIntA2S : compileFn Try.prog [0, 1, 4, 5, 10, 14, 26] 1 [(6, [0, 1, 2, 3, 4, 5, 6, 7, 8, 9])] Try.f25 = some a_l_eqIntA2S := by kernel_rfl
theorem ok_l_markParty : compileFn Try.prog [0, 1, 2, 4] 1 [] Try.f26 = some a_l_markParty := by kernel_rfl
theorem ok_l_markIntA2S : compileFn Try.prog [0, 1, 4, 5, 6, 10, 14] 1 [] Try.f27 = some a_l_markIntA2S := by kernel_rfl
theorem ok_l_heldIntA2S : compileFn Try.prog [0, 1, 4, 5, 6, 10, 14, 24] 1 [] Try.f28 = some a_l_heldIntA2S := by kernel_rfl
theorem ok_s_MoveOne : compileFn Try.prog [0, 1, 2, 3, 4, 5, 14] 2 [] Try.f29 = some a_s_MoveOne := by kernel_rfl
theorem ok_l_toIntA2 : compileFn Try.prog [0, 1, 2, 3, 4, 6] 1 [] Try.f30 = some a_l_toIntA2 := by kernel_rfl
theorem ok_i_MoveOne : compileFn Try.prog [0, 1, 2, 3, 4, 5] 2 [] Try.f31 = some a_i_MoveOne := by kernel_rfl
theorem ok_l_heldParty : compileFn Try.prog [0, 1, 2, 4, 10] 1 [] Try.f32 = some a_l_heldParty := by kernel_rfl
theorem ok_s_CountPlaces : compileFn Try.prog [0, 1, 2, 3, 4, 5, 6, 9, 15, 22] 1 [] Try.f33 = some a_s_CountPlaces := by kernel_rfl
theorem ok_l_szIntA2S : compileFn Try.prog [0, 1, 4, 10] 1 [] Try.f35 = some a_l_szIntA2S := by kernel_rfl
theorem ok_s_IsWalkOn : compileFn Try.prog [0, 1, 2, 4, 5, 7, 10] 1 [] Try.f36 = some a_s_IsWalkOn := by kernel_rfl
theorem ok_l_toIntA2S : compileFn Try.prog [0, 2, 3, 4, 11] 2 [] Try.f37 = some a_l_toIntA2S := by kernel_rfl
theorem ok_i_IsWalkOn : compileFn Try.prog [0, 1, 2, 4, 5, 7, 10, 13] 1 [] Try.f38 = some a_i_IsWalkOn := by kernel_rfl
theorem ok_s_FarthestOut : compileFn Try.prog [0, 1, 2, 4, 5, 6, 7, 8, 9, 10, 22, 31, 38] 1 [(3, [0, 1, 2, 3, 4, 5, 6, 7])] Try.f39 = some a_s_FarthestOut := by kernel_rfl
theorem ok_s_MeetSteps : compileFn Try.prog [0, 1, 2, 3, 4, 5, 6, 7, 8, 9, 10, 11, 14, 21, 30, 54] 1 [] Try.f41 = some a_s_MeetSteps := by kernel_rfl
theorem ok_s_WalkTo : compileFn Try.prog [0, 1, 2, 4, 5, 8] 2 [] Try.f43 = some a_s_WalkTo := by kernel_rfl
theorem ok_i_WalkTo : compileFn Try.prog [0, 1, 2, 4, 5, 6, 7, 15, 24] 2 [] Try.f44 = some a_i_WalkTo := by kernel_rfl
theorem ok_s_StepsTo : compileFn Try.prog [0, 1, 2, 4, 5, 6, 7, 8, 11, 19] 1 [(6, [0, 2, 1, 3, 4, 5, 6])] Try.f45 = some a_s_StepsTo := by kernel_rfl
theorem ok_l_toIntS : compileFn Try.prog [0, 2, 3, 4, 11] 2 [] Try.f46 = some a_l_toIntS := by kernel_rfl
theorem ok_l_eqIntS : compileFn Try.prog [0, 1, 4, 5, 10, 14, 25] 1 [(6, [0, 1, 2, 3, 4, 5, 6, 7, 8])] Try.f48 = some a_l_eqIntS := by kernel_rfl
theorem ok_s_FirstWalkTo : compileFn Try.prog [0, 1, 2, 4, 5, 6, 7, 8, 9, 11, 12, 13, 14, 27, 41, 60] 2 [(6, [0, 2, 1, 3, 4, 5]), (9, [0, 1, 2, 3, 4, 5, 10, 11, 6, 7, 8, 9, 12, 13, 14, 15, 16]), (12, [0, 1, 2, 3, 4, 5, 6])] Try.f49 = some a_s_FirstWalkTo := by kernel_rfl
theorem ok_l_markIntS : compileFn Try.prog [0, 1, 4, 5, 9] 1 [] Try.f51 = some a_l_markIntS := by kernel_rfl
theorem ok_l_rBig : compileFn Try.prog [0, 2] 1 [] Try.f52 = some a_l_rBig := by kernel_rfl
theorem ok_s_DrawCountPlaces : compileFn Try.prog [0, 2] 2 [] Try.f53 = some a_s_DrawCountPlaces := by kernel_rfl
theorem ok_s_DrawFarthestOut : compileFn Try.prog [0, 2, 3, 4, 5] 2 [(3, [0, 1, 2, 3, 4, 5, 7, 6, 8, 9, 10, 11, 12])] Try.f54 = some a_s_DrawFarthestOut := by kernel_rfl
theorem ok_s_DrawFirstWalkTo : compileFn Try.prog [0, 2, 3] 2 [] Try.f55 = some a_s_DrawFirstWalkTo := by kernel_rfl
theorem ok_l_rCells : compileFn Try.prog [0, 1, 4, 5, 10, 14, 25] 1 [(6, [0, 1, 2, 3, 4, 5, 6, 7, 8])] Try.f56 = some a_l_rCells := by kernel_rfl
theorem ok_s_DrawMoveOne : compileFn Try.prog [0, 2, 3, 4, 5] 2 [(3, [0, 1, 2, 3, 4, 5])] Try.f57 = some a_s_DrawMoveOne := by kernel_rfl
theorem ok_l_rParty : compileFn Try.prog [0, 1, 2, 3, 4] 1 [] Try.f58 = some a_l_rParty := by kernel_rfl
theorem ok_s_DrawWalkTo : compileFn Try.prog [0, 2, 3] 2 [] Try.f59 = some a_s_DrawWalkTo := by kernel_rfl
theorem ok_l_szLoadS : compileFn Try.prog [0, 1, 4, 10] 1 [] Try.f60 = some a_l_szLoadS := by kernel_rfl
theorem ok_s_l11Party : compileFn Try.prog [0, 1, 2] 1 [] Try.f61 = some a_s_l11Party := by kernel_rfl
theorem ok_l_toBeam : compileFn Try.prog [0, 1, 2, 3] 1 [] Try.f62 = some a_l_toBeam := by kernel_rfl
theorem ok_l_toLoadS : compileFn Try.prog [0, 2, 3, 4, 11] 2 [] Try.f63 = some a_l_toLoadS := by kernel_rfl
theorem ok_i_isOn : compileFn Try.prog [0, 1, 2, 4] 1 [] Try.f64 = some a_i_isOn := by kernel_rfl
theorem ok_i_within : compileFn Try.prog [0, 1, 2, 6] 1 [] Try.f65 = some a_i_within := by kernel_rfl
theorem ok_i_Beam_rests : compileFn Try.prog [0, 1, 2, 4] 1 [] Try.f66 = some a_i_Beam_rests := by kernel_rfl
theorem ok_l_eqBeam : compileFn Try.prog [0, 1, 2, 3, 4, 9, 14, 19] 1 [] Try.f67 = some a_l_eqBeam := by kernel_rfl
theorem ok_l_eqLoadS : compileFn Try.prog [0, 1, 4, 5, 10, 14, 26] 1 [(6, [0, 1, 2, 3, 4, 5, 6, 7, 8, 9])] Try.f68 = some a_l_eqLoadS := by kernel_rfl
theorem ok_s_l11Size : compileFn Try.prog [0, 1, 2, 3, 4, 9] 1 [] Try.f69 = some a_s_l11Size := by kernel_rfl
theorem ok_s_l11Rests : compileFn Try.prog [0, 1, 2] 1 [] Try.f70 = some a_s_l11Rests := by kernel_rfl
theorem ok_s_l11At : compileFn Try.prog [0, 1, 2, 4, 5, 6, 21] 2 [(1, [0, 1, 3, 4, 6, 7, 2, 5, 8, 9, 10]), (5, [0, 1, 2, 3, 4, 5, 6, 7, 8, 9, 10, 11])] Try.f71 = some a_s_l11At := by kernel_rfl
theorem ok_i_Party_rests : compileFn Try.prog [0, 1, 2, 3, 4] 1 [(1, [0, 1, 2, 3, 4, 5, 6, 7])] Try.f72 = some a_i_Party_rests := by kernel_rfl
theorem ok_s_l11Moves : compileFn Try.prog [0, 1, 2, 3, 4, 5, 6, 12, 16, 34] 2 [(8, [0, 1, 2, 3, 4, 5, 6, 7, 8, 9, 10, 11, 12, 13, 14])] Try.f73 = some a_s_l11Moves := by kernel_rfl
theorem ok_i_Party_moves : compileFn Try.prog [0, 1, 2, 3, 4, 5, 6, 8, 9, 13, 14, 15, 29, 30, 31, 46] 2 [(5, [0, 1, 2, 3, 4, 5, 6, 7, 8, 9, 10, 11, 12, 13])] Try.f74 = some a_i_Party_moves := by kernel_rfl
theorem ok_i_Party_spots : compileFn Try.prog [0, 1, 2, 3, 4, 5, 8, 9, 10, 11] 1 [] Try.f75 = some a_i_Party_spots := by kernel_rfl
theorem ok_l_eqIntA2 : compileFn Try.prog [0, 1, 2, 3, 4, 5, 7, 16] 1 [(4, [0, 1, 2, 3, 4, 5, 6])] Try.f76 = some a_l_eqIntA2 := by kernel_rfl
theorem ok_l_markLoadS : compileFn Try.prog [0, 1, 4, 5, 9] 1 [] Try.f77 = some a_l_markLoadS := by kernel_rfl
theorem ok_s_l11Safe : compileFn Try.prog [0, 1, 2, 3, 4, 5, 22] 1 [(3, [0, 1, 2, 3, 4, 5, 6, 7, 8, 9, 10])] Try.f78 = some a_s_l11Safe := by kernel_rfl
theorem ok_s_l11Moved : compileFn Try.prog [0, 1, 2, 3, 4, 5] 2 [(1, [0, 1, 3, 4, 6, 7, 2, 5, 8, 9, 10])] Try.f79 = some a_s_l11Moved := by kernel_rfl
theorem ok_l_heldLoadS : compileFn Try.prog [0, 1, 4, 5, 9, 18, 27] 1 [] Try.f80 = some a_l_heldLoadS := by kernel_rfl
theorem ok_s_l11Spread : compileFn Try.prog [0, 1, 2, 3, 4, 5, 6, 7, 8, 9, 10, 17, 33, 47, 61] 2 [(11, [0, 1, 2, 3, 4, 5, 6, 7]), (16, [0, 1, 2, 3, 4, 5, 6, 7])] Try.f81 = some a_s_l11Spread := by kernel_rfl
theorem ok_s_l11Walk : compileFn Try.prog [0, 1, 2, 4, 5, 6, 7, 25, 34, 44] 2 [(1, [0, 1, 3, 4, 6, 7, 2, 5, 8, 9, 10]), (5, [0, 1, 2, 3, 4, 5, 6]), (7, [0, 1, 2, 3, 4, 5, 6])] Try.f83 = some a_s_l11Walk := by kernel_rfl
theorem ok_i_Party_walk : compileFn Try.prog [0, 1, 2, 4, 5, 6, 8, 11, 12, 13, 14, 22] 1 [(5, [0, 1, 3, 2, 4, 5])] Try.f84 = some a_i_Party_walk := by kernel_rfl
theorem ok_s_l1In : compileFn Try.prog [0, 1, 2, 6] 1 [] Try.f85 = some a_s_l1In := by kernel_rfl
theorem ok_s_l1Least : compileFn Try.prog [0, 1, 4, 7] 1 [] Try.f86 = some a_s_l1Least := by kernel_rfl
theorem ok_s_l1Most : compileFn Try.prog [0, 1, 4, 7] 1 [] Try.f87 = some a_s_l1Most := by kernel_rfl
theorem ok_s_l11Key : compileFn Try.prog [0, 1, 2, 3, 4, 9] 1 [(5, [0, 1, 2, 3, 4, 5, 6, 7, 8, 9, 10, 11, 12, 13])] Try.f88 = some a_s_l11Key := by kernel_rfl
theorem ok_i_Party_at : compileFn Try.prog [0, 1, 2, 3, 4, 5, 6, 17, 18, 19] 2 [(1, [0, 1, 2, 3, 5, 6, 4, 7, 8, 9]), (5, [0, 1, 2, 3, 4, 5, 6, 7, 8])] Try.f89 = some a_i_Party_at := by kernel_rfl
theorem ok_s_l11Placed : compileFn Try.prog [0, 1, 2, 4, 5, 6, 7, 13, 20, 31] 2 [(7, [0, 1, 2, 3, 4, 5, 6, 7, 8]), (9, [0, 1, 2, 3, 4, 5, 6, 7, 8, 9])] Try.f90 = some a_s_l11Placed := by kernel_rfl
theorem ok_i_Party_spotsOf : compileFn Try.prog [0, 1, 2, 4, 5, 6, 7, 8, 19, 22, 23, 24, 25, 34] 1 [] Try.f91 = some a_i_Party_spotsOf := by kernel_rfl
theorem ok_s_DrawIsParty : compileFn Try.prog [0, 2, 3] 2 [] Try.f92 = some a_s_DrawIsParty := by kernel_rfl
theorem ok_s_l1Cur_pick : compileFn Try.prog [0, 1, 4, 5, 7, 11] 1 [] Try.f94 = some a_s_l1Cur_pick := by kernel_rfl
theorem ok_s_DrawStepsTo : compileFn Try.prog [0, 2, 3, 4, 5] 2 [(3, [0, 1, 2, 3, 4, 5])] Try.f95 = some a_s_DrawStepsTo := by kernel_rfl
theorem ok_s_l1Cur_moveOf : compileFn Try.prog [0, 1, 3, 4, 5, 12, 17] 1 [] Try.f96 = some a_s_l1Cur_moveOf := by kernel_rfl
theorem ok_l_rRow : compileFn Try.prog [0, 1, 4, 5, 10, 14, 25] 1 [(6, [0, 1, 2, 3, 4, 5, 6, 7, 8])] Try.f97 = some a_l_rRow := by kernel_rfl
theorem ok_s_DrawIsWalkOn : compileFn Try.prog [0, 2, 3, 4, 5, 6, 7, 8, 9, 21, 37] 2 [] Try.f98 = some a_s_DrawIsWalkOn := by kernel_rfl
theorem ok_s_l6Beam : compileFn Try.prog [0, 1, 2] 1 [] Try.f99 = some a_s_l6Beam := by kernel_rfl
theorem ok_s_l6On : compileFn Try.prog [0, 1, 2, 4, 5, 13, 17, 27] 1 [(6, [0, 1, 2, 3, 4, 5, 6, 7])] Try.f100 = some a_s_l6On := by kernel_rfl
theorem ok_l_toLoad : compileFn Try.prog [0, 1, 2, 3] 1 [] Try.f101 = some a_l_toLoad := by kernel_rfl
theorem ok_i_IsBeam : compileFn Try.prog [0, 1, 2] 1 [] Try.f102 = some a_i_IsBeam := by kernel_rfl
theorem ok_i_IsRow : compileFn Try.prog [0, 2, 5] 1 [] Try.f103 = some a_i_IsRow := by kernel_rfl
theorem ok_slices_ContainsFunc_Si_Load_i_Load : compileFn Try.prog [0, 1, 4] 1 [] Try.f104 = some a_slices_ContainsFunc_Si_Load_i_Load := by kernel_rfl
theorem ok_i_isOn_1 : compileFn Try.prog [0, 1, 2, 3] 1 [] Try.f105 = some a_i_isOn_1 := by kernel_rfl
theorem ok_i_tipSide : compileFn Try.prog [0, 1, 2, 6, 7, 12] 1 [] Try.f106 = some a_i_tipSide := by kernel_rfl
theorem ok_l_eqLoad : compileFn Try.prog [0, 1, 2, 3, 4, 9, 14] 1 [] Try.f107 = some a_l_eqLoad := by kernel_rfl
theorem ok_s_l2Side : compileFn Try.prog [0, 1, 2, 6, 10, 14] 1 [] Try.f108 = some a_s_l2Side := by kernel_rfl
theorem ok_slices_Contains_S_2int__2int : compileFn Try.prog [0, 1, 3, 4] 1 [] Try.f109 = some a_slices_Contains_S_2int__2int := by kernel_rfl
theorem ok_slices_Clone_Si_Load_i_Load : compileFn Try.prog [0, 2, 4] 2 [] Try.f110 = some a_slices_Clone_Si_Load_i_Load := by kernel_rfl
theorem ok_s_l1Cur_plank : compileFn Try.prog [0, 2, 3, 4, 13, 31] 1 [(5, [0, 1, 2, 3, 4, 5, 6, 7, 8, 9, 10, 11, 12])] Try.f111 = some a_s_l1Cur_plank := by kernel_rfl
theorem ok_s_l1Cur_among : compileFn Try.prog [0, 1, 4] 1 [] Try.f112 = some a_s_l1Cur_among := by kernel_rfl
theorem ok_s_l1Cur_next : compileFn Try.prog [0, 2, 3, 13, 53] 1 [(2, [0, 1, 2, 3, 4, 5, 6, 7, 8, 9]), (3, [0, 1, 2, 3, 4, 5, 6, 7, 8, 9, 10, 11]), (6, [0, 1, 2, 3, 4, 5, 6, 7, 8, 9])] Try.f113 = some a_s_l1Cur_next := by kernel_rfl
theorem ok_s_l1Cur_targets : compileFn Try.prog [0, 1, 3, 4, 5, 6, 7, 8, 9, 10, 20, 39, 42, 49, 63, 76] 2 [(13, [0, 1, 2, 3, 4, 5, 6, 7, 8, 9])] Try.f114 = some a_s_l1Cur_targets := by kernel_rfl
theorem ok_s_l1Cur_one : compileFn Try.prog [0, 1, 4] 1 [] Try.f115 = some a_s_l1Cur_one := by kernel_rfl
theorem ok_s_l2Row : compileFn Try.prog [0, 2, 3, 11, 29] 1 [] Try.f116 = some a_s_l2Row := by kernel_rfl
theorem ok_i_IsRow_1 : compileFn Try.prog [0, 1, 2] 1 [] Try.f117 = some a_i_IsRow_1 := by kernel_rfl
theorem ok_i_isPlace : compileFn Try.prog [0, 2] 1 [] Try.f118 = some a_i_isPlace := by kernel_rfl
theorem ok_i_isWeight : compileFn Try.prog [0, 2] 1 [] Try.f119 = some a_i_isWeight := by kernel_rfl
theorem ok_slices_IndexFunc_Si_Load_i_Load : compileFn Try.prog [0, 1, 4, 5, 7, 8, 9, 16] 1 [] Try.f120 = some a_slices_IndexFunc_Si_Load_i_Load := by kernel_rfl
theorem ok_i_momentAbout : compileFn Try.prog [0, 1, 4, 5, 7, 8, 9, 10, 11] 1 [] Try.f121 = some a_i_momentAbout := by kernel_rfl
theorem ok_s_l2Moment : compileFn Try.prog [0, 1, 4, 5, 6, 10] 1 [(5, [0, 1, 2, 3, 4, 5, 6, 7, 8, 9, 10, 11, 12, 13, 14, 15])] Try.f122 = some a_s_l2Moment := by kernel_rfl
theorem ok_slices_Index_S_2int__2int : compileFn Try.prog [0, 1, 3, 4, 5, 7, 8, 9, 16] 1 [(4, [0, 1, 2, 3, 4, 5])] Try.f123 = some a_slices_Index_S_2int__2int := by kernel_rfl
theorem ok_s_l1Cur_beam : compileFn Try.prog [0, 2, 3, 4, 12, 29, 30, 36, 47] 1 [(5, [0, 1, 2, 3, 4, 5, 6, 7, 8, 9, 10, 11])] Try.f124 = some a_s_l1Cur_beam := by kernel_rfl
theorem ok_s_l2In : compileFn Try.prog [0, 2] 1 [] Try.f125 = some a_s_l2In := by kernel_rfl
theorem tabOk : TableOk Try.prog T := tableOk_of (by
  unfold tab
  exact allCons ⟨_, _, _, _, Try.func2, ok_gosem_cut_init⟩ <|
    allCons ⟨_, _, _, _, Try.func3, ok_l_FnExactIsParty⟩ <|
    allCons ⟨_, _, _, _, Try.func4, ok_l_FnExactRestingPlaces⟩ <|
    allCons ⟨_, _, _, _, Try.func5, ok_l_FnExactSafeMoves⟩ <|
    allCons ⟨_, _, _, _, Try.func6, ok_l_FnExactMoveOne⟩ <|
    allCons ⟨_, _, _, _, Try.func7, ok_l_FnExactCountPlaces⟩ <|
    allCons ⟨_, _, _, _, Try.func8, ok_l_FnExactIsWalkOn⟩ <|
    allCons ⟨_, _, _, _, Try.func9, ok_l_FnExactFarthestOut⟩ <|
    allCons ⟨_, _, _, _, Try.func10, ok_l_FnExactMeetSteps⟩ <|
    allCons ⟨_, _, _, _, Try.func11, ok_l_FnExactWalkTo⟩ <|
    allCons ⟨_, _, _, _, Try.func12, ok_l_FnExactStepsTo⟩ <|
    allCons ⟨_, _, _, _, Try.func13, ok_l_FnExactFirstWalkTo⟩ <|
    allCons ⟨_, _, _, _, Try.func14, ok_l_FnPlanks⟩ <|
    allCons ⟨_, _, _, _, Try.func15, ok_l_FnParties⟩ <|
    allCons ⟨_, _, _, _, Try.func16, ok_l_szParty⟩ <|
    allCons ⟨_, _, _, _, Try.func17, ok_s_IsParty⟩ <|
    allCons ⟨_, _, _, _, Try.func18, ok_l_toParty⟩ <|
    allCons ⟨_, _, _, _, Try.func19, ok_i_IsParty⟩ <|
    allCons ⟨_, _, _, _, Try.func20, ok_l_eqParty⟩ <|
    allCons ⟨_, _, _, _, Try.func21, ok_s_RestingPlaces⟩ <|
    allCons ⟨_, _, _, _, Try.func22, ok_i_RestingPlaces⟩ <|
    allCons ⟨_, _, _, _, Try.func23, ok_s_SafeMoves⟩ <|
    allCons ⟨_, _, _, _, Try.func24, ok_i_SafeMoves⟩ <|
    allCons ⟨_, _, _, _, Try.func25, ok_l_eqIntA2S⟩ <|
    allCons ⟨_, _, _, _, Try.func26, ok_l_markParty⟩ <|
    allCons ⟨_, _, _, _, Try.func27, ok_l_markIntA2S⟩ <|
    allCons ⟨_, _, _, _, Try.func28, ok_l_heldIntA2S⟩ <|
    allCons ⟨_, _, _, _, Try.func29, ok_s_MoveOne⟩ <|
    allCons ⟨_, _, _, _, Try.func30, ok_l_toIntA2⟩ <|
    allCons ⟨_, _, _, _, Try.func31, ok_i_MoveOne⟩ <|
    allCons ⟨_, _, _, _, Try.func32, ok_l_heldParty⟩ <|
    allCons ⟨_, _, _, _, Try.func33, ok_s_CountPlaces⟩ <|
    allCons ⟨_, _, _, _, Try.func35, ok_l_szIntA2S⟩ <|
    allCons ⟨_, _, _, _, Try.func36, ok_s_IsWalkOn⟩ <|
    allCons ⟨_, _, _, _, Try.func37, ok_l_toIntA2S⟩ <|
    allCons ⟨_, _, _, _, Try.func38, ok_i_IsWalkOn⟩ <|
    allCons ⟨_, _, _, _, Try.func39, ok_s_FarthestOut⟩ <|
    allCons ⟨_, _, _, _, Try.func41, ok_s_MeetSteps⟩ <|
    allCons ⟨_, _, _, _, Try.func43, ok_s_WalkTo⟩ <|
    allCons ⟨_, _, _, _, Try.func44, ok_i_WalkTo⟩ <|
    allCons ⟨_, _, _, _, Try.func45, ok_s_StepsTo⟩ <|
    allCons ⟨_, _, _, _, Try.func46, ok_l_toIntS⟩ <|
    allCons ⟨_, _, _, _, Try.func48, ok_l_eqIntS⟩ <|
    allCons ⟨_, _, _, _, Try.func49, ok_s_FirstWalkTo⟩ <|
    allCons ⟨_, _, _, _, Try.func51, ok_l_markIntS⟩ <|
    allCons ⟨_, _, _, _, Try.func52, ok_l_rBig⟩ <|
    allCons ⟨_, _, _, _, Try.func53, ok_s_DrawCountPlaces⟩ <|
    allCons ⟨_, _, _, _, Try.func54, ok_s_DrawFarthestOut⟩ <|
    allCons ⟨_, _, _, _, Try.func55, ok_s_DrawFirstWalkTo⟩ <|
    allCons ⟨_, _, _, _, Try.func56, ok_l_rCells⟩ <|
    allCons ⟨_, _, _, _, Try.func57, ok_s_DrawMoveOne⟩ <|
    allCons ⟨_, _, _, _, Try.func58, ok_l_rParty⟩ <|
    allCons ⟨_, _, _, _, Try.func59, ok_s_DrawWalkTo⟩ <|
    allCons ⟨_, _, _, _, Try.func60, ok_l_szLoadS⟩ <|
    allCons ⟨_, _, _, _, Try.func61, ok_s_l11Party⟩ <|
    allCons ⟨_, _, _, _, Try.func62, ok_l_toBeam⟩ <|
    allCons ⟨_, _, _, _, Try.func63, ok_l_toLoadS⟩ <|
    allCons ⟨_, _, _, _, Try.func64, ok_i_isOn⟩ <|
    allCons ⟨_, _, _, _, Try.func65, ok_i_within⟩ <|
    allCons ⟨_, _, _, _, Try.func66, ok_i_Beam_rests⟩ <|
    allCons ⟨_, _, _, _, Try.func67, ok_l_eqBeam⟩ <|
    allCons ⟨_, _, _, _, Try.func68, ok_l_eqLoadS⟩ <|
    allCons ⟨_, _, _, _, Try.func69, ok_s_l11Size⟩ <|
    allCons ⟨_, _, _, _, Try.func70, ok_s_l11Rests⟩ <|
    allCons ⟨_, _, _, _, Try.func71, ok_s_l11At⟩ <|
    allCons ⟨_, _, _, _, Try.func72, ok_i_Party_rests⟩ <|
    allCons ⟨_, _, _, _, Try.func73, ok_s_l11Moves⟩ <|
    allCons ⟨_, _, _, _, Try.func74, ok_i_Party_moves⟩ <|
    allCons ⟨_, _, _, _, Try.func75, ok_i_Party_spots⟩ <|
    allCons ⟨_, _, _, _, Try.func76, ok_l_eqIntA2⟩ <|
    allCons ⟨_, _, _, _, Try.func77, ok_l_markLoadS⟩ <|
    allCons ⟨_, _, _, _, Try.func78, ok_s_l11Safe⟩ <|
    allCons ⟨_, _, _, _, Try.func79, ok_s_l11Moved⟩ <|
    allCons ⟨_, _, _, _, Try.func80, ok_l_heldLoadS⟩ <|
    allCons ⟨_, _, _, _, Try.func81, ok_s_l11Spread⟩ <|
    allCons ⟨_, _, _, _, Try.func83, ok_s_l11Walk⟩ <|
    allCons ⟨_, _, _, _, Try.func84, ok_i_Party_walk⟩ <|
    allCons ⟨_, _, _, _, Try.func85, ok_s_l1In⟩ <|
    allCons ⟨_, _, _, _, Try.func86, ok_s_l1Least⟩ <|
    allCons ⟨_, _, _, _, Try.func87, ok_s_l1Most⟩ <|
    allCons ⟨_, _, _, _, Try.func88, ok_s_l11Key⟩ <|
    allCons ⟨_, _, _, _, Try.func89, ok_i_Party_at⟩ <|
    allCons ⟨_, _, _, _, Try.func90, ok_s_l11Placed⟩ <|
    allCons ⟨_, _, _, _, Try.func91, ok_i_Party_spotsOf⟩ <|
    allCons ⟨_, _, _, _, Try.func92, ok_s_DrawIsParty⟩ <|
    allCons ⟨_, _, _, _, Try.func94, ok_s_l1Cur_pick⟩ <|
    allCons ⟨_, _, _, _, Try.func95, ok_s_DrawStepsTo⟩ <|
    allCons ⟨_, _, _, _, Try.func96, ok_s_l1Cur_moveOf⟩ <|
    allCons ⟨_, _, _, _, Try.func97, ok_l_rRow⟩ <|
    allCons ⟨_, _, _, _, Try.func98, ok_s_DrawIsWalkOn⟩ <|
    allCons ⟨_, _, _, _, Try.func99, ok_s_l6Beam⟩ <|
    allCons ⟨_, _, _, _, Try.func100, ok_s_l6On⟩ <|
    allCons ⟨_, _, _, _, Try.func101, ok_l_toLoad⟩ <|
    allCons ⟨_, _, _, _, Try.func102, ok_i_IsBeam⟩ <|
    allCons ⟨_, _, _, _, Try.func103, ok_i_IsRow⟩ <|
    allCons ⟨_, _, _, _, Try.func104, ok_slices_ContainsFunc_Si_Load_i_Load⟩ <|
    allCons ⟨_, _, _, _, Try.func105, ok_i_isOn_1⟩ <|
    allCons ⟨_, _, _, _, Try.func106, ok_i_tipSide⟩ <|
    allCons ⟨_, _, _, _, Try.func107, ok_l_eqLoad⟩ <|
    allCons ⟨_, _, _, _, Try.func108, ok_s_l2Side⟩ <|
    allCons ⟨_, _, _, _, Try.func109, ok_slices_Contains_S_2int__2int⟩ <|
    allCons ⟨_, _, _, _, Try.func110, ok_slices_Clone_Si_Load_i_Load⟩ <|
    allCons ⟨_, _, _, _, Try.func111, ok_s_l1Cur_plank⟩ <|
    allCons ⟨_, _, _, _, Try.func112, ok_s_l1Cur_among⟩ <|
    allCons ⟨_, _, _, _, Try.func113, ok_s_l1Cur_next⟩ <|
    allCons ⟨_, _, _, _, Try.func114, ok_s_l1Cur_targets⟩ <|
    allCons ⟨_, _, _, _, Try.func115, ok_s_l1Cur_one⟩ <|
    allCons ⟨_, _, _, _, Try.func116, ok_s_l2Row⟩ <|
    allCons ⟨_, _, _, _, Try.func117, ok_i_IsRow_1⟩ <|
    allCons ⟨_, _, _, _, Try.func118, ok_i_isPlace⟩ <|
    allCons ⟨_, _, _, _, Try.func119, ok_i_isWeight⟩ <|
    allCons ⟨_, _, _, _, Try.func120, ok_slices_IndexFunc_Si_Load_i_Load⟩ <|
    allCons ⟨_, _, _, _, Try.func121, ok_i_momentAbout⟩ <|
    allCons ⟨_, _, _, _, Try.func122, ok_s_l2Moment⟩ <|
    allCons ⟨_, _, _, _, Try.func123, ok_slices_Index_S_2int__2int⟩ <|
    allCons ⟨_, _, _, _, Try.func124, ok_s_l1Cur_beam⟩ <|
    allCons ⟨_, _, _, _, Try.func125, ok_s_l2In⟩ <|
    allNil)
end Go.Proofs.Ythkgpblohjpcdaa.Slim
