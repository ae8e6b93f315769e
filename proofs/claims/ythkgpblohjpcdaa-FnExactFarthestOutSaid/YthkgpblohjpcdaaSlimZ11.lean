/- The slim functions are the program's. -/
import Derived.Test.YthkgpblohjpcdaaSlimZ10
import Derived.Test.YthkgpblohjpcdaaChecked
/- The slim functions are the program's. -/
namespace Go.Proofs.Ythkgpblohjpcdaa.Slim
open Go
theorem ok_gosem_cut_init : compileFn Try.prog [] 1 [] Try.f2 = some a_gosem_cut_init := by kernel_rfl
theorem ok_l_FnExactIsParty : compileFn Try.prog [0, 1, 2, 3, 4, 5, 6, 11, 21, 26] 1 [(10, [0, 1, 2, 3, 4])] Try.f3 = some a_l_FnExactIsParty := by kernel_rfl
theorem ok_l_FnExactRestingPlaces : compileFn Try.prog [0, 1, 2, 3, 4, 5, 6, 7, 8, 13, 34, 39] 1 [(10, [0, 1, 2, 3, 4])] Try.f4 = some a_l_FnExactRestingPlaces := by kernel_rfl
theorem ok_l_FnExactSafeMoves : compileFn Try.prog [0, 1, 2, 3, 4, 5, 6, 7, 8, 9, 10, 11, 12, 13, 18, 40, 45, 61, 69, 72, 87, 92, 95] 1 [(10, [0, 1, 2, 3, 4])] Try.f5 = some a_l_FnExactSafeMoves := by kernel_rfl
theorem ok_l_FnExactMoveOne : compileFn Try.prog [0, 1, 2, 3, 4, 5, 6, 7, 8, 9, 10, 11, 12, 13, 14, 15, 20, 46, 51, 67, 75, 78, 95, 100, 103] 1 [(5, [0, 2, 1, 3, 4, 5, 6, 7, 8, 9, 10]), (7, [0, 1, 2, 3, 4, 5, 6, 7, 8, 9]), (10, [0, 1, 2, 3, 4]), (24, [0, 2, 1, 3, 4, 5, 6, 7, 8, 9, 10])] Try.f6 = some a_l_FnExactMoveOne := by kernel_rfl
theorem ok_l_FnExactCountPlaces : compileFn Try.prog [0, 1, 2, 3, 4, 5, 6, 7, 8, 13, 34, 39] 1 [(10, [0, 1, 2, 3, 4])] Try.f7 = some a_l_FnExactCountPlaces := by kernel_rfl
theorem ok_l_FnExactIsWalkOn : compileFn Try.prog [0, 1, 2, 4, 5, 6, 7, 8, 9, 10, 11, 16, 21, 47, 52, 57] 1 [(14, [0, 1, 2, 3, 4])] Try.f8 = some a_l_FnExactIsWalkOn := by kernel_rfl
theorem ok_l_FnExactFarthestOut : compileFn Try.prog [0, 1, 2, 4, 5, 6, 7, 8, 9, 10, 11, 12, 17, 47, 52] 1 [(10, [0, 1, 2, 3, 4])] Try.f9 = some a_l_FnExactFarthestOut := by kernel_rfl
theorem ok_l_FnExactMeetSteps : compileFn Try.prog [0, 1, 2, 3, 4, 5, 6, 7, 8, 9, 10, 15, 43, 48] 1 [(10, [0, 1, 2, 3, 4])] Try.f10 = some a_l_FnExactMeetSteps := by kernel_rfl
theorem ok_l_FnExactWalkTo : compileFn Try.prog [0, 1, 2, 4, 5, 6, 7, 8, 9, 10, 11, 12, 13, 14, 15, 16, 21, 26, 53, 58, 63, 82, 90, 93, 110, 115, 118] 1 [(14, [0, 1, 2, 3, 4])] Try.f11 = some a_l_FnExactWalkTo := by kernel_rfl
theorem ok_l_FnExactStepsTo : compileFn Try.prog [0, 1, 2, 4, 5, 6, 7, 8, 9, 10, 11, 14, 19, 45, 50, 55] 1 [(13, [0, 1, 2, 3, 4])] Try.f12 = some a_l_FnExactStepsTo := by kernel_rfl
theorem ok_l_FnExactFirstWalkTo : compileFn Try.prog [0, 1, 2, 4, 5, 6, 7, 8, 9, 10, 11, 12, 13, 14, 15, 16, 19, 24, 51, 56, 61, 80, 88, 91, 108, 113, 116] 1 [(13, [0, 1, 2, 3, 4])] Try.f13 = some a_l_FnExactFirstWalkTo := by kernel_rfl
theorem ok_l_FnPlanks : compileFn Try.prog [0, 2, 3, 4, 5, 6, 7, 8, 9, 10, 11, 12, 13, 14, 15, 16, 17, 18, 19, 20, 21, 22, 23, 24, 25, 26, 27, 28, 29, 30, 32, 58, 81, 113, 145, 146, 178, 179, 185, 204] 1 [] Try.f14 = some a_l_FnPlanks := by kernel_rfl
theorem ok_l_FnParties : compileFn Try.prog [0, 2, 3, 4, 5, 6, 7, 8, 9, 10, 11, 12, 13, 14, 15, 16, 17, 18, 19, 20, 21, 22, 23, 24, 25, 26, 27, 28, 29, 30, 31, 32, 33, 34, 35, 36, 37, 38, 39, 40, 41, 42, 43, 44, 46, 72, 99, 125, 150, 176, 204, 205, 209, 223, 224, 247, 253, 257, 270, 299, 301, 323, 328, 341] 1 [(35, [0, 1, 2, 3, 4, 5, 6, 7, 8, 9]), (39, [0, 1, 2, 3, 4, 5, 6, 7, 8, 9, 10, 11, 12, 13, 14, 15, 16, 17]), (47, [0, 1, 2, 3, 4, 5, 6, 7, 8, 9, 10]), (48, [0, 1, 2, 3, 4, 5, 6, 7, 8, 9, 10, 11, 12, 13]), (49, [0, 1, 2, 3, 4, 5, 6, 7, 8, 9, 10, 11, 12, 13]), (61, [0, 1, 2, 3, 4, 5, 6, 7, 8, 9, 10])] Try.f15 = some a_l_FnParties := by kernel_rfl
theorem ok_l_szParty : compileFn Try.prog [0, 1, 2, 4, 10] 1 [] Try.f16 = some a_l_szParty := by kernel_rfl
theorem ok_s_IsParty : compileFn Try.prog [0, 1, 2] 1 [] Try.f17 = some a_s_IsParty := by kernel_rfl
theorem ok_l_toParty : compileFn Try.prog [0, 1, 2, 3] 2 [] Try.f18 = some a_l_toParty := by kernel_rfl
theorem ok_i_IsParty : compileFn Try.prog [0, 1, 2] 1 [] Try.f19 = some a_i_IsParty := by kernel_rfl
theorem ok_l_eqParty : compileFn Try.prog [0, 1, 2, 3, 4, 10, 16, 21] 1 [] Try.f20 = some a_l_eqParty := by kernel_rfl
theorem ok_s_RestingPlaces : compileFn Try.prog [0, 1, 2, 3, 4, 5, 8, 12, 18] 1 [] Try.f21 = some a_s_RestingPlaces := by kernel_rfl
theorem ok_i_RestingPlaces : compileFn Try.prog [0, 1, 2, 3, 4, 5, 6, 7, 8, 11, 14, 15, 16, 24, 25, 26, 31, 32, 33, 52] 1 [] Try.f22 = some a_i_RestingPlaces := by kernel_rfl
theorem ok_s_SafeMoves : compileFn Try.prog [0, 1, 2, 3, 6] 2 [] Try.f23 = some a_s_SafeMoves := by kernel_rfl
theorem ok_i_SafeMoves : compileFn Try.prog [0, 1, 2, 3, 6] 2 [(3, [0, 1, 2, 3, 4, 5])] Try.f24 = some a_i_SafeMoves := by kernel_rfl
theorem ok_l_eqIntA2S : compileFn Try.prog [0, 1, 4, 5, 10, 14, 26] 1 [(6, [0, 1, 2, 3, 4, 5, 6, 7, 8, 9])] Try.f25 = some a_l_eqIntA2S := by kernel_rfl
theorem ok_l_markParty : compileFn Try.prog [0, 1, 2, 4] 1 [] Try.f26 = some a_l_markParty := by kernel_rfl
theorem ok_l_markIntA2S : compileFn Try.prog [0, 1, 4, 5, 6, 10, 14] 1 [] Try.f27 = some a_l_markIntA2S := by kernel_rfl
theorem ok_l_heldIntA2S : compileFn Try.prog [0, 1, 4, 5, 6, 10, 14, 24] 1 [] Try.f28 = some a_l_heldIntA2S := by kernel_rfl
theorem ok_s_MoveOne : compileFn Try.prog [0, 1, 2, 3, 4, 5, 14] 2 [] Try.f29 = some a_s_MoveOne := by kernel_rfl
theorem ok_l_toIntA2 : compileFn Try.prog [0, 1, 2, 3, 4, 6] 1 [] Try.f30 = some a_l_toIntA2 := by kernel_rfl
theorem ok_i_MoveOne : compileFn Try.prog [0, 1, 2, 3, 4, 5] 2 [] Try.f31 = some a_i_MoveOne := by kernel_rfl
theorem ok_l_heldParty : compileFn Try.prog [0, 1, 2, 4, 10] 1 [] Try.f32 = some a_l_heldParty := by kernel_rfl
theorem ok_s_CountPlaces : compileFn Try.prog [0, 1, 2, 3, 4, 5, 6, 9, 15, 22] 1 [] Try.f33 = some a_s_CountPlaces := by kernel_rfl
theorem ok_i_CountPlaces : compileFn Try.prog [0, 1, 2, 3, 6] 1 [(3, [0, 1, 2, 3, 4, 5, 6])] Try.f34 = some a_i_CountPlaces := by kernel_rfl
theorem ok_l_szIntA2S : compileFn Try.prog [0, 1, 4, 10] 1 [] Try.f35 = some a_l_szIntA2S := by kernel_rfl
theorem ok_s_IsWalkOn : compileFn Try.prog [0, 1, 2, 4, 5, 7, 10] 1 [] Try.f36 = some a_s_IsWalkOn := by kernel_rfl
theorem ok_l_toIntA2S : compileFn Try.prog [0, 2, 3, 4, 11] 2 [] Try.f37 = some a_l_toIntA2S := by kernel_rfl
theorem ok_i_IsWalkOn : compileFn Try.prog [0, 1, 2, 4, 5, 7, 10, 13] 1 [] Try.f38 = some a_i_IsWalkOn := by kernel_rfl
theorem ok_s_FarthestOut : compileFn Try.prog [0, 1, 2, 4, 5, 6, 7, 8, 9, 10, 22, 31, 38] 1 [(3, [0, 1, 2, 3, 4, 5, 6, 7])] Try.f39 = some a_s_FarthestOut := by kernel_rfl
theorem ok_i_FarthestOut : compileFn Try.prog [0, 1, 2, 4, 5, 6, 7, 8, 9, 21, 38, 40] 1 [(3, [0, 1, 2, 3, 4, 5, 6, 7, 8, 9, 10, 11, 12, 13]), (4, [0, 1, 2, 3, 4]), (7, [0, 1, 2, 3, 4, 5, 6, 7, 8, 9, 10, 11])] Try.f40 = some a_i_FarthestOut := by kernel_rfl
theorem ok_s_MeetSteps : compileFn Try.prog [0, 1, 2, 3, 4, 5, 6, 7, 8, 9, 10, 11, 14, 21, 30, 54] 1 [] Try.f41 = some a_s_MeetSteps := by kernel_rfl
theorem ok_i_MeetSteps : compileFn Try.prog [0, 1, 2, 3, 4, 5, 6, 7, 8, 9, 10, 11, 12, 15, 23, 24, 25, 30, 31, 32, 53, 58] 1 [(3, [0, 1, 2, 3, 4])] Try.f42 = some a_i_MeetSteps := by kernel_rfl
theorem ok_s_WalkTo : compileFn Try.prog [0, 1, 2, 4, 5, 8] 2 [] Try.f43 = some a_s_WalkTo := by kernel_rfl
theorem ok_i_WalkTo : compileFn Try.prog [0, 1, 2, 4, 5, 6, 7, 15, 24] 2 [] Try.f44 = some a_i_WalkTo := by kernel_rfl
theorem ok_s_StepsTo : compileFn Try.prog [0, 1, 2, 4, 5, 6, 7, 8, 11, 19] 1 [(6, [0, 2, 1, 3, 4, 5, 6])] Try.f45 = some a_s_StepsTo := by kernel_rfl
theorem ok_l_toIntS : compileFn Try.prog [0, 2, 3, 4, 11] 2 [] Try.f46 = some a_l_toIntS := by kernel_rfl
theorem ok_i_StepsTo : compileFn Try.prog [0, 1, 2, 4, 5, 6, 7, 8, 9, 17] 1 [(4, [0, 1, 4, 2, 3, 5, 6, 7, 8, 9, 10])] Try.f47 = some a_i_StepsTo := by kernel_rfl
theorem ok_l_eqIntS : compileFn Try.prog [0, 1, 4, 5, 10, 14, 25] 1 [(6, [0, 1, 2, 3, 4, 5, 6, 7, 8])] Try.f48 = some a_l_eqIntS := by kernel_rfl
theorem ok_s_FirstWalkTo : compileFn Try.prog [0, 1, 2, 4, 5, 6, 7, 8, 9, 11, 12, 13, 14, 27, 41, 60] 2 [(6, [0, 2, 1, 3, 4, 5]), (9, [0, 1, 2, 3, 4, 5, 10, 11, 6, 7, 8, 9, 12, 13, 14, 15, 16]), (12, [0, 1, 2, 3, 4, 5, 6])] Try.f49 = some a_s_FirstWalkTo := by kernel_rfl
theorem ok_i_FirstWalkTo : compileFn Try.prog [0, 1, 2, 4, 5, 6, 7, 8, 9, 10, 11, 12, 14, 15, 29, 46, 49, 54, 55, 56, 57, 71] 2 [(4, [0, 1, 3, 2, 4, 5, 6, 7]), (17, [0, 1, 4, 2, 3, 5, 6])] Try.f50 = some a_i_FirstWalkTo := by kernel_rfl
theorem ok_l_markIntS : compileFn Try.prog [0, 1, 4, 5, 9] 1 [] Try.f51 = some a_l_markIntS := by kernel_rfl
theorem ok_l_rBig : compileFn Try.prog [0, 2] 1 [] Try.f52 = some a_l_rBig := by kernel_rfl
theorem ok_s_DrawCountPlaces : compileFn Try.prog [0, 2] 2 [] Try.f53 = some a_s_DrawCountPlaces := by kernel_rfl
theorem ok_s_DrawFarthestOut : compileFn Try.prog [0, 2, 3, 4, 5] 2 [(3, [0, 1, 2, 3, 4, 5, 7, 6, 8, 9, 10, 11, 12])] Try.f54 = some a_s_DrawFarthestOut := by kernel_rfl
theorem ok_s_DrawFirstWalkTo : compileFn Try.prog [0, 2, 3] 2 [] Try.f55 = some a_s_DrawFirstWalkTo := by kernel_rfl
theorem ok_l_rCells : compileFn Try.prog [0, 1, 4, 5, 10, 14, 25] 1 [(6, [0, 1, 2, 3, 4, 5, 6, 7, 8])] Try.f56 = some a_l_rCells := by kernel_rfl
theorem ok_s_DrawMoveOne : compileFn Try.prog [0, 2, 3, 4, 5] 2 [(3, [0, 1, 2, 3, 4, 5])] Try.f57 = some a_s_DrawMoveOne := by kernel_rfl
theorem ok_l_rParty : compileFn Try.prog [0, 1, 2, 3, 4] 1 [] Try.f58 = some a_l_rParty := by kernel_rfl
theorem ok_s_DrawWalkTo : compileFn Try.prog [0, 2, 3] 2 [] Try.f59 = some a_s_DrawWalkTo := by kernel_rfl
theorem ok_l_szLoadS : compileFn Try.prog [0, 1, 4, 10] 1 [] Try.f60 = some a_l_szLoadS := by kernel_rfl
theorem ok_s_l11Party : compileFn Try.prog [0, 1, 2] 1 [] Try.f61 = some a_s_l11Party := by kernel_rfl
theorem ok_l_toBeam : compileFn Try.prog [0, 1, 2, 3] 1 [] Try.f62 = some a_l_toBeam := by kernel_rfl
theorem ok_l_toLoadS : compileFn Try.prog [0, 2, 3, 4, 11] 2 [] Try.f63 = some a_l_toLoadS := by kernel_rfl
theorem ok_i_isOn : compileFn Try.prog [0, 1, 2, 4] 1 [] Try.f64 = some a_i_isOn := by kernel_rfl
theorem ok_i_within : compileFn Try.prog [0, 1, 2, 6] 1 [] Try.f65 = some a_i_within := by kernel_rfl
theorem ok_i_Beam_rests : compileFn Try.prog [0, 1, 2, 4] 1 [] Try.f66 = some a_i_Beam_rests := by kernel_rfl
theorem ok_l_eqBeam : compileFn Try.prog [0, 1, 2, 3, 4, 9, 14, 19] 1 [] Try.f67 = some a_l_eqBeam := by kernel_rfl
theorem ok_l_eqLoadS : compileFn Try.prog [0, 1, 4, 5, 10, 14, 26] 1 [(6, [0, 1, 2, 3, 4, 5, 6, 7, 8, 9])] Try.f68 = some a_l_eqLoadS := by kernel_rfl
theorem ok_s_l11Size : compileFn Try.prog [0, 1, 2, 3, 4, 9] 1 [] Try.f69 = some a_s_l11Size := by kernel_rfl
theorem ok_s_l11Rests : compileFn Try.prog [0, 1, 2] 1 [] Try.f70 = some a_s_l11Rests := by kernel_rfl
theorem ok_s_l11At : compileFn Try.prog [0, 1, 2, 4, 5, 6, 21] 2 [(1, [0, 1, 3, 4, 6, 7, 2, 5, 8, 9, 10]), (5, [0, 1, 2, 3, 4, 5, 6, 7, 8, 9, 10, 11])] Try.f71 = some a_s_l11At := by kernel_rfl
theorem ok_i_Party_rests : compileFn Try.prog [0, 1, 2, 3, 4] 1 [(1, [0, 1, 2, 3, 4, 5, 6, 7])] Try.f72 = some a_i_Party_rests := by kernel_rfl
theorem ok_s_l11Moves : compileFn Try.prog [0, 1, 2, 3, 4, 5, 6, 12, 16, 34] 2 [(8, [0, 1, 2, 3, 4, 5, 6, 7, 8, 9, 10, 11, 12, 13, 14])] Try.f73 = some a_s_l11Moves := by kernel_rfl
theorem ok_i_Party_moves : compileFn Try.prog [0, 1, 2, 3, 4, 5, 6, 8, 9, 13, 14, 15, 29, 30, 31, 46] 2 [(5, [0, 1, 2, 3, 4, 5, 6, 7, 8, 9, 10, 11, 12, 13])] Try.f74 = some a_i_Party_moves := by kernel_rfl
theorem ok_i_Party_spots : compileFn Try.prog [0, 1, 2, 3, 4, 5, 8, 9, 10, 11] 1 [] Try.f75 = some a_i_Party_spots := by kernel_rfl
theorem ok_l_eqIntA2 : compileFn Try.prog [0, 1, 2, 3, 4, 5, 7, 16] 1 [(4, [0, 1, 2, 3, 4, 5, 6])] Try.f76 = some a_l_eqIntA2 := by kernel_rfl
theorem ok_l_markLoadS : compileFn Try.prog [0, 1, 4, 5, 9] 1 [] Try.f77 = some a_l_markLoadS := by kernel_rfl
theorem ok_s_l11Safe : compileFn Try.prog [0, 1, 2, 3, 4, 5, 22] 1 [(3, [0, 1, 2, 3, 4, 5, 6, 7, 8, 9, 10])] Try.f78 = some a_s_l11Safe := by kernel_rfl
theorem ok_s_l11Moved : compileFn Try.prog [0, 1, 2, 3, 4, 5] 2 [(1, [0, 1, 3, 4, 6, 7, 2, 5, 8, 9, 10])] Try.f79 = some a_s_l11Moved := by kernel_rfl
theorem ok_l_heldLoadS : compileFn Try.prog [0, 1, 4, 5, 9, 18, 27] 1 [] Try.f80 = some a_l_heldLoadS := by kernel_rfl
theorem ok_s_l11Spread : compileFn Try.prog [0, 1, 2, 3, 4, 5, 6, 7, 8, 9, 10, 17, 33, 47, 61] 2 [(11, [0, 1, 2, 3, 4, 5, 6, 7]), (16, [0, 1, 2, 3, 4, 5, 6, 7])] Try.f81 = some a_s_l11Spread := by kernel_rfl
theorem ok_i_Party_stepsFrom : compileFn Try.prog [0, 1, 2, 3, 4, 5, 6, 7, 9, 10, 12, 20, 28, 29, 30, 31, 47] 2 [(1, [1, 4, 0, 2, 3, 6, 5, 7]), (12, [0, 1, 2, 3, 4, 5, 6])] Try.f82 = some a_i_Party_stepsFrom := by kernel_rfl
theorem ok_s_l11Walk : compileFn Try.prog [0, 1, 2, 4, 5, 6, 7, 25, 34, 44] 2 [(1, [0, 1, 3, 4, 6, 7, 2, 5, 8, 9, 10]), (5, [0, 1, 2, 3, 4, 5, 6]), (7, [0, 1, 2, 3, 4, 5, 6])] Try.f83 = some a_s_l11Walk := by kernel_rfl
theorem ok_i_Party_walk : compileFn Try.prog [0, 1, 2, 4, 5, 6, 8, 11, 12, 13, 14, 22] 1 [(5, [0, 1, 3, 2, 4, 5])] Try.f84 = some a_i_Party_walk := by kernel_rfl
theorem ok_s_l1In : compileFn Try.prog [0, 1, 2, 6] 1 [] Try.f85 = some a_s_l1In := by kernel_rfl
theorem ok_s_l1Least : compileFn Try.prog [0, 1, 4, 7] 1 [] Try.f86 = some a_s_l1Least := by kernel_rfl
theorem ok_s_l1Most : compileFn Try.prog [0, 1, 4, 7] 1 [] Try.f87 = some a_s_l1Most := by kernel_rfl
theorem ok_s_l11Key : compileFn Try.prog [0, 1, 2, 3, 4, 9] 1 [(5, [0, 1, 2, 3, 4, 5, 6, 7, 8, 9, 10, 11, 12, 13])] Try.f88 = some a_s_l11Key := by kernel_rfl
theorem ok_i_Party_at : compileFn Try.prog [0, 1, 2, 3, 4, 5, 6, 17, 18, 19] 2 [(1, [0, 1, 2, 3, 5, 6, 4, 7, 8, 9]), (5, [0, 1, 2, 3, 4, 5, 6, 7, 8])] Try.f89 = some a_i_Party_at := by kernel_rfl
theorem ok_s_l11Placed : compileFn Try.prog [0, 1, 2, 4, 5, 6, 7, 13, 20, 31] 2 [(7, [0, 1, 2, 3, 4, 5, 6, 7, 8]), (9, [0, 1, 2, 3, 4, 5, 6, 7, 8, 9])] Try.f90 = some a_s_l11Placed := by kernel_rfl
theorem ok_i_Party_spotsOf : compileFn Try.prog [0, 1, 2, 4, 5, 6, 7, 8, 19, 22, 23, 24, 25, 34] 1 [] Try.f91 = some a_i_Party_spotsOf := by kernel_rfl
theorem ok_s_DrawIsParty : compileFn Try.prog [0, 2, 3] 2 [] Try.f92 = some a_s_DrawIsParty := by kernel_rfl
theorem ok_s_l1Cur_party : compileFn Try.prog [0, 2, 3, 4, 5, 6, 17, 41, 53, 58, 59, 65, 81, 100] 2 [(5, [0, 1, 2, 3, 4, 5, 8, 9, 6, 7, 10, 11, 12, 13, 14, 15, 16, 17, 18]), (16, [0, 1, 2, 3, 4, 5, 6, 7, 8, 9, 10, 11, 12, 13, 14]), (18, [0, 1, 2, 3, 4, 5, 6, 7, 8, 9, 10, 11, 12, 13, 14, 15, 16, 17])] Try.f93 = some a_s_l1Cur_party := by kernel_rfl
theorem ok_s_l1Cur_pick : compileFn Try.prog [0, 1, 4, 5, 7, 11] 1 [] Try.f94 = some a_s_l1Cur_pick := by kernel_rfl
theorem ok_s_DrawStepsTo : compileFn Try.prog [0, 2, 3, 4, 5] 2 [(3, [0, 1, 2, 3, 4, 5])] Try.f95 = some a_s_DrawStepsTo := by kernel_rfl
theorem ok_s_l1Cur_moveOf : compileFn Try.prog [0, 1, 3, 4, 5, 12, 17] 1 [] Try.f96 = some a_s_l1Cur_moveOf := by kernel_rfl
theorem ok_l_rRow : compileFn Try.prog [0, 1, 4, 5, 10, 14, 25] 1 [(6, [0, 1, 2, 3, 4, 5, 6, 7, 8])] Try.f97 = some a_l_rRow := by kernel_rfl
theorem ok_s_DrawIsWalkOn : compileFn Try.prog [0, 2, 3, 4, 5, 6, 7, 8, 9, 21, 37] 2 [] Try.f98 = some a_s_DrawIsWalkOn := by kernel_rfl
theorem ok_s_l6Beam : compileFn Try.prog [0, 1, 2] 1 [] Try.f99 = some a_s_l6Beam := by kernel_rfl
theorem ok_s_l6On : compileFn Try.prog [0, 1, 2, 4, 5, 13, 17, 27] 1 [(6, [0, 1, 2, 3, 4, 5, 6, 7])] Try.f100 = some a_s_l6On := by kernel_rfl
theorem ok_l_toLoad : compileFn Try.prog [0, 1, 2, 3] 1 [] Try.f101 = some a_l_toLoad := by kernel_rfl
theorem ok_i_IsBeam : compileFn Try.prog [0, 1, 2] 1 [] Try.f102 = some a_i_IsBeam := by kernel_rfl
theorem ok_i_IsRow : compileFn Try.prog [0, 2, 5] 1 [] Try.f103 = some a_i_IsRow := by kernel_rfl
theorem ok_slices_ContainsFunc_Si_Load_i_Load : compileFn Try.prog [0, 1, 4] 1 [] Try.f104 = some a_slices_ContainsFunc_Si_Load_i_Load := by kernel_rfl
theorem ok_i_isOn_1 : compileFn Try.prog [0, 1, 2, 3] 1 [] Try.f105 = some a_i_isOn_1 := by kernel_rfl
theorem ok_i_tipSide : compileFn Try.prog [0, 1, 2, 6, 7, 12] 1 [] Try.f106 = some a_i_tipSide := by kernel_rfl
theorem ok_l_eqLoad : compileFn Try.prog [0, 1, 2, 3, 4, 9, 14] 1 [] Try.f107 = some a_l_eqLoad := by kernel_rfl
theorem ok_s_l2Side : compileFn Try.prog [0, 1, 2, 6, 10, 14] 1 [] Try.f108 = some a_s_l2Side := by kernel_rfl
theorem ok_slices_Contains_S_2int__2int : compileFn Try.prog [0, 1, 3, 4] 1 [] Try.f109 = some a_slices_Contains_S_2int__2int := by kernel_rfl
theorem ok_slices_Clone_Si_Load_i_Load : compileFn Try.prog [0, 2, 4] 2 [] Try.f110 = some a_slices_Clone_Si_Load_i_Load := by kernel_rfl
theorem ok_s_l1Cur_plank : compileFn Try.prog [0, 2, 3, 4, 13, 31] 1 [(5, [0, 1, 2, 3, 4, 5, 6, 7, 8, 9, 10, 11, 12])] Try.f111 = some a_s_l1Cur_plank := by kernel_rfl
theorem ok_s_l1Cur_among : compileFn Try.prog [0, 1, 4] 1 [] Try.f112 = some a_s_l1Cur_among := by kernel_rfl
theorem ok_s_l1Cur_next : compileFn Try.prog [0, 2, 3, 13, 53] 1 [(2, [0, 1, 2, 3, 4, 5, 6, 7, 8, 9]), (3, [0, 1, 2, 3, 4, 5, 6, 7, 8, 9, 10, 11]), (6, [0, 1, 2, 3, 4, 5, 6, 7, 8, 9])] Try.f113 = some a_s_l1Cur_next := by kernel_rfl
theorem ok_s_l1Cur_targets : compileFn Try.prog [0, 1, 3, 4, 5, 6, 7, 8, 9, 10, 20, 39, 42, 49, 63, 76] 2 [(13, [0, 1, 2, 3, 4, 5, 6, 7, 8, 9])] Try.f114 = some a_s_l1Cur_targets := by kernel_rfl
theorem ok_s_l1Cur_one : compileFn Try.prog [0, 1, 4] 1 [] Try.f115 = some a_s_l1Cur_one := by kernel_rfl
theorem ok_s_l2Row : compileFn Try.prog [0, 2, 3, 11, 29] 1 [] Try.f116 = some a_s_l2Row := by kernel_rfl
theorem ok_i_IsRow_1 : compileFn Try.prog [0, 1, 2] 1 [] Try.f117 = some a_i_IsRow_1 := by kernel_rfl
theorem ok_i_isPlace : compileFn Try.prog [0, 2] 1 [] Try.f118 = some a_i_isPlace := by kernel_rfl
theorem ok_i_isWeight : compileFn Try.prog [0, 2] 1 [] Try.f119 = some a_i_isWeight := by kernel_rfl
theorem ok_slices_IndexFunc_Si_Load_i_Load : compileFn Try.prog [0, 1, 4, 5, 7, 8, 9, 16] 1 [] Try.f120 = some a_slices_IndexFunc_Si_Load_i_Load := by kernel_rfl
theorem ok_i_momentAbout : compileFn Try.prog [0, 1, 4, 5, 7, 8, 9, 10, 11] 1 [] Try.f121 = some a_i_momentAbout := by kernel_rfl
theorem ok_s_l2Moment : compileFn Try.prog [0, 1, 4, 5, 6, 10] 1 [(5, [0, 1, 2, 3, 4, 5, 6, 7, 8, 9, 10, 11, 12, 13, 14, 15])] Try.f122 = some a_s_l2Moment := by kernel_rfl
theorem ok_slices_Index_S_2int__2int : compileFn Try.prog [0, 1, 3, 4, 5, 7, 8, 9, 16] 1 [(4, [0, 1, 2, 3, 4, 5])] Try.f123 = some a_slices_Index_S_2int__2int := by kernel_rfl
theorem ok_s_l1Cur_beam : compileFn Try.prog [0, 2, 3, 4, 12, 29, 30, 36, 47] 1 [(5, [0, 1, 2, 3, 4, 5, 6, 7, 8, 9, 10, 11])] Try.f124 = some a_s_l1Cur_beam := by kernel_rfl
theorem ok_s_l2In : compileFn Try.prog [0, 2] 1 [] Try.f125 = some a_s_l2In := by kernel_rfl
theorem tabOk : TableOk Try.prog T := tableOk_of (by
  unfold tab
  exact allCons ⟨_, _, _, _, Try.func2, ok_gosem_cut_init⟩ <|
    allCons ⟨_, _, _, _, Try.func3, ok_l_FnExactIsParty⟩ <|
    allCons ⟨_, _, _, _, Try.func4, ok_l_FnExactRestingPlaces⟩ <|
    allCons ⟨_, _, _, _, Try.func5, ok_l_FnExactSafeMoves⟩ <|
    allCons ⟨_, _, _, _, Try.func6, ok_l_FnExactMoveOne⟩ <|
    allCons ⟨_, _, _, _, Try.func7, ok_l_FnExactCountPlaces⟩ <|
    allCons ⟨_, _, _, _, Try.func8, ok_l_FnExactIsWalkOn⟩ <|
    allCons ⟨_, _, _, _, Try.func9, ok_l_FnExactFarthestOut⟩ <|
    allCons ⟨_, _, _, _, Try.func10, ok_l_FnExactMeetSteps⟩ <|
    allCons ⟨_, _, _, _, Try.func11, ok_l_FnExactWalkTo⟩ <|
    allCons ⟨_, _, _, _, Try.func12, ok_l_FnExactStepsTo⟩ <|
    allCons ⟨_, _, _, _, Try.func13, ok_l_FnExactFirstWalkTo⟩ <|
    allCons ⟨_, _, _, _, Try.func14, ok_l_FnPlanks⟩ <|
    allCons ⟨_, _, _, _, Try.func15, ok_l_FnParties⟩ <|
    allCons ⟨_, _, _, _, Try.func16, ok_l_szParty⟩ <|
    allCons ⟨_, _, _, _, Try.func17, ok_s_IsParty⟩ <|
    allCons ⟨_, _, _, _, Try.func18, ok_l_toParty⟩ <|
    allCons ⟨_, _, _, _, Try.func19, ok_i_IsParty⟩ <|
    allCons ⟨_, _, _, _, Try.func20, ok_l_eqParty⟩ <|
    allCons ⟨_, _, _, _, Try.func21, ok_s_RestingPlaces⟩ <|
    allCons ⟨_, _, _, _, Try.func22, ok_i_RestingPlaces⟩ <|
    allCons ⟨_, _, _, _, Try.func23, ok_s_SafeMoves⟩ <|
    allCons ⟨_, _, _, _, Try.func24, ok_i_SafeMoves⟩ <|
    allCons ⟨_, _, _, _, Try.func25, ok_l_eqIntA2S⟩ <|
    allCons ⟨_, _, _, _, Try.func26, ok_l_markParty⟩ <|
    allCons ⟨_, _, _, _, Try.func27, ok_l_markIntA2S⟩ <|
    allCons ⟨_, _, _, _, Try.func28, ok_l_heldIntA2S⟩ <|
    allCons ⟨_, _, _, _, Try.func29, ok_s_MoveOne⟩ <|
    allCons ⟨_, _, _, _, Try.func30, ok_l_toIntA2⟩ <|
    allCons ⟨_, _, _, _, Try.func31, ok_i_MoveOne⟩ <|
    allCons ⟨_, _, _, _, Try.func32, ok_l_heldParty⟩ <|
    allCons ⟨_, _, _, _, Try.func33, ok_s_CountPlaces⟩ <|
    allCons ⟨_, _, _, _, Try.func34, ok_i_CountPlaces⟩ <|
    allCons ⟨_, _, _, _, Try.func35, ok_l_szIntA2S⟩ <|
    allCons ⟨_, _, _, _, Try.func36, ok_s_IsWalkOn⟩ <|
    allCons ⟨_, _, _, _, Try.func37, ok_l_toIntA2S⟩ <|
    allCons ⟨_, _, _, _, Try.func38, ok_i_IsWalkOn⟩ <|
    allCons ⟨_, _, _, _, Try.func39, ok_s_FarthestOut⟩ <|
    allCons ⟨_, _, _, _, Try.func40, ok_i_FarthestOut⟩ <|
    allCons ⟨_, _, _, _, Try.func41, ok_s_MeetSteps⟩ <|
    allCons ⟨_, _, _, _, Try.func42, ok_i_MeetSteps⟩ <|
    allCons ⟨_, _, _, _, Try.func43, ok_s_WalkTo⟩ <|
    allCons ⟨_, _, _, _, Try.func44, ok_i_WalkTo⟩ <|
    allCons ⟨_, _, _, _, Try.func45, ok_s_StepsTo⟩ <|
    allCons ⟨_, _, _, _, Try.func46, ok_l_toIntS⟩ <|
    allCons ⟨_, _, _, _, Try.func47, ok_i_StepsTo⟩ <|
    allCons ⟨_, _, _, _, Try.func48, ok_l_eqIntS⟩ <|
    allCons ⟨_, _, _, _, Try.func49, ok_s_FirstWalkTo⟩ <|
    allCons ⟨_, _, _, _, Try.func50, ok_i_FirstWalkTo⟩ <|
    allCons ⟨_, _, _, _, Try.func51, ok_l_markIntS⟩ <|
    allCons ⟨_, _, _, _, Try.func52, ok_l_rBig⟩ <|
    allCons ⟨_, _, _, _, Try.func53, ok_s_DrawCountPlaces⟩ <|
    allCons ⟨_, _, _, _, Try.func54, ok_s_DrawFarthestOut⟩ <|
    allCons ⟨_, _, _, _, Try.func55, ok_s_DrawFirstWalkTo⟩ <|
    allCons ⟨_, _, _, _, Try.func56, ok_l_rCells⟩ <|
    allCons ⟨_, _, _, _, Try.func57, ok_s_DrawMoveOne⟩ <|
    allCons ⟨_, _, _, _, Try.func58, ok_l_rParty⟩ <|
    allCons ⟨_, _, _, _, Try.func59, ok_s_DrawWalkTo⟩ <|
    allCons ⟨_, _, _, _, Try.func60, ok_l_szLoadS⟩ <|
    allCons ⟨_, _, _, _, Try.func61, ok_s_l11Party⟩ <|
    allCons ⟨_, _, _, _, Try.func62, ok_l_toBeam⟩ <|
    allCons ⟨_, _, _, _, Try.func63, ok_l_toLoadS⟩ <|
    allCons ⟨_, _, _, _, Try.func64, ok_i_isOn⟩ <|
    allCons ⟨_, _, _, _, Try.func65, ok_i_within⟩ <|
    allCons ⟨_, _, _, _, Try.func66, ok_i_Beam_rests⟩ <|
    allCons ⟨_, _, _, _, Try.func67, ok_l_eqBeam⟩ <|
    allCons ⟨_, _, _, _, Try.func68, ok_l_eqLoadS⟩ <|
    allCons ⟨_, _, _, _, Try.func69, ok_s_l11Size⟩ <|
    allCons ⟨_, _, _, _, Try.func70, ok_s_l11Rests⟩ <|
    allCons ⟨_, _, _, _, Try.func71, ok_s_l11At⟩ <|
    allCons ⟨_, _, _, _, Try.func72, ok_i_Party_rests⟩ <|
    allCons ⟨_, _, _, _, Try.func73, ok_s_l11Moves⟩ <|
    allCons ⟨_, _, _, _, Try.func74, ok_i_Party_moves⟩ <|
    allCons ⟨_, _, _, _, Try.func75, ok_i_Party_spots⟩ <|
    allCons ⟨_, _, _, _, Try.func76, ok_l_eqIntA2⟩ <|
    allCons ⟨_, _, _, _, Try.func77, ok_l_markLoadS⟩ <|
    allCons ⟨_, _, _, _, Try.func78, ok_s_l11Safe⟩ <|
    allCons ⟨_, _, _, _, Try.func79, ok_s_l11Moved⟩ <|
    allCons ⟨_, _, _, _, Try.func80, ok_l_heldLoadS⟩ <|
    allCons ⟨_, _, _, _, Try.func81, ok_s_l11Spread⟩ <|
    allCons ⟨_, _, _, _, Try.func82, ok_i_Party_stepsFrom⟩ <|
    allCons ⟨_, _, _, _, Try.func83, ok_s_l11Walk⟩ <|
    allCons ⟨_, _, _, _, Try.func84, ok_i_Party_walk⟩ <|
    allCons ⟨_, _, _, _, Try.func85, ok_s_l1In⟩ <|
    allCons ⟨_, _, _, _, Try.func86, ok_s_l1Least⟩ <|
    allCons ⟨_, _, _, _, Try.func87, ok_s_l1Most⟩ <|
    allCons ⟨_, _, _, _, Try.func88, ok_s_l11Key⟩ <|
    allCons ⟨_, _, _, _, Try.func89, ok_i_Party_at⟩ <|
    allCons ⟨_, _, _, _, Try.func90, ok_s_l11Placed⟩ <|
    allCons ⟨_, _, _, _, Try.func91, ok_i_Party_spotsOf⟩ <|
    allCons ⟨_, _, _, _, Try.func92, ok_s_DrawIsParty⟩ <|
    allCons ⟨_, _, _, _, Try.func93, ok_s_l1Cur_party⟩ <|
    allCons ⟨_, _, _, _, Try.func94, ok_s_l1Cur_pick⟩ <|
    allCons ⟨_, _, _, _, Try.func95, ok_s_DrawStepsTo⟩ <|
    allCons ⟨_, _, _, _, Try.func96, ok_s_l1Cur_moveOf⟩ <|
    allCons ⟨_, _, _, _, Try.func97, ok_l_rRow⟩ <|
    allCons ⟨_, _, _, _, Try.func98, ok_s_DrawIsWalkOn⟩ <|
    allCons ⟨_, _, _, _, Try.func99, ok_s_l6Beam⟩ <|
    allCons ⟨_, _, _, _, Try.func100, ok_s_l6On⟩ <|
    allCons ⟨_, _, _, _, Try.func101, ok_l_toLoad⟩ <|
    allCons ⟨_, _, _, _, Try.func102, ok_i_IsBeam⟩ <|
    allCons ⟨_, _, _, _, Try.func103, ok_i_IsRow⟩ <|
    allCons ⟨_, _, _, _, Try.func104, ok_slices_ContainsFunc_Si_Load_i_Load⟩ <|
    allCons ⟨_, _, _, _, Try.func105, ok_i_isOn_1⟩ <|
    allCons ⟨_, _, _, _, Try.func106, ok_i_tipSide⟩ <|
    allCons ⟨_, _, _, _, Try.func107, ok_l_eqLoad⟩ <|
    allCons ⟨_, _, _, _, Try.func108, ok_s_l2Side⟩ <|
    allCons ⟨_, _, _, _, Try.func109, ok_slices_Contains_S_2int__2int⟩ <|
    allCons ⟨_, _, _, _, Try.func110, ok_slices_Clone_Si_Load_i_Load⟩ <|
    allCons ⟨_, _, _, _, Try.func111, ok_s_l1Cur_plank⟩ <|
    allCons ⟨_, _, _, _, Try.func112, ok_s_l1Cur_among⟩ <|
    allCons ⟨_, _, _, _, Try.func113, ok_s_l1Cur_next⟩ <|
    allCons ⟨_, _, _, _, Try.func114, ok_s_l1Cur_targets⟩ <|
    allCons ⟨_, _, _, _, Try.func115, ok_s_l1Cur_one⟩ <|
    allCons ⟨_, _, _, _, Try.func116, ok_s_l2Row⟩ <|
    allCons ⟨_, _, _, _, Try.func117, ok_i_IsRow_1⟩ <|
    allCons ⟨_, _, _, _, Try.func118, ok_i_isPlace⟩ <|
    allCons ⟨_, _, _, _, Try.func119, ok_i_isWeight⟩ <|
    allCons ⟨_, _, _, _, Try.func120, ok_slices_IndexFunc_Si_Load_i_Load⟩ <|
    allCons ⟨_, _, _, _, Try.func121, ok_i_momentAbout⟩ <|
    allCons ⟨_, _, _, _, Try.func122, ok_s_l2Moment⟩ <|
    allCons ⟨_, _, _, _, Try.func123, ok_slices_Index_S_2int__2int⟩ <|
    allCons ⟨_, _, _, _, Try.func124, ok_s_l1Cur_beam⟩ <|
    allCons ⟨_, _, _, _, Try.func125, ok_s_l2In⟩ <|
    allNil)
end Go.Proofs.Ythkgpblohjpcdaa.Slim

/- The slim machine: the rules by which simp walks. -/
namespace Go.Proofs.Ythkgpblohjpcdaa.Slim
open Go
set_option linter.unusedVariables false
set_option linter.unusedSimpArgs false

section
variable {C : FuncId → List AV → Mem → Option (AV × Mem)} {tm loc : List AV} {m : Mem} {g : X → AV} {H : List Blk} {e : Option Nat}

theorem aops_nil : aops C tm [] loc m = some (loc, m) := Eq.trans rfl rfl

def opThen {β : Type} (r : Option (AV × Mem)) (f : AV → Mem → Option β) : Option β :=
  match r with
  | some (v, m) => f v m
  | none => none
theorem opThen_some {β : Type} (v : AV) (m : Mem) (f : AV → Mem → Option β) : opThen (some (v, m)) f = f v m := Eq.trans rfl rfl
theorem opThen_none {β : Type} (f : AV → Mem → Option β) : opThen none f = none := Eq.trans rfl rfl
theorem opThen_ite {β : Type} (c : Prop) [Decidable c] (a b : Option (AV × Mem)) (f : AV → Mem → Option β) : opThen (if c then a else b) f = if c then opThen a f else opThen b f := by split <;> rfl
@[congr] theorem opThen_congr {β : Type} {r r' : Option (AV × Mem)} {f : AV → Mem → Option β} (h : r = r') : opThen r f = opThen r' f := by rw [h]

/-- an operation with a guard -/
def guardP {β : Type} (p : Prop) [Decidable p] (r : Option (AV × Mem)) (m : Mem) (f : AV → Mem → Option β) : Option β := if p then opThen r f else f (.tup []) m
def guardThen {β : Type} (c : Option Bool) (r : Option (AV × Mem)) (m : Mem) (f : AV → Mem → Option β) : Option β :=
  match c with
  | none => none
  | some c => guardP (c = true) r m f
theorem guardThen_some {β : Type} (c : Bool) (r : Option (AV × Mem)) (m : Mem) (f : AV → Mem → Option β) : guardThen (some c) r m f = guardP (c = true) r m f := Eq.trans rfl rfl
theorem guardThen_ite {β : Type} (p : Prop) [Decidable p] (a b : Option Bool) (r : Option (AV × Mem)) (m : Mem) (f : AV → Mem → Option β) :
    guardThen (if p then a else b) r m f = if p then guardThen a r m f else guardThen b r m f := by split <;> rfl
theorem guardP_true {β : Type} (r : Option (AV × Mem)) (m : Mem) (f : AV → Mem → Option β) : guardP True r m f = opThen r f := by simp [guardP]
theorem guardP_false {β : Type} (r : Option (AV × Mem)) (m : Mem) (f : AV → Mem → Option β) : guardP False r m f = f (.tup []) m := by simp [guardP]
theorem guardP_some {β : Type} (p : Prop) [Decidable p] (v : AV) (m : Mem) (f : AV → Mem → Option β) : guardP p (some (v, m)) m f = f (if p then v else .tup []) m := by
  by_cases h : p <;> simp [guardP, h, opThen]
theorem guardP_ite {β : Type} (p : Prop) [Decidable p] (q : Prop) [Decidable q] (v : AV) (m : Mem) (f : AV → Mem → Option β) :
    guardP p (if q then some (v, m) else none) m f = if p → q then f (if p then v else .tup []) m else none := by
  by_cases h : p <;> by_cases h2 : q <;> simp [guardP, opThen, h, h2]
@[congr] theorem guardP_congr {β : Type} {p q : Prop} {s : Decidable p} [Decidable q] {r r' : Option (AV × Mem)} {m : Mem} {f : AV → Mem → Option β} (h : p = q) (h2 : q → r = r') : guardP p r m f = guardP q r' m f := by
  subst h
  unfold guardP
  by_cases hp : p
  · rw [if_pos hp, if_pos hp, h2 hp]
  · rw [if_neg hp, if_neg hp]
@[congr] theorem guardThen_congr {β : Type} {c c' : Option Bool} {r : Option (AV × Mem)} {m : Mem} {f : AV → Mem → Option β} (h : c = c') : guardThen c r m f = guardThen c' r m f := by rw [h]

/-- what a guard says -/
def guardOf (v : AV) (b : Bool) : Option Bool :=
  match v with
  | .bool c => some (c == b)
  | .tup [] => some false
  | _ => none
theorem guardOf_true (c : Bool) : guardOf (.bool c) true = some c := by cases c <;> rfl
theorem guardOf_false (c : Bool) : guardOf (.bool c) false = some (!c) := by cases c <;> rfl
theorem guardOf_tup (b : Bool) : guardOf (.tup []) b = some false := Eq.trans rfl rfl
theorem guardOf_ite (c : Prop) [Decidable c] (x y : AV) (b : Bool) : guardOf (if c then x else y) b = if c then guardOf x b else guardOf y b := by split <;> rfl

theorem aops_cons (op : AO) (rest : List AOper) : aops C tm (⟨op, none⟩ :: rest) loc m = opThen (aop C (get tm loc) m op) fun v m' => aops C tm rest (loc ++ [v]) m' := by
  rw [aops]
  simp only [wanted]
  cases aop C (get tm loc) m op <;> rfl

theorem aops_guard (op : AO) (x : X) (b : Bool) (rest : List AOper) :
    aops C tm (⟨op, some (x, b)⟩ :: rest) loc m = guardThen (guardOf (get tm loc x) b) (aop C (get tm loc) m op) m fun v m' => aops C tm rest (loc ++ [v]) m' := by
  rw [aops]
  have h : wanted (get tm loc) (some (x, b)) = guardOf (get tm loc x) b := rfl
  rw [h]
  cases guardOf (get tm loc x) b with
  | none => rfl
  | some c => cases c with
    | false => rfl
    | true => simp only [guardThen, guardP, if_true]; cases aop C (get tm loc) m op <;> rfl

theorem dops_nil : dops C tm [] loc m = some (loc, m) := Eq.trans rfl rfl

theorem dops_cons (op : AO) (rest : List DE) : dops C tm (⟨op, none, []⟩ :: rest) loc m = opThen (aop C (get tm loc) m op) fun v m' => dops C tm rest (loc ++ [v]) m' := by
  rw [dops]
  simp only [wanted]
  cases aop C (get tm loc) m op <;> simp [opThen, toldAnew]

theorem dops_again (op : AO) (q : Nat × AOper) (qs : List (Nat × AOper)) (rest : List DE) : dops C tm (⟨op, none, q :: qs⟩ :: rest) loc m =
    opThen (aop C (get tm loc) m op) fun v m' => if toldAnew (get tm (loc ++ [v])) loc m'.H (q :: qs) = true then dops C tm rest (loc ++ [v]) m' else none := by
  rw [dops]
  simp only [wanted]
  cases aop C (get tm loc) m op <;> simp [opThen]

theorem dops_guard (op : AO) (x : X) (b : Bool) (rest : List DE) :
    dops C tm (⟨op, some (x, b), []⟩ :: rest) loc m = guardThen (guardOf (get tm loc x) b) (aop C (get tm loc) m op) m fun v m' => dops C tm rest (loc ++ [v]) m' := by
  rw [dops]
  have h : wanted (get tm loc) (some (x, b)) = guardOf (get tm loc x) b := rfl
  rw [h]
  cases guardOf (get tm loc x) b with
  | none => rfl
  | some c => cases c with
    | false => simp [guardThen, guardP, toldAnew]
    | true => simp only [guardThen, guardP, if_true]; cases aop C (get tm loc) m op <;> simp [opThen, toldAnew]

theorem dops_guard_again (op : AO) (x : X) (b : Bool) (q : Nat × AOper) (qs : List (Nat × AOper)) (rest : List DE) :
    dops C tm (⟨op, some (x, b), q :: qs⟩ :: rest) loc m = guardThen (guardOf (get tm loc x) b) (aop C (get tm loc) m op) m fun v m' =>
      if toldAnew (get tm (loc ++ [v])) loc m'.H (q :: qs) = true then dops C tm rest (loc ++ [v]) m' else none := by
  rw [dops]
  have h : wanted (get tm loc) (some (x, b)) = guardOf (get tm loc x) b := rfl
  rw [h]
  cases guardOf (get tm loc x) b with
  | none => rfl
  | some c => cases c with
    | false => rfl
    | true => simp only [guardThen, guardP, if_true]; cases aop C (get tm loc) m op <;> rfl

theorem toldAnew_nil (L : List Blk) : toldAnew g loc L [] = true := Eq.trans rfl rfl
theorem toldAnew_cons (L : List Blk) (j : Nat) (op : AO) (qs : List (Nat × AOper)) : (toldAnew g loc L ((j, ⟨op, none⟩) :: qs) = true) ↔ (memop g L op = some ((loc[j]?).getD .undef) ∧ toldAnew g loc L qs = true) := by
  simp [toldAnew, wanted]
theorem toldAnew_guard (L : List Blk) (j : Nat) (op : AO) (x : X) (b : Bool) (qs : List (Nat × AOper)) : (toldAnew g loc L ((j, ⟨op, some (x, b)⟩) :: qs) = true) ↔ ((guardOf (g x) b = some false ∨ memop g L op = some ((loc[j]?).getD .undef)) ∧ toldAnew g loc L qs = true) := by
  simp only [toldAnew, Bool.and_eq_true, Bool.or_eq_true, decide_eq_true_eq]
  rfl
theorem memop_load (L : List Blk) (a : Bool) (sz : Nat) (x : X) : memop g L (.load a sz x) = loadAt L a sz (g x) := Eq.trans rfl rfl

theorem get_t (s : Nat) : get tm loc (.t s) = (tm[s]?).getD .undef := Eq.trans rfl rfl
theorem get_l (s : Nat) : get tm loc (.l s) = (loc[s]?).getD .undef := Eq.trans rfl rfl
theorem get_c (v : AV) : get tm loc (.c v) = v := Eq.trans rfl rfl

/-- a value, memory being as it was -/
def valOf (m : Mem) (r : Option AV) : Option (AV × Mem) :=
  match r with
  | some v => some (v, m)
  | none => none
theorem valOf_some (v : AV) : valOf m (some v) = some (v, m) := Eq.trans rfl rfl
theorem valOf_none : valOf m none = none := Eq.trans rfl rfl
theorem valOf_ite (c : Prop) [Decidable c] (a b : Option AV) : valOf m (if c then a else b) = if c then valOf m a else valOf m b := by split <;> rfl

theorem aop_of_light {op : AO} (h : op.kind = 0) : aop C g m op = valOf m (light g op) := by
  unfold aop
  cases e : light g op with
  | some v => rfl
  | none => simp only []; rw [memop_none (by omega), making_none (by omega), heavy_none (by omega)]; rfl

theorem aop_of_memop {op : AO} (h : op.kind = 1) : aop C g m op = valOf m (memop g m.H op) := by
  unfold aop
  rw [light_none (by omega)]
  simp only []
  cases e : memop g m.H op with
  | some v => rfl
  | none => simp only []; rw [making_none (by omega), heavy_none (by omega)]; rfl

theorem aop_of_heavy {op : AO} (h : op.kind = 3) : aop C g m op = heavy C g m op := by
  unfold aop
  rw [light_none (by omega), memop_none (by omega), making_none (by omega)]

theorem aop_of_making {op : AO} (h : op.kind = 2) : aop C g m op = match making g op with | some (cs, v) => some (v m.H.length, newBlk m cs) | none => none := by
  unfold aop
  rw [light_none (by omega), memop_none (by omega)]
  simp only []
  cases making g op with
  | some p => rfl
  | none => simp only []; exact heavy_none (by omega)

theorem aop_mv (x : X) : aop C g m (.mv x) = some (g x, m) := Eq.trans rfl rfl
theorem aop_bin (c : Nat) (o : BinOp) (x y : X) : aop C g m (.bin c o x y) = valOf m (binop c o (g x) (g y)) := aop_of_light rfl

/-- a choice -/
def pickV (c a b : AV) : Option AV :=
  match c with
  | .bool true => some a
  | .bool false => some b
  | _ => none
theorem pickV_bool (c : Bool) (a b : AV) : pickV (.bool c) a b = some (if c = true then a else b) := by cases c <;> rfl
theorem aop_pick (c a b : X) : aop C g m (.pick c a b) = valOf m (pickV (g c) (g a) (g b)) := aop_of_light rfl
theorem aop_un (o : UnOp) (x : X) : aop C g m (.un o x) = valOf m (unop o (g x)) := aop_of_light rfl
theorem aop_makeFunc (f : FuncId) (a b : List X) : aop C g m (.makeFunc f a b) = some (.fn f (a.map g) (b.map g), m) := Eq.trans rfl rfl

def convV (k : IntKind) (v : AV) : Option AV :=
  match v with
  | .int _ n => some (.int k (k.wrap n))
  | _ => none
theorem convV_int (k k' : IntKind) (n : Int) : convV k (.int k' n) = some (.int k (k.wrap n)) := Eq.trans rfl rfl
theorem aop_conv (k : IntKind) (x : X) : aop C g m (.conv k x) = valOf m (convV k (g x)) := aop_of_light rfl

def eqCellsV (ks : List Nat) (neg : Bool) (a b : AV) : Option AV :=
  match a, b with
  | .agg xs, .agg ys => (eqList ks xs ys).map fun b => .bool (if neg then !b else b)
  | _, _ => none
theorem eqCellsV_agg (ks : List Nat) (neg : Bool) (xs ys : List AV) : eqCellsV ks neg (.agg xs) (.agg ys) = (eqList ks xs ys).map fun b => .bool (if neg then !b else b) := Eq.trans rfl rfl
theorem aop_eqCells (ks : List Nat) (neg : Bool) (x y : X) : aop C g m (.eqCells ks neg x y) = valOf m (eqCellsV ks neg (g x) (g y)) := aop_of_light rfl

def fieldAddrV (off : Nat) (v : AV) : Option AV :=
  match v with
  | .ptr (some (b, o)) => some (.ptr (some (b, o + off)))
  | _ => none
theorem fieldAddrV_ptr (off b o : Nat) : fieldAddrV off (.ptr (some (b, o))) = some (.ptr (some (b, o + off))) := Eq.trans rfl rfl
theorem aop_fieldAddr (off : Nat) (x : X) : aop C g m (.fieldAddr off x) = valOf m (fieldAddrV off (g x)) := aop_of_light rfl

def fieldV (agg : Bool) (off sz : Nat) (v : AV) : Option AV :=
  match v with
  | .agg cs => part agg cs off sz
  | _ => none
theorem fieldV_agg (agg : Bool) (off sz : Nat) (cs : List AV) : fieldV agg off sz (.agg cs) = part agg cs off sz := Eq.trans rfl rfl
theorem aop_field (agg : Bool) (off sz : Nat) (x : X) : aop C g m (.field agg off sz x) = valOf m (fieldV agg off sz (g x)) := aop_of_light rfl

def indexAddrSV (sz : Nat) (v i : AV) : Option AV :=
  match v, i with
  | .slice (some (b, o)) sz' n _, .int _ i => if 0 ≤ i ∧ i < n ∧ sz' = sz then some (.ptr (some (b, o + i.toNat * sz))) else none
  | _, _ => none
theorem indexAddrSV_slice (sz b o sz' n : Nat) (c : Option Nat) (k : IntKind) (i : Int) : indexAddrSV sz (.slice (some (b, o)) sz' n c) (.int k i) = if 0 ≤ i ∧ i < n ∧ sz' = sz then some (.ptr (some (b, o + i.toNat * sz))) else none := Eq.trans rfl rfl
theorem aop_indexAddrS (sz : Nat) (x i : X) : aop C g m (.indexAddrS sz x i) = valOf m (indexAddrSV sz (g x) (g i)) := aop_of_light rfl

def indexAddrAV (n sz : Nat) (v i : AV) : Option AV :=
  match v, i with
  | .ptr (some (b, o)), .int _ i => if 0 ≤ i ∧ i < n then some (.ptr (some (b, o + i.toNat * sz))) else none
  | _, _ => none
theorem indexAddrAV_ptr (n sz b o : Nat) (k : IntKind) (i : Int) : indexAddrAV n sz (.ptr (some (b, o))) (.int k i) = if 0 ≤ i ∧ i < n then some (.ptr (some (b, o + i.toNat * sz))) else none := Eq.trans rfl rfl
theorem aop_indexAddrA (n sz : Nat) (x i : X) : aop C g m (.indexAddrA n sz x i) = valOf m (indexAddrAV n sz (g x) (g i)) := aop_of_light rfl

def indexAV (agg : Bool) (n sz : Nat) (v i : AV) : Option AV :=
  match v, i with
  | .agg cs, .int _ i => if 0 ≤ i ∧ i < n then part agg cs (i.toNat * sz) sz else none
  | _, _ => none
theorem indexAV_agg (agg : Bool) (n sz : Nat) (cs : List AV) (k : IntKind) (i : Int) : indexAV agg n sz (.agg cs) (.int k i) = if 0 ≤ i ∧ i < n then part agg cs (i.toNat * sz) sz else none := Eq.trans rfl rfl
theorem aop_indexA (agg : Bool) (n sz : Nat) (x i : X) : aop C g m (.indexA agg n sz x i) = valOf m (indexAV agg n sz (g x) (g i)) := aop_of_light rfl

def indexSV (v i : AV) : Option AV :=
  match v, i with
  | .str s, .int _ i => if 0 ≤ i then (s[i.toNat]?).map fun b => .int .u8 b.toNat else none
  | _, _ => none
theorem indexSV_str (s : ByteArray) (k : IntKind) (i : Int) : indexSV (.str s) (.int k i) = if 0 ≤ i then (s[i.toNat]?).map fun b => .int .u8 b.toNat else none := Eq.trans rfl rfl
theorem aop_indexS (x i : X) : aop C g m (.indexS x i) = valOf m (indexSV (g x) (g i)) := aop_of_light rfl

def extractV (i : Nat) (v : AV) : Option AV :=
  match v with
  | .tup vs => vs[i]?
  | _ => none
theorem extractV_tup (i : Nat) (vs : List AV) : extractV i (.tup vs) = vs[i]? := Eq.trans rfl rfl
theorem aop_extract (i : Nat) (x : X) : aop C g m (.extract i x) = valOf m (extractV i (g x)) := aop_of_light rfl

def lenV (v : AV) : Option AV :=
  match v with
  | .slice _ _ n _ => some (.int .i64 n)
  | _ => none
theorem lenV_slice (p : Option (Nat × Nat)) (sz n : Nat) (c : Option Nat) : lenV (.slice p sz n c) = some (.int .i64 n) := Eq.trans rfl rfl
theorem aop_len (x : X) : aop C g m (.len x) = valOf m (lenV (g x)) := aop_of_light rfl

def lenStrV (v : AV) : Option AV :=
  match v with
  | .str s => some (.int .i64 s.size)
  | _ => none
theorem lenStrV_str (s : ByteArray) : lenStrV (.str s) = some (.int .i64 s.size) := Eq.trans rfl rfl
theorem aop_lenStr (x : X) : aop C g m (.lenStr x) = valOf m (lenStrV (g x)) := aop_of_light rfl
theorem aop_lenA (n : Nat) : aop C g m (.lenA n) = some (.int .i64 n, m) := Eq.trans rfl rfl

def max2V (a b : AV) : Option AV :=
  match a, b with
  | .int k a, .int k' b => if k = k' then some (.int k (if b > a then b else a)) else none
  | _, _ => none
theorem max2V_int (k : IntKind) (a b : Int) : max2V (.int k a) (.int k b) = some (.int k (if b > a then b else a)) := by simp [max2V]
theorem aop_max2 (x y : X) : aop C g m (.max2 x y) = valOf m (max2V (g x) (g y)) := aop_of_light rfl
def min2V (a b : AV) : Option AV :=
  match a, b with
  | .int k a, .int k' b => if k = k' then some (.int k (if b < a then b else a)) else none
  | _, _ => none
theorem min2V_int (k : IntKind) (a b : Int) : min2V (.int k a) (.int k b) = some (.int k (if b < a then b else a)) := by simp [min2V]
theorem aop_min2 (x y : X) : aop C g m (.min2 x y) = valOf m (min2V (g x) (g y)) := aop_of_light rfl

theorem aop_build (zero : List AV) (parts : List (Nat × Nat × X)) : aop C g m (.build zero parts) = valOf m ((fillParts g zero parts).map .agg) := aop_of_light rfl
theorem aop_load (a : Bool) (sz : Nat) (x : X) : aop C g m (.load a sz x) = valOf m (loadAt m.H a sz (g x)) := aop_of_memop rfl
theorem aop_alloc (zero : List AV) : aop C g ⟨H, e⟩ (.alloc zero) = some (.ptr (some (H.length, 0)), ⟨H ++ [.cells zero true], e⟩) := Eq.trans rfl rfl

def boxV (H : List Blk) (e : Option Nat) (cs : Option (List AV)) : Option (AV × Mem) :=
  match cs with
  | some cs => some (.ptr (some (H.length, 0)), ⟨H ++ [.cells cs true], e⟩)
  | none => none
theorem boxV_some (cs : List AV) : boxV H e (some cs) = some (.ptr (some (H.length, 0)), ⟨H ++ [.cells cs true], e⟩) := Eq.trans rfl rfl
theorem aop_box (x : X) : aop C g ⟨H, e⟩ (.box x) = boxV H e (cellsOf (g x)) := by
  rw [aop_of_making rfl]
  have h : making g (.box x) = (cellsOf (g x)).map fun cs => (cs, fun b => .ptr (some (b, 0))) := rfl
  rw [h]
  cases cellsOf (g x) <;> rfl

def buildSliceV (H : List Blk) (e : Option Nat) (sz len : Nat) (cs : Option (List AV)) : Option (AV × Mem) :=
  match cs with
  | some cs => some (.slice (some (H.length, 0)) sz len (some len), ⟨H ++ [.cells cs true], e⟩)
  | none => none
theorem buildSliceV_some (sz len : Nat) (cs : List AV) : buildSliceV H e sz len (some cs) = some (.slice (some (H.length, 0)) sz len (some len), ⟨H ++ [.cells cs true], e⟩) := Eq.trans rfl rfl
theorem aop_buildSlice (sz len : Nat) (zero : List AV) (parts : List (Nat × Nat × X)) : aop C g ⟨H, e⟩ (.buildSlice sz len zero parts) = buildSliceV H e sz len (fillParts g zero parts) := by
  rw [aop_of_making rfl]
  have h : making g (.buildSlice sz len zero parts) = (fillParts g zero parts).map fun cs => (cs, fun b => .slice (some (b, 0)) sz len (some len)) := rfl
  rw [h]
  cases fillParts g zero parts <;> rfl

/-- a store -/
def storeV (H : List Blk) (e : Option Nat) (sz : Nat) (a x : AV) : Option (AV × Mem) :=
  match a, cellsOf x with
  | .ptr (some (b, o)), some new => match H[b]? with
    | some (.cells cs true) =>
      if new.length = sz ∧ 0 < sz ∧ o + sz ≤ cs.length then
        some (.tup [], ⟨H.set b (.cells (setRange cs o new) true), if (new.all fun v => v.under (b + 1)) then e else minEsc e b⟩)
      else none
    | _ => none
  | _, _ => none
theorem aop_store (sz : Nat) (a x : X) : aop C g ⟨H, e⟩ (.store sz a x) = storeV H e sz (g a) (g x) := by
  rw [aop_of_heavy rfl]; rfl

def callV (C : FuncId → List AV → Mem → Option (AV × Mem)) (f : AV) (args : List AV) (m : Mem) : Option (AV × Mem) :=
  match f with
  | .fn f first captured => C f (first ++ args ++ captured) m
  | _ => none
theorem callV_fn (f : FuncId) (first captured args : List AV) : callV C (.fn f first captured) args m = C f (first ++ args ++ captured) m := Eq.trans rfl rfl
theorem aop_call (f : X) (args : List X) : aop C g m (.call f args) = callV C (g f) (args.map g) m := by
  rw [aop_of_heavy rfl]
  rfl

def makeSliceV (H : List Blk) (e : Option Nat) (sz bytes : Nat) (zero : List AV) (len cap : AV) : Option (AV × Mem) :=
  match len, cap with
  | .int .i64 l, .int .i64 c => if 0 ≤ l ∧ l = c ∧ l * bytes ≤ maxBytes then
      some (.slice (some (H.length, 0)) sz l.toNat (some l.toNat), ⟨H ++ [.cells (zeros l.toNat zero) true], e⟩) else none
  | _, _ => none
theorem makeSliceV_int (sz bytes : Nat) (zero : List AV) (l c : Int) : makeSliceV H e sz bytes zero (.int .i64 l) (.int .i64 c) = if 0 ≤ l ∧ l = c ∧ l * bytes ≤ maxBytes then
      some (.slice (some (H.length, 0)) sz l.toNat (some l.toNat), ⟨H ++ [.cells (zeros l.toNat zero) true], e⟩) else none := rfl
theorem aop_makeSlice (sz bytes : Nat) (zero : List AV) (len cap : X) : aop C g ⟨H, e⟩ (.makeSlice sz bytes zero len cap) = makeSliceV H e sz bytes zero (g len) (g cap) := by
  rw [aop_of_heavy rfl]; rfl

def appendV (H : List Blk) (e : Option Nat) (str : Bool) (sz bytes : Nat) (s x : AV) : Option (AV × Mem) :=
  match s with
  | .slice none _ _ _ => match srcCells str H x with
    | some (n, cs) => if n = 0 then some (nilSlice, ⟨H, e⟩)
        else if n * bytes ≤ maxBytes ∧ cs.length = n * sz then some (.slice (some (H.length, 0)) sz n none, ⟨H ++ [.cells cs true], e⟩) else none
    | none => none
  | .slice (some (b, o)) sz' n cap => match H[b]?, srcCells str H x with
    | some (.cells old wr), some (k, cs) =>
      if sz' = sz ∧ (n + k) * bytes ≤ maxBytes ∧ cs.length = k * sz ∧ o + n * sz ≤ old.length then
        if cap = some 0 ∧ 0 < k then some (.slice (some (H.length, 0)) sz (n + k) none, ⟨H ++ [.cells cs true], e⟩)
        else if wr then some (.slice (some (H.length, 0)) sz (n + k) none, ⟨H.set b .dead ++ [.cells ((old.drop o).take (n * sz) ++ cs) true], e⟩)
        else none
      else none
    | _, _ => none
  | _ => none
theorem aop_append (str : Bool) (sz bytes : Nat) (s x : X) : aop C g ⟨H, e⟩ (.append str sz bytes s x) = appendV H e str sz bytes (g s) (g x) := by
  rw [aop_of_heavy rfl]; rfl

theorem binop_add (k : IntKind) (a b : Int) : binop 0 .add (.int k a) (.int k b) = some (.int k (k.wrap (a + b))) := by simp [binop, intOp]
theorem binop_sub (k : IntKind) (a b : Int) : binop 0 .sub (.int k a) (.int k b) = some (.int k (k.wrap (a - b))) := by simp [binop, intOp]
theorem binop_mul (k : IntKind) (a b : Int) : binop 0 .mul (.int k a) (.int k b) = some (.int k (k.wrap (a * b))) := by simp [binop, intOp]
theorem binop_quo (k : IntKind) (a b : Int) : binop 0 .quo (.int k a) (.int k b) = if b = 0 then none else some (.int k (k.wrap (a.tdiv b))) := by simp [binop, intOp]
theorem binop_rem (k : IntKind) (a b : Int) : binop 0 .rem (.int k a) (.int k b) = if b = 0 then none else some (.int k (a.tmod b)) := by simp [binop, intOp]
theorem binop_eql (k : IntKind) (a b : Int) : binop 0 .eql (.int k a) (.int k b) = some (.bool (decide (a = b))) := by simp [binop, intOp]
theorem binop_neq (k : IntKind) (a b : Int) : binop 0 .neq (.int k a) (.int k b) = some (.bool (!decide (a = b))) := by simp [binop, intOp]
theorem binop_lss (k : IntKind) (a b : Int) : binop 0 .lss (.int k a) (.int k b) = some (.bool (decide (a < b))) := by simp [binop, intOp]
theorem binop_leq (k : IntKind) (a b : Int) : binop 0 .leq (.int k a) (.int k b) = some (.bool (decide (a ≤ b))) := by simp [binop, intOp]
theorem binop_gtr (k : IntKind) (a b : Int) : binop 0 .gtr (.int k a) (.int k b) = some (.bool (decide (b < a))) := by simp [binop, intOp]
theorem binop_geq (k : IntKind) (a b : Int) : binop 0 .geq (.int k a) (.int k b) = some (.bool (decide (b ≤ a))) := by simp [binop, intOp]
def shlI (k : IntKind) (a b : Int) : Int := k.wrap (a * 2 ^ (min b.toNat k.bits))
def shrI (k : IntKind) (a b : Int) : Int := a.fdiv (2 ^ (min b.toNat k.bits))
def andI (k : IntKind) (a b : Int) : Int := k.wrap (BitVec.ofInt k.bits a &&& BitVec.ofInt k.bits b).toNat
def orI (k : IntKind) (a b : Int) : Int := k.wrap (BitVec.ofInt k.bits a ||| BitVec.ofInt k.bits b).toNat
def xorI (k : IntKind) (a b : Int) : Int := k.wrap (BitVec.ofInt k.bits a ^^^ BitVec.ofInt k.bits b).toNat
def andNotI (k : IntKind) (a b : Int) : Int := k.wrap (BitVec.ofInt k.bits a &&& ~~~BitVec.ofInt k.bits b).toNat
theorem binop_shl (k k' : IntKind) (a b : Int) : binop 0 .shl (.int k a) (.int k' b) = if b < 0 then none else some (.int k (shlI k a b)) := by simp [binop, intOp, shlI]
theorem binop_shr (k k' : IntKind) (a b : Int) : binop 0 .shr (.int k a) (.int k' b) = if b < 0 then none else some (.int k (shrI k a b)) := by simp [binop, intOp, shrI]
theorem binop_band (k : IntKind) (a b : Int) : binop 0 .and (.int k a) (.int k b) = some (.int k (andI k a b)) := by simp [binop, intOp, andI]
theorem binop_bor (k : IntKind) (a b : Int) : binop 0 .or (.int k a) (.int k b) = some (.int k (orI k a b)) := by simp [binop, intOp, orI]
theorem binop_bxor (k : IntKind) (a b : Int) : binop 0 .xor (.int k a) (.int k b) = some (.int k (xorI k a b)) := by simp [binop, intOp, xorI]
theorem binop_bandnot (k : IntKind) (a b : Int) : binop 0 .andNot (.int k a) (.int k b) = some (.int k (andNotI k a b)) := by simp [binop, intOp, andNotI]
theorem binop_beql (a b : Bool) : binop 2 .eql (.bool a) (.bool b) = some (.bool (a == b)) := Eq.trans rfl rfl
theorem binop_bneq (a b : Bool) : binop 2 .neq (.bool a) (.bool b) = some (.bool (!(a == b))) := Eq.trans rfl rfl
theorem binop_seql (a b : ByteArray) : binop 1 .eql (.str a) (.str b) = some (.bool (decide (a = b))) := Eq.trans rfl rfl
theorem binop_sneq (a b : ByteArray) : binop 1 .neq (.str a) (.str b) = some (.bool (!decide (a = b))) := Eq.trans rfl rfl
theorem unop_neg (k : IntKind) (n : Int) : unop .neg (.int k n) = some (.int k (k.wrap (0 - n))) := Eq.trans rfl rfl
theorem unop_not (b : Bool) : unop .not (.bool b) = some (.bool !b) := Eq.trans rfl rfl

theorem setOuts_nil : setOuts tm loc [] = tm := Eq.trans rfl rfl
theorem setOuts_cons (s j : Nat) (rest : List (Nat × Nat)) : setOuts tm loc ((s, j) :: rest) = setOuts (tm.set s ((loc[j]?).getD .undef)) loc rest := Eq.trans rfl rfl

/-! memory -/
theorem cellsAt_new0 (l : List Blk) : cellsAt (H ++ l) H.length = cellsAt l 0 := by simp [cellsAt, List.getElem?_append_right]
theorem cellsAt_newk (l : List Blk) (k : Nat) : cellsAt (H ++ l) (H.length + k) = cellsAt l k := by simp [cellsAt, List.getElem?_append_right]
theorem cellsAt_cons0 (cs : List AV) (wr : Bool) (l : List Blk) : cellsAt (.cells cs wr :: l) 0 = some cs := Eq.trans rfl rfl
theorem cellsAt_consk (b : Blk) (l : List Blk) (k : Nat) : cellsAt (b :: l) (k + 1) = cellsAt l k := Eq.trans rfl rfl
theorem cellsAt_old {b : Nat} {cs : List AV} (l : List Blk) (h : cellsAt H b = some cs) : cellsAt (H ++ l) b = some cs := by
  unfold cellsAt at *
  cases hb : H[b]? with
  | none => rw [hb] at h; cases h
  | some x =>
    have hlt := (List.getElem?_eq_some_iff.mp hb).1
    rw [List.getElem?_append_left hlt, hb]
    rw [hb] at h
    exact h

def partOf (agg : Bool) (cs : Option (List AV)) (o sz : Nat) : Option AV :=
  match cs with
  | some cs => part agg cs o sz
  | none => none
theorem partOf_some (agg : Bool) (cs : List AV) (o sz : Nat) : partOf agg (some cs) o sz = part agg cs o sz := Eq.trans rfl rfl
theorem loadAt_ptr (agg : Bool) (sz b o : Nat) (L : List Blk) : loadAt L agg sz (.ptr (some (b, o))) = partOf agg (cellsAt L b) o sz := by
  have h : loadAt L agg sz (.ptr (some (b, o))) = match cellsAt L b with
    | none => none
    | some cs => if agg then (if o + sz ≤ cs.length then some (.agg ((cs.drop o).take sz)) else none) else cs[o]? := rfl
  rw [h]
  cases cellsAt L b <;> rfl
theorem part_false (cs : List AV) (o sz : Nat) : part false cs o sz = cs[o]? := Eq.trans rfl rfl
theorem part_true (cs : List AV) (o sz : Nat) : part true cs o sz = if o + sz ≤ cs.length then some (.agg ((cs.drop o).take sz)) else none := Eq.trans rfl rfl
theorem part_f0 (c : AV) (cs : List AV) (sz : Nat) : part false (c :: cs) 0 sz = some c := Eq.trans rfl rfl
theorem part_fk (c : AV) (cs : List AV) (k sz : Nat) : part false (c :: cs) (k + 1) sz = part false cs k sz := Eq.trans rfl rfl
theorem part_t0 (c : AV) (cs : List AV) (sz : Nat) : part true (c :: cs) 0 sz = if sz ≤ cs.length + 1 then some (.agg ((c :: cs).take sz)) else none := by
  rw [part_true]; simp
theorem part_tk (c : AV) (cs : List AV) (k sz : Nat) : part true (c :: cs) (k + 1) sz = part true cs k sz := by
  rw [part_true, part_true]
  have : (k + 1 + sz ≤ (c :: cs).length) ↔ (k + sz ≤ cs.length) := by simp; omega
  simp only [this, List.drop_succ_cons]

theorem cellsOf_agg (cs : List AV) : cellsOf (.agg cs) = some cs := Eq.trans rfl rfl
theorem cellsOf_int (k : IntKind) (n : Int) : cellsOf (.int k n) = some [.int k n] := Eq.trans rfl rfl
theorem cellsOf_bool (b : Bool) : cellsOf (.bool b) = some [.bool b] := Eq.trans rfl rfl
theorem cellsOf_str (s : ByteArray) : cellsOf (.str s) = some [.str s] := Eq.trans rfl rfl
theorem cellsOf_ptr (p : Option (Nat × Nat)) : cellsOf (.ptr p) = some [.ptr p] := Eq.trans rfl rfl
theorem cellsOf_slice (p : Option (Nat × Nat)) (sz n : Nat) (c : Option Nat) : cellsOf (.slice p sz n c) = some [.slice p sz n c] := Eq.trans rfl rfl
theorem cellsOf_fn (f : FuncId) (a b : List AV) : cellsOf (.fn f a b) = some [.fn f a b] := Eq.trans rfl rfl

/-! two ways that meet again -/
theorem merge_normal (c : Prop) [Decidable c] (t t' : List AV) (m : Mem) : (if c then some (Ex.normal, (⟨t, m⟩ : St)) else some (Ex.normal, ⟨t', m⟩)) = some (Ex.normal, ⟨if c then t else t', m⟩) := by split <;> rfl
theorem merge_cons (c : Prop) [Decidable c] (a b : AV) (az bs : List AV) : (if c then a :: az else b :: bs) = (if c then a else b) :: (if c then az else bs) := by split <;> rfl
theorem merge_bool (c : Prop) [Decidable c] (a b : Bool) : (if c then AV.bool a else AV.bool b) = AV.bool (if c then a else b) := by split <;> rfl
theorem merge_int (c : Prop) [Decidable c] (k : IntKind) (a b : Int) : (if c then AV.int k a else AV.int k b) = AV.int k (if c then a else b) := by split <;> rfl

/-! the end of a call -/
theorem finRun_eq (F : AFun) (m : Mem) (st : St) : finRun F m st = match resultList st.tm st.m.H F.results with
  | some vs => finish F.mode m.H.length m.esc (tupled vs) st.m
  | none => none := rfl
theorem resultList_nil (L : List Blk) : resultList tm L [] = some [] := Eq.trans rfl rfl
def consV (a : Option AV) (az : Option (List AV)) : Option (List AV) :=
  match a, az with
  | some v, some vs => some (v :: vs)
  | _, _ => none
theorem consV_some (v : AV) (vs : List AV) : consV (some v) (some vs) = some (v :: vs) := Eq.trans rfl rfl
theorem resultList_tmp (L : List Blk) (s : Nat) (rs : List AR) : resultList tm L (.tmp s :: rs) = consV (some ((tm[s]?).getD .undef)) (resultList tm L rs) := by
  rw [resultList]; cases resultList tm L rs <;> rfl
theorem resultList_cell (L : List Blk) (s : Nat) (agg : Bool) (sz : Nat) (rs : List AR) : resultList tm L (.cell s agg sz :: rs) = consV (loadAt L agg sz ((tm[s]?).getD .undef)) (resultList tm L rs) := by
  rw [resultList]; cases resultList tm L rs <;> simp only [resultOf] <;> cases loadAt L agg sz ((tm[s]?).getD .undef) <;> rfl

def finV (F : AFun) (m : Mem) (vs : Option (List AV)) (m' : Mem) : Option (AV × Mem) :=
  match vs with
  | some vs => finish F.mode m.H.length m.esc (tupled vs) m'
  | none => none
theorem finRun_finV (F : AFun) (m : Mem) (st : St) : finRun F m st = finV F m (resultList st.tm st.m.H F.results) st.m := Eq.trans rfl rfl
theorem finV_some (F : AFun) (m : Mem) (vs : List AV) (m' : Mem) : finV F m (some vs) m' = finish F.mode m.H.length m.esc (tupled vs) m' := Eq.trans rfl rfl
theorem finish_zero (v : AV) (lim : Nat) (e0 e1 : Option Nat) (L : List Blk) : finish 0 lim e0 v ⟨L, e1⟩ = some (v, ⟨L, joinEsc e0 e1⟩) := Eq.trans rfl rfl
theorem finish_one (v : AV) (e0 : Option Nat) (l : List Blk) (h : v.under H.length = true) : finish 1 H.length e0 v ⟨H ++ l, none⟩ = some (v, ⟨H, e0⟩) := by
  simp [finish, h, clean]
theorem finish_one' (v : AV) (e0 : Option Nat) (h : v.under H.length = true) : finish 1 H.length e0 v ⟨H, none⟩ = some (v, ⟨H, e0⟩) := by
  simp [finish, h, clean]
/-- a new block, named by the result -/
theorem finish_two_slice (sz n : Nat) (c : Option Nat) (cs : List AV) (wr : Bool) (e0 : Option Nat) (h : (cs.all fun c => c.under H.length) = true) :
    finish 2 H.length e0 (.slice (some (H.length, 0)) sz n c) ⟨H ++ [.cells cs wr], none⟩ = some (.slice (some (H.length, 0)) sz n c, ⟨H ++ [.cells cs wr], e0⟩) := by
  have hr : dedup (AV.roots H.length (.slice (some (H.length, 0)) sz n c)) = [H.length] := by simp [AV.roots, dedup]
  unfold finish
  simp only [hr]
  have h2 : ([H.length].all fun b => flatBlk H.length (H ++ [Blk.cells cs wr])[b]?) = true := by
    simp [flatBlk, List.getElem?_append_right]
    simpa using h
  simp only [clean, h2, and_self, if_true]
  simp [AV.rename, renum, List.getElem?_append_right]
theorem finish_two_at {G : List Blk} {j sz n o : Nat} {c : Option Nat} {cs : List AV} {wr : Bool} (e0 : Option Nat) (hG : G[j]? = some (.cells cs wr)) (h : (cs.all fun c => c.under H.length) = true) :
    finish 2 H.length e0 (.slice (some (H.length + j, o)) sz n c) ⟨H ++ G, none⟩ = some (.slice (some (H.length, o)) sz n c, ⟨H ++ [.cells cs wr], e0⟩) := by
  have hlt : ¬ H.length + j < H.length := by omega
  have hr : dedup (AV.roots H.length (.slice (some (H.length + j, o)) sz n c)) = [H.length + j] := by
    unfold AV.roots
    rw [if_neg hlt]
    rfl
  have hb : (H ++ G)[H.length + j]? = some (.cells cs wr) := by rw [List.getElem?_append_right (by omega)]; simpa using hG
  unfold finish
  simp only [hr]
  have h2 : ([H.length + j].all fun b => flatBlk H.length (H ++ G)[b]?) = true := by
    simp only [List.all_cons, List.all_nil, Bool.and_true, hb, flatBlk]
    exact h
  simp only [clean, h2, and_self, if_true]
  simp [AV.rename, renum, hb, hlt]
theorem tupled_one (v : AV) : tupled [v] = v := Eq.trans rfl rfl
theorem tupled_nil : tupled [] = .tup [] := Eq.trans rfl rfl
theorem tupled_two (a b : AV) (vs : List AV) : tupled (a :: b :: vs) = .tup (a :: b :: vs) := Eq.trans rfl rfl
theorem under_int (n : Nat) (k : IntKind) (x : Int) : (AV.int k x).under n = true := by simp [AV.under]
theorem under_bool (n : Nat) (x : Bool) : (AV.bool x).under n = true := by simp [AV.under]
theorem under_str (n : Nat) (x : ByteArray) : (AV.str x).under n = true := by simp [AV.under]
theorem under_agg (n : Nat) (x : List AV) : (AV.agg x).under n = AV.under.go n x := by simp [AV.under]
theorem under_tup (n : Nat) (x : List AV) : (AV.tup x).under n = AV.under.go n x := by simp [AV.under]
theorem under_cons (n : Nat) (a : AV) (x : List AV) : AV.under.go n (a :: x) = (a.under n && AV.under.go n x) := Eq.trans rfl rfl
theorem under_nil (n : Nat) : AV.under.go n [] = true := Eq.trans rfl rfl

theorem blkAt_new0 (l : List Blk) : (H ++ l)[H.length]? = l[0]? := by simp [List.getElem?_append_right]
theorem blkAt_newk (l : List Blk) (k : Nat) : (H ++ l)[H.length + k]? = l[k]? := by simp [List.getElem?_append_right]
theorem set_new0 (l : List Blk) (b : Blk) : (H ++ l).set H.length b = H ++ l.set 0 b := by simp [List.set_append_right]
theorem set_newk (l : List Blk) (b : Blk) (k : Nat) : (H ++ l).set (H.length + k) b = H ++ l.set k b := by simp [List.set_append_right]

/-- a store whose block and cells are told -/
def storeAt (H : List Blk) (e : Option Nat) (b : Nat) (blk : Option Blk) (sz o : Nat) (new : Option (List AV)) : Option (AV × Mem) :=
  match new, blk with
  | some new, some (Blk.cells cs true) => if new.length = sz ∧ 0 < sz ∧ o + sz ≤ cs.length then
        some (.tup [], ⟨H.set b (.cells (setRange cs o new) true), if (new.all fun v => v.under (b + 1)) then e else minEsc e b⟩) else none
  | _, _ => none
theorem storeV_ptr (L : List Blk) (sz b o : Nat) (x : AV) : storeV L e sz (.ptr (some (b, o))) x = storeAt L e b L[b]? sz o (cellsOf x) := by
  unfold storeV storeAt
  cases cellsOf x with
  | none => rfl
  | some new =>
    simp only []
    cases L[b]? with
    | none => rfl
    | some B => cases B with
      | dead => rfl
      | mp es => rfl
      | cells cs wr => cases wr <;> rfl
theorem storeAt_cells (L : List Blk) (b : Nat) (cs new : List AV) (sz o : Nat) : storeAt L e b (some (.cells cs true)) sz o (some new) =
    if new.length = sz ∧ 0 < sz ∧ o + sz ≤ cs.length then some (.tup [], ⟨L.set b (.cells (setRange cs o new) true), if (new.all fun v => v.under (b + 1)) then e else minEsc e b⟩) else none := Eq.trans rfl rfl
theorem setRange_0 (c : AV) (cs : List AV) (x : AV) (xs : List AV) : setRange (c :: cs) 0 (x :: xs) = x :: setRange cs 0 xs := by simp [setRange]
theorem setRange_k (c : AV) (cs : List AV) (k : Nat) (xs : List AV) : setRange (c :: cs) (k + 1) xs = c :: setRange cs k xs := by
  simp [setRange, Nat.add_right_comm]
theorem setRange_nil (cs : List AV) : setRange cs 0 [] = cs := by simp [setRange]
theorem all_cons (p : AV → Bool) (c : AV) (cs : List AV) : (c :: cs).all p = (p c && cs.all p) := rfl
theorem all_nil (p : AV → Bool) : ([] : List AV).all p = true := Eq.trans rfl rfl

theorem wrap64 {x : Int} (h1 : -9223372036854775808 ≤ x) (h2 : x ≤ 9223372036854775807) : IntKind.i64.wrap x = x := by
  have : IntKind.i64.wrap x = x := by
    unfold IntKind.wrap
    simp [IntKind.signed, IntKind.bits]
    omega
  exact this

/-! maps -/
def mapAt (H : List Blk) (b : Nat) : Option (List (List Int × Int)) :=
  match H[b]? with
  | some (.mp es) => some es
  | _ => none
def getV (ok : Bool) (es : Option (List (List Int × Int))) (z : Option (List Int)) : Option AV :=
  match es, z with
  | some es, some z => some (if ok then .tup [.int .i64 ((mget es z).getD 0), .bool (mget es z).isSome] else .int .i64 ((mget es z).getD 0))
  | _, _ => none
theorem getV_some (ok : Bool) (es : List (List Int × Int)) (z : List Int) : getV ok (some es) (some z) = some (if ok then .tup [.int .i64 ((mget es z).getD 0), .bool (mget es z).isSome] else .int .i64 ((mget es z).getD 0)) := Eq.trans rfl rfl
def getMapV (H : List Blk) (ok : Bool) (v k : AV) : Option AV :=
  match v with
  | .map (some b) => getV ok (mapAt H b) (keyZ k)
  | _ => none
theorem getMapV_map (L : List Blk) (ok : Bool) (b : Nat) (k : AV) : getMapV L ok (.map (some b)) k = getV ok (mapAt L b) (keyZ k) := Eq.trans rfl rfl
theorem memop_getMap (L : List Blk) (ok : Bool) (x k : X) : memop g L (.getMap ok x k) = getMapV L ok (g x) (g k) := by
  simp only [memop, getMapV, mapAt]
  generalize g x = v
  generalize keyZ (g k) = z
  cases v with
  | map p =>
    cases p with
    | none => rfl
    | some b =>
      cases z with
      | none => simp only [getV]; cases L[b]? with
        | none => rfl
        | some B => cases B <;> rfl
      | some z => simp only []; cases L[b]? with
        | none => rfl
        | some B => cases B <;> rfl
  | _ => rfl
def lenMapV (H : List Blk) (v : AV) : Option AV :=
  match v with
  | .map (some b) => (mapAt H b).map fun es => .int .i64 es.length
  | _ => none
theorem lenMapV_map (L : List Blk) (b : Nat) : lenMapV L (.map (some b)) = (mapAt L b).map fun es => .int .i64 es.length := Eq.trans rfl rfl
theorem memop_lenMap (L : List Blk) (x : X) : memop g L (.lenMap x) = lenMapV L (g x) := by
  simp only [memop, lenMapV, mapAt]
  generalize g x = v
  cases v with
  | map p =>
    cases p with
    | none => rfl
    | some b => simp only []; cases L[b]? with
      | none => rfl
      | some B => cases B <;> rfl
  | _ => rfl
def putV (H : List Blk) (e : Option Nat) (b : Nat) (es : Option (List (List Int × Int))) (z : Option (List Int)) (v : AV) : Option (AV × Mem) :=
  match es, z, v with
  | some es, some z, .int .i64 n => some (.tup [], ⟨H.set b (.mp (mput es z n)), e⟩)
  | _, _, _ => none
theorem putV_some (L : List Blk) (b : Nat) (es : List (List Int × Int)) (z : List Int) (n : Int) : putV L e b (some es) (some z) (.int .i64 n) = some (.tup [], ⟨L.set b (.mp (mput es z n)), e⟩) := Eq.trans rfl rfl
def putMapV (H : List Blk) (e : Option Nat) (x k v : AV) : Option (AV × Mem) :=
  match x with
  | .map (some b) => putV H e b (mapAt H b) (keyZ k) v
  | _ => none
theorem putMapV_map (L : List Blk) (b : Nat) (k v : AV) : putMapV L e (.map (some b)) k v = putV L e b (mapAt L b) (keyZ k) v := Eq.trans rfl rfl
theorem heavy_putMap (x k v : X) : heavy C g ⟨H, e⟩ (.putMap x k v) = putMapV H e (g x) (g k) (g v) := by
  simp only [heavy, putMapV, mapAt]
  generalize g x = a
  generalize keyZ (g k) = z
  generalize g v = y
  cases a with
  | map p =>
    cases p with
    | none => rfl
    | some b =>
      simp only [putV]
      cases z with
      | none => simp only []; cases H[b]? with
        | none => rfl
        | some B => cases B <;> rfl
      | some z =>
        cases y with
        | int kk n => cases kk with
          | i64 => simp only []; cases H[b]? with
            | none => rfl
            | some B => cases B <;> rfl
          | _ => simp only []; cases H[b]? with
            | none => rfl
            | some B => cases B <;> rfl
        | _ => simp only []; cases H[b]? with
          | none => rfl
          | some B => cases B <;> rfl
  | _ => rfl
theorem aop_newMap : aop C g ⟨H, e⟩ .newMap = some (.map (some H.length), ⟨H ++ [.mp []], e⟩) := by
  rw [aop_of_heavy rfl]; rfl
theorem aop_getMap (ok : Bool) (x k : X) : aop C g m (.getMap ok x k) = valOf m (getMapV m.H ok (g x) (g k)) := by
  rw [aop_of_memop rfl, memop_getMap]
theorem aop_lenMap (x : X) : aop C g m (.lenMap x) = valOf m (lenMapV m.H (g x)) := by
  rw [aop_of_memop rfl, memop_lenMap]
theorem aop_putMap (x k v : X) : aop C g ⟨H, e⟩ (.putMap x k v) = putMapV H e (g x) (g k) (g v) := by
  rw [aop_of_heavy rfl, heavy_putMap]
theorem keyZ_three {a b c : Int} (ha : in64 a = true) (hb : in64 b = true) (hc : in64 c = true) : keyZ (.agg [.int .i64 a, .int .i64 b, .int .i64 c]) = some [a, b, c] := by
  simp [keyZ, intsL, ha, hb, hc]
theorem mapAt_of {L : List Blk} {b : Nat} {es : List (List Int × Int)} (h : L[b]? = some (.mp es)) : mapAt L b = some es := by
  unfold mapAt; rw [h]
theorem mapAt_new0 (l : List Blk) : mapAt (H ++ l) H.length = mapAt l 0 := by simp [mapAt, List.getElem?_append_right]
theorem mapAt_newk (l : List Blk) (k : Nat) : mapAt (H ++ l) (H.length + k) = mapAt l k := by simp [mapAt, List.getElem?_append_right]
theorem mapAt_cons0 (es : List (List Int × Int)) (l : List Blk) : mapAt (.mp es :: l) 0 = some es := Eq.trans rfl rfl
theorem mapAt_consk (b : Blk) (l : List Blk) (k : Nat) : mapAt (b :: l) (k + 1) = mapAt l k := Eq.trans rfl rfl
end
attribute [go_sem] aop_newMap aop_getMap getMapV_map getV_some aop_lenMap lenMapV_map aop_putMap putMapV_map putV_some memop_getMap memop_lenMap mapAt_new0 mapAt_newk mapAt_cons0 mapAt_consk
attribute [go_sem] Nat.mul_one
attribute [go_sem] run_seq run_cond run_block run_region run_draw run_skip run_exit run_ret thenRun_normal thenRun_ret thenRun_exit thenRun_none thenRun_ite inBlock_normal inBlock_ret inBlock_exit inBlock_none inBlock_ite condOf_bool pickRun_some outRun_some outRun_none outRun_ite endCall_normal endCall_ret endCall_exit endCall_none endCall_ite aops_nil aops_cons aops_guard opThen_some opThen_none opThen_ite guardP_true guardP_false guardP_some guardP_ite guardThen_some guardThen_ite guardOf_true guardOf_false guardOf_tup dops_nil dops_cons dops_again dops_guard dops_guard_again toldAnew_nil toldAnew_cons toldAnew_guard memop_load get_t get_l get_c valOf_some valOf_none valOf_ite aop_mv aop_bin pickV_bool aop_pick aop_un aop_makeFunc convV_int aop_conv eqCellsV_agg aop_eqCells fieldAddrV_ptr aop_fieldAddr fieldV_agg aop_field indexAddrSV_slice aop_indexAddrS indexAddrAV_ptr aop_indexAddrA indexAV_agg aop_indexA indexSV_str aop_indexS extractV_tup aop_extract lenV_slice aop_len lenStrV_str aop_lenStr aop_lenA max2V_int aop_max2 min2V_int aop_min2 aop_build aop_load aop_alloc boxV_some aop_box buildSliceV_some aop_buildSlice aop_store callV_fn aop_call makeSliceV_int aop_makeSlice aop_append binop_add binop_sub binop_mul binop_quo binop_rem binop_eql binop_neq binop_lss binop_leq binop_gtr binop_geq binop_shl binop_shr binop_band binop_bor binop_bxor binop_bandnot binop_beql binop_bneq binop_seql binop_sneq unop_neg unop_not setOuts_nil setOuts_cons cellsAt_new0 cellsAt_newk cellsAt_cons0 cellsAt_consk partOf_some loadAt_ptr part_f0 part_fk part_t0 part_tk blkAt_new0 blkAt_newk set_new0 set_newk storeV_ptr storeAt_cells setRange_0 setRange_k setRange_nil all_cons all_nil cellsOf_agg cellsOf_int cellsOf_bool cellsOf_str cellsOf_ptr cellsOf_slice cellsOf_fn merge_normal merge_cons merge_bool merge_int resultList_nil consV_some resultList_tmp resultList_cell finRun_finV finV_some finish_zero finish_one finish_one' finish_two_slice tupled_one tupled_nil tupled_two under_int under_bool under_str under_agg under_tup under_cons under_nil List.map_cons List.map_nil List.getElem?_cons_zero List.getElem?_cons_succ List.getElem?_nil Option.getD_some Option.getD_none List.nil_append List.cons_append List.append_nil List.append_assoc List.set_cons_zero List.set_cons_succ List.length_cons List.length_nil List.length_append Nat.zero_add Nat.add_zero List.take_succ_cons List.take_zero List.drop_succ_cons List.drop_zero if_true if_false Bool.not_true Bool.not_false Bool.true_eq_false Bool.false_and Bool.and_false Bool.or_true Bool.or_false Bool.true_or Bool.false_or Nat.lt_add_one Nat.succ_pos Bool.if_false_right Bool.if_true_left Bool.if_true_right Bool.if_false_left Bool.decide_eq_true Int.toNat_natCast Int.natCast_nonneg Int.ofNat_lt ite_self Bool.true_and Bool.and_true Bool.false_eq_true Bool.not_eq_true' decide_eq_true_eq true_and and_true Option.map_some Option.map_none

end Go.Proofs.Ythkgpblohjpcdaa.Slim

/- Rows of loads: how they lie in memory, and the laws' own small functions. -/
namespace Go.Proofs.Ythkgpblohjpcdaa.Slim
open Go
set_option linter.unusedSimpArgs false
set_option linter.unusedVariables false

/-- a load: its place and its weight -/
abbrev Ld := Int × Int
def encL : List Ld → List AV
  | [] => []
  | l :: ls => .int .i64 l.1 :: .int .i64 l.2 :: encL ls

theorem encL_length : ∀ ls : List Ld, (encL ls).length = ls.length * 2
  | [] => rfl
  | l :: ls => by simp [encL, encL_length ls]; omega

theorem encL_append : ∀ a b : List Ld, encL (a ++ b) = encL a ++ encL b
  | [], b => rfl
  | l :: a, b => by simp [encL, encL_append a b]

theorem part_encL {ls : List Ld} {i : Nat} {l : Ld} (h : ls[i]? = some l) : part true (encL ls) (i * 2) 2 = some (.agg [.int .i64 l.1, .int .i64 l.2]) := by
  induction ls generalizing i with
  | nil => simp at h
  | cons a ls ih =>
    cases i with
    | zero => simp at h; subst h; simp [encL, part]
    | succ i =>
      simp at h
      rw [show (i + 1) * 2 = i * 2 + 1 + 1 by omega, encL, part_tk, part_tk]
      exact ih h
theorem part_encL0 {ls : List Ld} {i : Nat} {l : Ld} (sz : Nat) (h : ls[i]? = some l) : part false (encL ls) (i * 2) sz = some (.int .i64 l.1) := by
  induction ls generalizing i with
  | nil => simp at h
  | cons a ls ih =>
    cases i with
    | zero => simp at h; subst h; simp [encL, part]
    | succ i =>
      simp at h
      rw [show (i + 1) * 2 = i * 2 + 1 + 1 by omega, encL, part_fk, part_fk]
      exact ih h
theorem part_encL1 {ls : List Ld} {i : Nat} {l : Ld} (sz : Nat) (h : ls[i]? = some l) : part false (encL ls) (i * 2 + 1) sz = some (.int .i64 l.2) := by
  induction ls generalizing i with
  | nil => simp at h
  | cons a ls ih =>
    cases i with
    | zero => simp at h; subst h; simp [encL, part]
    | succ i =>
      simp at h
      rw [show (i + 1) * 2 + 1 = i * 2 + 1 + 1 + 1 by omega, encL, part_fk, part_fk]
      exact ih h

/-- a slice of loads, wherever it lies -/
abbrev slL (b n : Nat) (c : Option Nat) : AV := .slice (some (b, 0)) 2 n c

theorem cells_mono {H : List Blk} {b : Nat} {cs : List AV} (h : cellsAt H b = some cs) (G : List Blk) : cellsAt (H ++ G) b = some cs := cellsAt_old G h

theorem wrap_succ {i : Nat} (h : i < 9223372036854775807) : IntKind.i64.wrap ((i : Int) + 1) = ((i + 1 : Nat) : Int) := by
  rw [wrap64 (by omega) (by omega)]; omega

variable {pr : Prims} {H : List Blk} {e : Option Nat}

theorem e_l_toBeam (x a b : Int) : call T pr f_l_toBeam [.agg [.int .i64 x, .int .i64 a, .int .i64 b]] ⟨H, e⟩ = some (.agg [.int .i64 x, .int .i64 a, .int .i64 b], ⟨H, e⟩) := by
  rw [call_eq t_l_toBeam]
  simp +contextual only [a_l_toBeam, c_l_toBeam, go_sem, entry, joinEsc, if_pos, reduceIte, Nat.reduceAdd, Nat.reduceLeDiff, Nat.reduceLT, Nat.reduceEqDiff]

theorem e_l_toLoad (x a : Int) : call T pr f_l_toLoad [.agg [.int .i64 x, .int .i64 a]] ⟨H, e⟩ = some (.agg [.int .i64 x, .int .i64 a], ⟨H, e⟩) := by
  rw [call_eq t_l_toLoad]
  simp +contextual only [a_l_toLoad, c_l_toLoad, go_sem, entry, joinEsc, if_pos, reduceIte, Nat.reduceAdd, Nat.reduceLeDiff, Nat.reduceLT, Nat.reduceEqDiff]

theorem e_l_eqLoad (x a y b : Int) : call T pr f_l_eqLoad [.agg [.int .i64 x, .int .i64 a], .agg [.int .i64 y, .int .i64 b]] ⟨H, e⟩ = some (.bool (decide (x = y) && decide (a = b)), ⟨H, e⟩) := by
  rw [call_eq t_l_eqLoad]
  simp +contextual only [a_l_eqLoad, c_l_eqLoad, go_sem, entry, joinEsc, if_pos, reduceIte, Nat.reduceAdd, Nat.reduceLeDiff, Nat.reduceLT, Nat.reduceEqDiff]
  by_cases h1 : x = y <;> by_cases h2 : a = b <;> simp [h1, h2]

theorem e_l_szLoadS (n : Nat) (p : Option (Nat × Nat)) (sz : Nat) (c : Option Nat) (hn : n ≤ maxLen) : call T pr f_l_szLoadS [.slice p sz n c, .int .i64 1048576] ⟨H, e⟩ = some (.int .i64 (if n ≤ 1048576 then 1048576 - n else -1), ⟨H, e⟩) := by
  rw [call_eq t_l_szLoadS]
  have hm : maxLen = 9223372036854775807 := by decide
  simp +contextual only [a_l_szLoadS, c_l_szLoadS, go_sem, entry, joinEsc, if_pos, reduceIte, Nat.reduceAdd, Nat.reduceLeDiff, Nat.reduceLT, Nat.reduceEqDiff]
  rw [wrap64 (by omega) (by omega)]
  by_cases h1 : n ≤ 1048576
  · rw [if_neg (by omega), if_pos h1]
  · rw [if_pos (by omega), if_neg h1]

/-- the loop of eqLoadS -/
theorem loop_l_eqLoadS {b1 b2 : Nat} {c1 c2 : Option Nat} {ls : List Ld} (h1 : cellsAt H b1 = some (encL ls)) (h2 : cellsAt H b2 = some (encL ls)) (hn : ls.length ≤ 9223372036854775806) :
    ∀ (k i : Nat) (x5 x6 x7 : AV), k + i = ls.length → ∃ y5 y6, run T pr (.loop w_l_eqLoadS_1) ⟨[slL b1 ls.length c1, slL b2 ls.length c2, .bool false, .int .i64 i, x7, x5, x6], ⟨H, e⟩⟩ =
      some (.exit 0, ⟨[slL b1 ls.length c1, slL b2 ls.length c2, .bool false, .int .i64 ls.length, x7, y5, y6], ⟨H, e⟩⟩)
  | 0, i, x5, x6, x7, hk => by
    have hi : i = ls.length := by omega
    subst hi
    refine ⟨.bool false, x6, ?_⟩
    rw [run_loop]
    simp +contextual only [w_l_eqLoadS_1, Nat.lt_irrefl, decide_false, go_sem, entry, joinEsc, if_pos, reduceIte, Nat.reduceAdd, Nat.reduceLeDiff, Nat.reduceLT, Nat.reduceEqDiff]
  | k + 1, i, x5, x6, x7, hk => by
    have hi : i < ls.length := by omega
    obtain ⟨y5, y6, ih⟩ := loop_l_eqLoadS (c1 := c1) (c2 := c2) h1 h2 hn k (i + 1) (.bool true) (.bool false) x7 (by omega)
    refine ⟨y5, y6, ?_⟩
    rw [run_loop]
    have hl : ls[i]? = some ls[i] := List.getElem?_eq_getElem hi
    simp +contextual only [w_l_eqLoadS_1, h1, h2, hi, hl, part_encL hl, e_l_eqLoad, wrap_succ (show i < 9223372036854775807 by omega), decide_true, Bool.not_true, go_sem, entry, joinEsc, if_pos, reduceIte, Nat.reduceAdd, Nat.reduceLeDiff, Nat.reduceLT, Nat.reduceEqDiff]
    exact ih

end Go.Proofs.Ythkgpblohjpcdaa.Slim

/- The reference's and the program's small functions on rows. -/
namespace Go.Proofs.Ythkgpblohjpcdaa.Slim
open Go
set_option linter.unusedSimpArgs false
set_option linter.unusedVariables false

variable {pr : Prims} {H : List Blk} {e : Option Nat}

theorem e_i_within (x a b : Int) : call T pr f_i_within [.int .i64 x, .int .i64 a, .int .i64 b] ⟨H, e⟩ = some (.bool (decide (a ≤ x) && decide (x ≤ b)), ⟨H, e⟩) := by
  rw [call_eq t_i_within]
  simp +contextual only [a_i_within, c_i_within, go_sem, entry, joinEsc, if_pos, reduceIte, Nat.reduceAdd, Nat.reduceLeDiff, Nat.reduceLT, Nat.reduceEqDiff]

theorem e_s_l1In (x a b : Int) : call T pr f_s_l1In [.int .i64 x, .int .i64 a, .int .i64 b] ⟨H, e⟩ = some (.bool (decide (a ≤ x) && decide (x ≤ b)), ⟨H, e⟩) := by
  rw [call_eq t_s_l1In]
  simp +contextual only [a_s_l1In, c_s_l1In, go_sem, entry, joinEsc, if_pos, reduceIte, Nat.reduceAdd, Nat.reduceLeDiff, Nat.reduceLT, Nat.reduceEqDiff]

theorem e_s_l2In (x : Int) : call T pr f_s_l2In [.int .i64 x] ⟨H, e⟩ = some (.bool (decide (0 ≤ x) && decide (x ≤ 60)), ⟨H, e⟩) := by
  rw [call_eq t_s_l2In]
  simp +contextual only [a_s_l2In, c_s_l2In, e_s_l1In, go_sem, entry, joinEsc, if_pos, reduceIte, Nat.reduceAdd, Nat.reduceLeDiff, Nat.reduceLT, Nat.reduceEqDiff]

theorem e_i_isPlace (x : Int) : call T pr f_i_isPlace [.int .i64 x] ⟨H, e⟩ = some (.bool (decide (0 ≤ x) && decide (x ≤ 60)), ⟨H, e⟩) := by
  rw [call_eq t_i_isPlace]
  simp +contextual only [a_i_isPlace, c_i_isPlace, e_i_within, go_sem, entry, joinEsc, if_pos, reduceIte, Nat.reduceAdd, Nat.reduceLeDiff, Nat.reduceLT, Nat.reduceEqDiff]

theorem e_i_isWeight (x : Int) : call T pr f_i_isWeight [.int .i64 x] ⟨H, e⟩ = some (.bool (decide (1 ≤ x) && decide (x ≤ 99)), ⟨H, e⟩) := by
  rw [call_eq t_i_isWeight]
  simp +contextual only [a_i_isWeight, c_i_isWeight, e_i_within, go_sem, entry, joinEsc, if_pos, reduceIte, Nat.reduceAdd, Nat.reduceLeDiff, Nat.reduceLT, Nat.reduceEqDiff]

def okL (l : Ld) : Bool := (decide (0 ≤ l.1) && decide (l.1 ≤ 60)) && (decide (1 ≤ l.2) && decide (l.2 ≤ 99))
def rowOk (ls : List Ld) : Bool := decide (ls.length ≤ 12) && ls.all okL

theorem e_i_IsRow_1 (x y : Int) : call T pr f_i_IsRow_1 [.agg [.int .i64 x, .int .i64 y]] ⟨H, e⟩ = some (.bool (!okL (x, y)), ⟨H, e⟩) := by
  rw [call_eq t_i_IsRow_1]
  simp +contextual only [a_i_IsRow_1, c_i_IsRow_1, e_i_isPlace, e_i_isWeight, go_sem, entry, joinEsc, if_pos, reduceIte, Nat.reduceAdd, Nat.reduceLeDiff, Nat.reduceLT, Nat.reduceEqDiff]
  unfold okL
  by_cases h1 : (decide (0 ≤ x) && decide (x ≤ 60)) = true <;> simp [h1, finish_one, finish_one', under_bool]

/-- the loop of l2Row -/
theorem loop_s_l2Row {b : Nat} {c : Option Nat} {ls : List Ld} (h : cellsAt H b = some (encL ls)) :
    ∀ (k i : Nat) (y3 y4 : AV), k + i = 13 → ∃ z2 z3 z4, run T pr (.loop w_s_l2Row_1) ⟨[slL b ls.length c, .bool false, .int .i64 i, y3, y4], ⟨H, e⟩⟩ =
      some (if ((ls.drop i).take k).all okL = true then Ex.exit 0 else Ex.ret, ⟨[slL b ls.length c, .bool false, z2, z3, z4], ⟨H, e⟩⟩)
  | 0, i, y3, y4, hk => by
    have hi : i = 13 := by omega
    subst hi
    refine ⟨.int .i64 13, .bool false, y4, ?_⟩
    rw [run_loop]
    generalize run T pr (.loop w_s_l2Row_1) = R
    have h12 : ¬ ((13 : Nat) : Int) ≤ 12 := by omega
    simp +contextual only [w_s_l2Row_1, List.take_zero, List.all_nil, h12, decide_false, go_sem, entry, joinEsc, if_pos, reduceIte, Nat.reduceAdd, Nat.reduceLeDiff, Nat.reduceLT, Nat.reduceEqDiff]
    rfl
  | k + 1, i, y3, y4, hk => by
    by_cases hi : i < ls.length
    · have hl : ls[i]? = some ls[i] := List.getElem?_eq_getElem hi
      have h12 : ((i : Nat) : Int) ≤ 12 := by omega
      obtain ⟨z2, z3, z4, ih⟩ := loop_s_l2Row (c := c) h k (i + 1) (.bool true) (.bool false) (by omega)
      rw [List.drop_eq_getElem_cons hi, List.take_succ_cons, List.all_cons]
      have hok : okL ls[i] = ((decide (0 ≤ ls[i].1) && decide (ls[i].1 ≤ 60)) && (decide (1 ≤ ls[i].2) && decide (ls[i].2 ≤ 99))) := rfl
      rw [hok, run_loop]
      generalize run T pr (.loop w_s_l2Row_1) = R at ih ⊢
      cases h1 : (decide (0 ≤ ls[i].1) && decide (ls[i].1 ≤ 60)) with
      | false =>
        refine ⟨.int .i64 i, .bool true, .bool true, ?_⟩
        simp +contextual only [w_s_l2Row_1, h, hi, hl, h1, h12, part_encL0 _ hl, part_encL1 _ hl, e_s_l2In, e_s_l1In, decide_true, go_sem, entry, joinEsc, if_pos, reduceIte, Nat.reduceAdd, Nat.reduceLeDiff, Nat.reduceLT, Nat.reduceEqDiff]
      | true =>
        cases h2 : (decide (1 ≤ ls[i].2) && decide (ls[i].2 ≤ 99)) with
        | false =>
          refine ⟨.int .i64 i, .bool true, .bool true, ?_⟩
          simp +contextual only [w_s_l2Row_1, h, hi, hl, h1, h2, h12, part_encL0 _ hl, part_encL1 _ hl, e_s_l2In, e_s_l1In, decide_true, go_sem, entry, joinEsc, if_pos, reduceIte, Nat.reduceAdd, Nat.reduceLeDiff, Nat.reduceLT, Nat.reduceEqDiff]
        | true =>
          refine ⟨z2, z3, z4, ?_⟩
          simp +contextual only [w_s_l2Row_1, h, hi, hl, h1, h2, h12, part_encL0 _ hl, part_encL1 _ hl, e_s_l2In, e_s_l1In, wrap_succ (show i < 9223372036854775807 by omega), decide_true, go_sem, entry, joinEsc, if_pos, reduceIte, Nat.reduceAdd, Nat.reduceLeDiff, Nat.reduceLT, Nat.reduceEqDiff]
          exact ih
    · refine ⟨.int .i64 i, .bool false, y4, ?_⟩
      rw [run_loop]
      generalize run T pr (.loop w_s_l2Row_1) = R
      have hd : ls.drop i = [] := List.drop_eq_nil_of_le (by omega)
      simp +contextual only [w_s_l2Row_1, hd, List.take_nil, List.all_nil, hi, decide_false, go_sem, entry, joinEsc, if_pos, reduceIte, Nat.reduceAdd, Nat.reduceLeDiff, Nat.reduceLT, Nat.reduceEqDiff]

theorem e_s_l2Row {b : Nat} {c : Option Nat} {ls : List Ld} (h : cellsAt H b = some (encL ls)) : call T pr f_s_l2Row [slL b ls.length c] ⟨H, e⟩ = some (.bool (rowOk ls), ⟨H, e⟩) := by
  obtain ⟨z2, z3, z4, hl⟩ := loop_s_l2Row (pr := pr) (e := none) (c := c) h 13 0 .undef .undef rfl
  rw [call_eq t_s_l2Row]
  have h0 : ((0 : Nat) : Int) = 0 := rfl
  rw [h0] at hl
  simp +contextual only [a_s_l2Row, c_s_l2Row, hl, List.drop_zero, go_sem, entry, joinEsc, if_pos, reduceIte, Nat.reduceAdd, Nat.reduceLeDiff, Nat.reduceLT, Nat.reduceEqDiff]
  have hr : rowOk ls = (decide (ls.length ≤ 12) && (ls.take 13).all okL) := by
    unfold rowOk
    by_cases h12 : ls.length ≤ 12
    · rw [List.take_of_length_le (by omega)]
    · simp [h12]
  rw [hr]
  have hi : ((ls.length : Nat) : Int) ≤ 12 ↔ ls.length ≤ 12 := by omega
  cases h3 : (ls.take 13).all okL <;> simp +contextual only [hi, go_sem, entry, joinEsc, if_pos, reduceIte, Nat.reduceAdd, Nat.reduceLeDiff, Nat.reduceLT, Nat.reduceEqDiff] <;> simp [finish_one']

end Go.Proofs.Ythkgpblohjpcdaa.Slim

/- Copies of rows, searches in rows, and moments. -/
namespace Go.Proofs.Ythkgpblohjpcdaa.Slim
open Go
set_option linter.unusedSimpArgs false
set_option linter.unusedVariables false

variable {pr : Prims} {H : List Blk} {e : Option Nat}

theorem setRange_encL {X : List Ld} {i : Nat} {a b : Int} (h : i < X.length) : setRange (encL X) (i * 2) [.int .i64 a, .int .i64 b] = encL (X.set i (a, b)) := by
  induction X generalizing i with
  | nil => simp at h
  | cons x X ih =>
    cases i with
    | zero => simp [encL, setRange]
    | succ i =>
      rw [show (i + 1) * 2 = i * 2 + 1 + 1 by omega, encL, setRange_k, setRange_k, ih (by simpa using h)]
      rfl

theorem under_encL (n : Nat) : ∀ ls : List Ld, ((encL ls).all fun c => c.under n) = true
  | [] => rfl
  | l :: ls => by simp [encL, AV.under, under_encL n ls]

theorem zeros_encL : ∀ n, zeros n [.int .i64 0, .int .i64 0] = encL (List.replicate n (0, 0))
  | 0 => rfl
  | n + 1 => by
    have := zeros_encL n
    unfold zeros at *
    simp only [List.replicate_succ, List.flatten_cons, encL, List.cons_append, List.nil_append, this]

theorem take_set_succ {X ls : List Ld} {i : Nat} (hi : i < ls.length) (hX : X.length = ls.length) (h : X.take i = ls.take i) : (X.set i ls[i]).take (i + 1) = ls.take (i + 1) := by
  rw [List.take_succ_eq_append_getElem (by rw [List.length_set]; omega), List.take_succ_eq_append_getElem hi]
  rw [List.take_set_of_le (Nat.le_refl _), h]
  simp

/-- a slice of loads, as a law is handed it: nil or not -/
def ArgL (H : List Blk) (av : AV) (ls : List Ld) : Prop :=
  ∃ p sz c, av = .slice p sz ls.length c ∧ ls.length ≤ maxLen ∧ (ls ≠ [] → sz = 2 ∧ ∃ b, p = some (b, 0) ∧ cellsAt H b = some (encL ls))

/-- the loop of toLoadS -/
theorem loop_l_toLoadS {p : Option (Nat × Nat)} {sz : Nat} {c : Option Nat} {ls : List Ld} {r : AV} (ha : ls ≠ [] → sz = 2 ∧ ∃ b, p = some (b, 0) ∧ cellsAt H b = some (encL ls)) (hn : ls.length ≤ 1048576) :
    ∀ (k i : Nat) (X : List Ld) (y4 : AV), k + i = ls.length → X.length = ls.length → X.take i = ls.take i → ∃ z4, run T pr (.loop w_l_toLoadS_1) ⟨[.slice p sz ls.length c, r, slL H.length ls.length (some ls.length), .int .i64 i, y4], ⟨H ++ [.cells (encL X) true], e⟩⟩ =
      some (Ex.exit 0, ⟨[.slice p sz ls.length c, r, slL H.length ls.length (some ls.length), .int .i64 ls.length, z4], ⟨H ++ [.cells (encL ls) true], e⟩⟩)
  | 0, i, X, y4, hk, hX, ht => by
    have hi : i = ls.length := by omega
    subst hi
    rw [List.take_of_length_le (by omega), List.take_of_length_le (by omega)] at ht
    subst ht
    refine ⟨.bool false, ?_⟩
    rw [run_loop]
    generalize run T pr (.loop w_l_toLoadS_1) = R
    simp +contextual only [w_l_toLoadS_1, Nat.lt_irrefl, decide_false, go_sem, entry, joinEsc, if_pos, reduceIte, Nat.reduceAdd, Nat.reduceLeDiff, Nat.reduceLT, Nat.reduceEqDiff]
  | k + 1, i, X, y4, hk, hX, ht => by
    have hi : i < ls.length := by omega
    have hl : ls[i]? = some ls[i] := List.getElem?_eq_getElem hi
    obtain ⟨rfl, b, rfl, hb⟩ := ha (by intro h; subst h; simp at hi)
    obtain ⟨z4, ih⟩ := loop_l_toLoadS (c := c) (r := r) ha hn k (i + 1) (X.set i ls[i]) (.bool true) (by omega) (by simpa using hX) (take_set_succ hi hX ht)
    refine ⟨z4, ?_⟩
    rw [run_loop]
    generalize run T pr (.loop w_l_toLoadS_1) = R at ih ⊢
    have hle : i * 2 + 2 ≤ (encL X).length := by rw [encL_length]; omega
    simp +contextual only [w_l_toLoadS_1, cells_mono hb, hi, hl, part_encL hl, e_l_toLoad, hle, setRange_encL (show i < X.length by omega), wrap_succ (show i < 9223372036854775807 by omega), decide_true, go_sem, entry, joinEsc, if_pos, reduceIte, Nat.reduceAdd, Nat.reduceLeDiff, Nat.reduceLT, Nat.reduceEqDiff]
    exact ih

theorem e_l_toLoadS {av : AV} {ls : List Ld} (ha : ArgL H av ls) (hn : ls.length ≤ 1048576) : call T pr f_l_toLoadS [av] ⟨H, e⟩ = some (slL H.length ls.length (some ls.length), ⟨H ++ [.cells (encL ls) true], e⟩) := by
  obtain ⟨p, sz, c, rfl, _, ha⟩ := ha
  obtain ⟨z4, hl⟩ := loop_l_toLoadS (pr := pr) (e := none) (c := c) (r := .slice none 0 0 none) ha hn ls.length 0 (List.replicate ls.length (0, 0)) .undef (by omega) (by simp) (by simp)
  rw [call_eq t_l_toLoadS]
  have h0 : ((0 : Nat) : Int) = 0 := rfl
  have hmb : (ls.length : Int) * ((16 : Nat) : Int) ≤ ((maxBytes : Nat) : Int) := by unfold maxBytes; omega
  rw [h0, ← zeros_encL] at hl
  simp +contextual only [a_l_toLoadS, c_l_toLoadS, hmb, hl, under_encL, go_sem, entry, joinEsc, if_pos, reduceIte, Nat.reduceAdd, Nat.reduceLeDiff, Nat.reduceLT, Nat.reduceEqDiff]

end Go.Proofs.Ythkgpblohjpcdaa.Slim

/- Searches in rows, and moments. -/
namespace Go.Proofs.Ythkgpblohjpcdaa.Slim
open Go
set_option linter.unusedSimpArgs false
set_option linter.unusedVariables false

variable {pr : Prims} {H : List Blk} {e : Option Nat}

abbrev ldV (l : Ld) : AV := .agg [.int .i64 l.1, .int .i64 l.2]

/-- the loop of IndexFunc -/
theorem loop_IndexFunc {b : Nat} {c : Option Nat} {ls : List Ld} {g : FuncId} {first cap : List AV} {p : Ld → Bool} {r : AV} (h : cellsAt H b = some (encL ls)) (hn : ls.length ≤ 9223372036854775806)
    (hf : ∀ l ∈ ls, call T pr g (first ++ AV.agg [.int .i64 l.1, .int .i64 l.2] :: cap) ⟨H, e⟩ = some (.bool (p l), ⟨H, e⟩)) :
    ∀ (k i : Nat) (y3 y6 y7 : AV), k + i = ls.length → ∃ (j : Nat) (z3 z5 z6 z7 : AV), run T pr (.loop w_slices_IndexFunc_Si_Load_i_Load_1) ⟨[slL b ls.length c, .fn g first cap, r, y3, .int .i64 ls.length, .int .i64 i, y6, y7], ⟨H, e⟩⟩ =
      some (if (ls.drop i).any p = true then Ex.ret else Ex.exit 0, ⟨[slL b ls.length c, .fn g first cap, if (ls.drop i).any p = true then .int .i64 j else r, z3, .int .i64 ls.length, z5, z6, z7], ⟨H, e⟩⟩)
  | 0, i, y3, y6, y7, hk => by
    have hi : i = ls.length := by omega
    subst hi
    refine ⟨0, y3, .int .i64 ls.length, .bool false, y7, ?_⟩
    rw [run_loop]
    generalize run T pr (.loop w_slices_IndexFunc_Si_Load_i_Load_1) = R
    simp +contextual only [w_slices_IndexFunc_Si_Load_i_Load_1, Nat.lt_irrefl, decide_false, List.drop_length, List.any_nil, go_sem, entry, joinEsc, if_pos, reduceIte, Nat.reduceAdd, Nat.reduceLeDiff, Nat.reduceLT, Nat.reduceEqDiff]
  | k + 1, i, y3, y6, y7, hk => by
    have hi : i < ls.length := by omega
    have hl : ls[i]? = some ls[i] := List.getElem?_eq_getElem hi
    have hc := hf ls[i] (List.getElem_mem hi)
    rw [run_loop, List.drop_eq_getElem_cons hi, List.any_cons]
    obtain ⟨j, z3, z5, z6, z7, ih⟩ := loop_IndexFunc (c := c) (r := r) h hn hf k (i + 1) (.int .i64 i) (.bool true) (.bool false) (by omega)
    generalize run T pr (.loop w_slices_IndexFunc_Si_Load_i_Load_1) = R at ih ⊢
    cases hp : p ls[i] with
    | true =>
      refine ⟨i, .int .i64 i, .int .i64 i, .bool true, .bool true, ?_⟩
      rw [hp] at hc
      simp +contextual only [w_slices_IndexFunc_Si_Load_i_Load_1, h, hi, hl, part_encL hl, hc, decide_true, go_sem, entry, joinEsc, if_pos, reduceIte, Nat.reduceAdd, Nat.reduceLeDiff, Nat.reduceLT, Nat.reduceEqDiff]
    | false =>
      refine ⟨j, z3, z5, z6, z7, ?_⟩
      rw [hp] at hc
      simp +contextual only [w_slices_IndexFunc_Si_Load_i_Load_1, h, hi, hl, part_encL hl, hc, wrap_succ (show i < 9223372036854775807 by omega), decide_true, go_sem, entry, joinEsc, if_pos, reduceIte, Nat.reduceAdd, Nat.reduceLeDiff, Nat.reduceLT, Nat.reduceEqDiff]
      exact ih

theorem e_IndexFunc {b : Nat} {c : Option Nat} {ls : List Ld} {g : FuncId} {first cap : List AV} {p : Ld → Bool} (h : cellsAt H b = some (encL ls)) (hn : ls.length ≤ 9223372036854775806)
    (hf : ∀ l ∈ ls, call T pr g (first ++ AV.agg [.int .i64 l.1, .int .i64 l.2] :: cap) ⟨H, none⟩ = some (.bool (p l), ⟨H, none⟩)) :
    ∃ j : Nat, call T pr f_slices_IndexFunc_Si_Load_i_Load [slL b ls.length c, .fn g first cap] ⟨H, e⟩ = some (.int .i64 (if ls.any p = true then j else -1), ⟨H, e⟩) := by
  obtain ⟨j, z3, z5, z6, z7, hl⟩ := loop_IndexFunc (pr := pr) (e := none) (c := c) (r := .int .i64 0) h hn hf ls.length 0 .undef .undef .undef rfl
  refine ⟨j, ?_⟩
  have h0 : ((0 : Nat) : Int) = 0 := rfl
  rw [h0] at hl
  rw [call_eq t_slices_IndexFunc_Si_Load_i_Load]
  simp +contextual only [a_slices_IndexFunc_Si_Load_i_Load, c_slices_IndexFunc_Si_Load_i_Load, hl, go_sem, entry, joinEsc, if_pos, reduceIte, Nat.reduceAdd, Nat.reduceLeDiff, Nat.reduceLT, Nat.reduceEqDiff]
  cases hp : ls.any p <;> simp +contextual only [go_sem, entry, joinEsc, if_pos, reduceIte, Nat.reduceAdd, Nat.reduceLeDiff, Nat.reduceLT, Nat.reduceEqDiff]

theorem e_ContainsFunc {b : Nat} {c : Option Nat} {ls : List Ld} {g : FuncId} {first cap : List AV} {p : Ld → Bool} (h : cellsAt H b = some (encL ls)) (hn : ls.length ≤ 9223372036854775806)
    (hf : ∀ l ∈ ls, call T pr g (first ++ AV.agg [.int .i64 l.1, .int .i64 l.2] :: cap) ⟨H, none⟩ = some (.bool (p l), ⟨H, none⟩)) :
    call T pr f_slices_ContainsFunc_Si_Load_i_Load [slL b ls.length c, .fn g first cap] ⟨H, e⟩ = some (.bool (ls.any p), ⟨H, e⟩) := by
  obtain ⟨j, hl⟩ := e_IndexFunc (pr := pr) (e := none) (c := c) h hn hf
  rw [call_eq t_slices_ContainsFunc_Si_Load_i_Load]
  simp +contextual only [a_slices_ContainsFunc_Si_Load_i_Load, c_slices_ContainsFunc_Si_Load_i_Load, hl, go_sem, entry, joinEsc, if_pos, reduceIte, Nat.reduceAdd, Nat.reduceLeDiff, Nat.reduceLT, Nat.reduceEqDiff]
  cases hp : ls.any p <;> simp +contextual [finish_one', under_bool]

theorem e_i_IsRow {b : Nat} {c : Option Nat} {ls : List Ld} (h : cellsAt H b = some (encL ls)) : call T pr f_i_IsRow [slL b ls.length c] ⟨H, e⟩ = some (.bool (rowOk ls), ⟨H, e⟩) := by
  rw [call_eq t_i_IsRow]
  have hi : (12 : Int) < ((ls.length : Nat) : Int) ↔ 12 < ls.length := by omega
  by_cases h12 : ls.length ≤ 12
  · have hc := e_ContainsFunc (pr := pr) (e := none) (c := c) (g := f_i_IsRow_1) (first := []) (cap := []) (p := fun l => !okL l) h (by omega) (fun l _ => e_i_IsRow_1 l.1 l.2)
    have h12' : ¬ 12 < ls.length := by omega
    have hr : rowOk ls = !(ls.any fun l => !okL l) := by
      unfold rowOk
      rw [List.any_eq_not_all_not]
      simp [h12]
    rw [hr]
    simp +contextual only [a_i_IsRow, c_i_IsRow, hc, hi, h12', decide_false, go_sem, entry, joinEsc, if_pos, reduceIte, Nat.reduceAdd, Nat.reduceLeDiff, Nat.reduceLT, Nat.reduceEqDiff]
  · have h12' : 12 < ls.length := by omega
    have hr : rowOk ls = false := by unfold rowOk; simp [h12]
    rw [hr]
    simp +contextual only [a_i_IsRow, c_i_IsRow, hi, h12', decide_true, go_sem, entry, joinEsc, if_pos, reduceIte, Nat.reduceAdd, Nat.reduceLeDiff, Nat.reduceLT, Nat.reduceEqDiff]

/-- a moment, as both sides sum it up -/
def momStep (p : Int) (a : Int) (l : Ld) : Int := IntKind.i64.wrap (a + IntKind.i64.wrap (l.2 * IntKind.i64.wrap (l.1 - p)))
def momW (ls : List Ld) (p : Int) : Int := ls.foldl (momStep p) 0

theorem loop_i_momentAbout {b : Nat} {c : Option Nat} {ls : List Ld} {p : Int} {r : AV} (h : cellsAt H b = some (encL ls)) (hn : ls.length ≤ 9223372036854775806) :
    ∀ (k i : Nat) (a : Int) (G : List Blk) (y4 y8 : AV), k + i = ls.length → ∃ (G' : List Blk) (z4 z8 : AV), run T pr (.loop w_i_momentAbout_1) ⟨[slL b ls.length c, .int .i64 p, r, .int .i64 a, y4, slL b ls.length c, .int .i64 ls.length, .int .i64 i, y8], ⟨H ++ G, e⟩⟩ =
      some (Ex.exit 0, ⟨[slL b ls.length c, .int .i64 p, r, .int .i64 ((ls.drop i).foldl (momStep p) a), z4, slL b ls.length c, .int .i64 ls.length, .int .i64 ls.length, z8], ⟨H ++ G', e⟩⟩)
  | 0, i, a, G, y4, y8, hk => by
    have hi : i = ls.length := by omega
    subst hi
    refine ⟨G, y4, .bool false, ?_⟩
    rw [run_loop]
    generalize run T pr (.loop w_i_momentAbout_1) = R
    simp +contextual only [w_i_momentAbout_1, Nat.lt_irrefl, decide_false, List.drop_length, List.foldl_nil, go_sem, entry, joinEsc, if_pos, reduceIte, Nat.reduceAdd, Nat.reduceLeDiff, Nat.reduceLT, Nat.reduceEqDiff]
  | k + 1, i, a, G, y4, y8, hk => by
    have hi : i < ls.length := by omega
    have hl : ls[i]? = some ls[i] := List.getElem?_eq_getElem hi
    rw [run_loop, List.drop_eq_getElem_cons hi, List.foldl_cons]
    obtain ⟨G', z4, z8, ih⟩ := loop_i_momentAbout (c := c) (p := p) (r := r) h hn k (i + 1) (momStep p a ls[i]) (G ++ [.cells [.int .i64 ls[i].1, .int .i64 ls[i].2] true]) (.ptr (some (H.length + G.length, 0))) (.bool true) (by omega)
    refine ⟨G', z4, z8, ?_⟩
    generalize run T pr (.loop w_i_momentAbout_1) = R at ih ⊢
    simp +contextual only [w_i_momentAbout_1, cells_mono h, hi, hl, part_encL hl, wrap_succ (show i < 9223372036854775807 by omega), decide_true, go_sem, entry, joinEsc, if_pos, reduceIte, Nat.reduceAdd, Nat.reduceLeDiff, Nat.reduceLT, Nat.reduceEqDiff]
    exact ih

theorem e_i_momentAbout {b : Nat} {c : Option Nat} {ls : List Ld} (h : cellsAt H b = some (encL ls)) (hn : ls.length ≤ 9223372036854775806) (p : Int) : call T pr f_i_momentAbout [slL b ls.length c, .int .i64 p] ⟨H, e⟩ = some (.int .i64 (momW ls p), ⟨H, e⟩) := by
  obtain ⟨G', z4, z8, hl⟩ := loop_i_momentAbout (pr := pr) (e := none) (c := c) (p := p) (r := .int .i64 0) h hn ls.length 0 0 [] .undef .undef rfl
  have h0 : ((0 : Nat) : Int) = 0 := rfl
  rw [h0, List.append_nil, List.drop_zero] at hl
  rw [call_eq t_i_momentAbout]
  simp +contextual only [a_i_momentAbout, c_i_momentAbout, hl, go_sem, entry, joinEsc, if_pos, reduceIte, Nat.reduceAdd, Nat.reduceLeDiff, Nat.reduceLT, Nat.reduceEqDiff]
  rfl

theorem loop_s_l2Moment {b : Nat} {c : Option Nat} {ls : List Ld} {p : Int} {r : AV} (h : cellsAt H b = some (encL ls)) (hn : ls.length ≤ 9223372036854775806) :
    ∀ (k i : Nat) (a : Int) (y5 : AV), k + i = ls.length → ∃ (z5 : AV), run T pr (.loop w_s_l2Moment_1) ⟨[slL b ls.length c, .int .i64 p, r, .int .i64 a, .int .i64 i, y5], ⟨H, e⟩⟩ =
      some (Ex.exit 0, ⟨[slL b ls.length c, .int .i64 p, r, .int .i64 ((ls.drop i).foldl (momStep p) a), .int .i64 ls.length, z5], ⟨H, e⟩⟩)
  | 0, i, a, y5, hk => by
    have hi : i = ls.length := by omega
    subst hi
    refine ⟨.bool false, ?_⟩
    rw [run_loop]
    generalize run T pr (.loop w_s_l2Moment_1) = R
    simp +contextual only [w_s_l2Moment_1, Nat.lt_irrefl, decide_false, List.drop_length, List.foldl_nil, go_sem, entry, joinEsc, if_pos, reduceIte, Nat.reduceAdd, Nat.reduceLeDiff, Nat.reduceLT, Nat.reduceEqDiff]
  | k + 1, i, a, y5, hk => by
    have hi : i < ls.length := by omega
    have hl : ls[i]? = some ls[i] := List.getElem?_eq_getElem hi
    rw [run_loop, List.drop_eq_getElem_cons hi, List.foldl_cons]
    obtain ⟨z5, ih⟩ := loop_s_l2Moment (c := c) (p := p) (r := r) h hn k (i + 1) (momStep p a ls[i]) (.bool true) (by omega)
    refine ⟨z5, ?_⟩
    generalize run T pr (.loop w_s_l2Moment_1) = R at ih ⊢
    simp +contextual only [w_s_l2Moment_1, h, hi, hl, part_encL0 _ hl, part_encL1 _ hl, wrap_succ (show i < 9223372036854775807 by omega), decide_true, go_sem, entry, joinEsc, if_pos, reduceIte, Nat.reduceAdd, Nat.reduceLeDiff, Nat.reduceLT, Nat.reduceEqDiff]
    exact ih

theorem e_s_l2Moment {b : Nat} {c : Option Nat} {ls : List Ld} (h : cellsAt H b = some (encL ls)) (hn : ls.length ≤ 9223372036854775806) (p : Int) : call T pr f_s_l2Moment [slL b ls.length c, .int .i64 p] ⟨H, e⟩ = some (.int .i64 (momW ls p), ⟨H, e⟩) := by
  obtain ⟨z5, hl⟩ := loop_s_l2Moment (pr := pr) (e := none) (c := c) (p := p) (r := .int .i64 0) h hn ls.length 0 0 .undef rfl
  have h0 : ((0 : Nat) : Int) = 0 := rfl
  rw [h0, List.drop_zero] at hl
  rw [call_eq t_s_l2Moment]
  simp +contextual only [a_s_l2Moment, c_s_l2Moment, hl, go_sem, entry, joinEsc, if_pos, reduceIte, Nat.reduceAdd, Nat.reduceLeDiff, Nat.reduceLT, Nat.reduceEqDiff]
  rfl

/-- the side to which a row tips -/
def sideW (ls : List Ld) (a b : Int) : Int := if momW ls a < 0 then -1 else if 0 < momW ls b then 1 else 0

theorem e_s_l2Side {b : Nat} {c : Option Nat} {ls : List Ld} (h : cellsAt H b = some (encL ls)) (hn : ls.length ≤ 9223372036854775806) (p q : Int) : call T pr f_s_l2Side [slL b ls.length c, .int .i64 p, .int .i64 q] ⟨H, e⟩ = some (.int .i64 (sideW ls p q), ⟨H, e⟩) := by
  rw [call_eq t_s_l2Side]
  simp +contextual only [a_s_l2Side, c_s_l2Side, e_s_l2Moment h hn, go_sem, entry, joinEsc, if_pos, reduceIte, Nat.reduceAdd, Nat.reduceLeDiff, Nat.reduceLT, Nat.reduceEqDiff]
  unfold sideW
  split
  · rfl
  · split <;> rfl

theorem e_i_tipSide {b : Nat} {c : Option Nat} {ls : List Ld} (h : cellsAt H b = some (encL ls)) (hn : ls.length ≤ 9223372036854775806) (p q : Int) : call T pr f_i_tipSide [slL b ls.length c, .int .i64 p, .int .i64 q] ⟨H, e⟩ = some (.int .i64 (sideW ls p q), ⟨H, e⟩) := by
  rw [call_eq t_i_tipSide]
  simp +contextual only [a_i_tipSide, c_i_tipSide, e_i_momentAbout h hn, go_sem, entry, joinEsc, if_pos, reduceIte, Nat.reduceAdd, Nat.reduceLeDiff, Nat.reduceLT, Nat.reduceEqDiff]
  unfold sideW
  split
  · rfl
  · split <;> rfl

end Go.Proofs.Ythkgpblohjpcdaa.Slim

/- Beams: what rests on them. -/
namespace Go.Proofs.Ythkgpblohjpcdaa.Slim
open Go
set_option linter.unusedSimpArgs false
set_option linter.unusedVariables false

variable {pr : Prims} {H : List Blk} {e : Option Nat}

def beamOk (x a b : Int) : Bool := decide (1 ≤ x ∧ x ≤ 60 ∧ 0 ≤ a ∧ a < b ∧ b ≤ x)
abbrev bmV (x a b : Int) : AV := .agg [.int .i64 x, .int .i64 a, .int .i64 b]

theorem e_i_IsBeam (x a b : Int) : call T pr f_i_IsBeam [bmV x a b] ⟨H, e⟩ = some (.bool (beamOk x a b), ⟨H, e⟩) := by
  rw [call_eq t_i_IsBeam]
  simp +contextual only [a_i_IsBeam, c_i_IsBeam, e_i_within, go_sem, entry, joinEsc, if_pos, reduceIte, Nat.reduceAdd, Nat.reduceLeDiff, Nat.reduceLT, Nat.reduceEqDiff]
  congr 3
  simp only [beamOk, Bool.decide_and, Bool.and_assoc]

theorem e_s_l6Beam (x a b : Int) : call T pr f_s_l6Beam [bmV x a b] ⟨H, e⟩ = some (.bool (beamOk x a b), ⟨H, e⟩) := by
  rw [call_eq t_s_l6Beam]
  simp +contextual only [a_s_l6Beam, c_s_l6Beam, e_s_l1In, go_sem, entry, joinEsc, if_pos, reduceIte, Nat.reduceAdd, Nat.reduceLeDiff, Nat.reduceLT, Nat.reduceEqDiff]
  congr 3
  have key : ∀ p q : Bool, p = q ↔ (p = true ↔ q = true) := fun p q => by cases p <;> cases q <;> simp
  rw [key]
  simp only [beamOk, Bool.and_eq_true, decide_eq_true_eq]
  constructor
  · rintro ⟨⟨⟨h1, h2⟩, h3, h4⟩, h5, h6⟩
    rw [wrap64 (by omega) (by omega)] at h4
    rw [wrap64 (by omega) (by omega)] at h5
    omega
  · rintro ⟨h1, h2, h3, h4, h5⟩
    rw [wrap64 (by omega) (by omega), wrap64 (by omega) (by omega)]
    omega

theorem e_i_isOn_1 {q : Nat} {x a b : Int} (h : cellsAt H q = some [.int .i64 x, .int .i64 a, .int .i64 b]) (y z : Int) : call T pr f_i_isOn_1 [.agg [.int .i64 y, .int .i64 z], .ptr (some (q, 0))] ⟨H, e⟩ = some (.bool (decide (x < y)), ⟨H, e⟩) := by
  rw [call_eq t_i_isOn_1]
  simp +contextual only [a_i_isOn_1, c_i_isOn_1, h, cells_mono h, go_sem, entry, joinEsc, if_pos, reduceIte, Nat.reduceAdd, Nat.reduceLeDiff, Nat.reduceLT, Nat.reduceEqDiff]

/-- a beam and what is on it -/
def onOk (x a b : Int) (ls : List Ld) : Bool := beamOk x a b && rowOk ls && !(ls.any fun l => decide (x < l.1))

theorem e_i_isOn {q : Nat} {c : Option Nat} {ls : List Ld} (h : cellsAt H q = some (encL ls)) (hn : ls.length ≤ 9223372036854775806) (x a b : Int) : call T pr f_i_isOn [bmV x a b, slL q ls.length c] ⟨H, e⟩ = some (.bool (onOk x a b ls), ⟨H, e⟩) := by
  rw [call_eq t_i_isOn]
  have hb : cellsAt (H ++ [Blk.cells [.int .i64 x, .int .i64 a, .int .i64 b] true]) H.length = some [.int .i64 x, .int .i64 a, .int .i64 b] := by simp [cellsAt, List.getElem?_append_right]
  have hc := e_ContainsFunc (pr := pr) (e := none) (c := c) (g := f_i_isOn_1) (first := []) (cap := [.ptr (some (H.length, 0))]) (p := fun l => decide (x < l.1)) (cells_mono h [Blk.cells [.int .i64 x, .int .i64 a, .int .i64 b] true]) hn (fun l _ => e_i_isOn_1 hb l.1 l.2)
  simp +contextual only [a_i_isOn, c_i_isOn, e_i_IsBeam, e_i_IsRow (cells_mono h _), hc, go_sem, entry, joinEsc, if_pos, reduceIte, Nat.reduceAdd, Nat.reduceLeDiff, Nat.reduceLT, Nat.reduceEqDiff]
  rfl

theorem loop_s_l6On {q : Nat} {c : Option Nat} {ls : List Ld} {bv : AV} {u : Nat} {x a b : Int} {y5 : AV} (h : cellsAt H q = some (encL ls)) (hu : cellsAt H u = some [.int .i64 x, .int .i64 a, .int .i64 b]) (hn : ls.length ≤ 9223372036854775806) :
    ∀ (k i : Nat) (y6 y7 : AV), k + i = ls.length → ∃ (z4 z6 z7 : AV), run T pr (.loop w_s_l6On_1) ⟨[bv, slL q ls.length c, .ptr (some (u, 0)), .bool false, .int .i64 i, y5, y6, y7], ⟨H, e⟩⟩ =
      some (if (ls.drop i).any (fun l => decide (x < l.1)) = true then Ex.ret else Ex.exit 0, ⟨[bv, slL q ls.length c, .ptr (some (u, 0)), .bool false, z4, y5, z6, z7], ⟨H, e⟩⟩)
  | 0, i, y6, y7, hk => by
    have hi : i = ls.length := by omega
    subst hi
    refine ⟨.int .i64 ls.length, .bool false, y7, ?_⟩
    rw [run_loop]
    generalize run T pr (.loop w_s_l6On_1) = R
    simp +contextual only [w_s_l6On_1, Nat.lt_irrefl, decide_false, List.drop_length, List.any_nil, go_sem, entry, joinEsc, if_pos, reduceIte, Nat.reduceAdd, Nat.reduceLeDiff, Nat.reduceLT, Nat.reduceEqDiff]
  | k + 1, i, y6, y7, hk => by
    have hi : i < ls.length := by omega
    have hl : ls[i]? = some ls[i] := List.getElem?_eq_getElem hi
    rw [run_loop, List.drop_eq_getElem_cons hi, List.any_cons]
    obtain ⟨z4, z6, z7, ih⟩ := loop_s_l6On (c := c) (bv := bv) (y5 := y5) h hu hn k (i + 1) (.bool true) (.bool false) (by omega)
    generalize run T pr (.loop w_s_l6On_1) = R at ih ⊢
    cases hp : decide (x < ls[i].1) with
    | true =>
      refine ⟨.int .i64 i, .bool true, .bool true, ?_⟩
      simp +contextual only [w_s_l6On_1, h, hu, hi, hl, part_encL0 _ hl, hp, decide_true, go_sem, entry, joinEsc, if_pos, reduceIte, Nat.reduceAdd, Nat.reduceLeDiff, Nat.reduceLT, Nat.reduceEqDiff]
    | false =>
      refine ⟨z4, z6, z7, ?_⟩
      simp +contextual only [w_s_l6On_1, h, hu, hi, hl, part_encL0 _ hl, hp, wrap_succ (show i < 9223372036854775807 by omega), decide_true, go_sem, entry, joinEsc, if_pos, reduceIte, Nat.reduceAdd, Nat.reduceLeDiff, Nat.reduceLT, Nat.reduceEqDiff]
      exact ih

theorem e_s_l6On {q : Nat} {c : Option Nat} {ls : List Ld} (h : cellsAt H q = some (encL ls)) (hn : ls.length ≤ 9223372036854775806) (x a b : Int) : call T pr f_s_l6On [bmV x a b, slL q ls.length c] ⟨H, e⟩ = some (.bool (onOk x a b ls), ⟨H, e⟩) := by
  rw [call_eq t_s_l6On]
  have hb : cellsAt (H ++ [Blk.cells [.int .i64 x, .int .i64 a, .int .i64 b] true]) H.length = some [.int .i64 x, .int .i64 a, .int .i64 b] := by simp [cellsAt, List.getElem?_append_right]
  unfold onOk
  cases h1 : beamOk x a b with
  | false => simp +contextual only [a_s_l6On, c_s_l6On, e_s_l6Beam, h1, go_sem, entry, joinEsc, if_pos, reduceIte, Nat.reduceAdd, Nat.reduceLeDiff, Nat.reduceLT, Nat.reduceEqDiff]
  | true =>
    cases h2 : rowOk ls with
    | false => simp +contextual only [a_s_l6On, c_s_l6On, e_s_l6Beam, e_s_l2Row (cells_mono h _), h1, h2, go_sem, entry, joinEsc, if_pos, reduceIte, Nat.reduceAdd, Nat.reduceLeDiff, Nat.reduceLT, Nat.reduceEqDiff]
    | true =>
      obtain ⟨z4, z6, z7, hl⟩ := loop_s_l6On (pr := pr) (e := none) (c := c) (bv := bmV x a b) (y5 := .bool false) (cells_mono h [Blk.cells [.int .i64 x, .int .i64 a, .int .i64 b] true]) hb hn ls.length 0 .undef .undef rfl
      have h0 : ((0 : Nat) : Int) = 0 := rfl
      rw [h0, List.drop_zero] at hl
      cases h3 : ls.any (fun l => decide (x < l.1)) <;> rw [h3] at hl <;> simp +contextual only [a_s_l6On, c_s_l6On, e_s_l6Beam, e_s_l2Row (cells_mono h _), h1, h2, hl, go_sem, entry, joinEsc, if_pos, reduceIte, Nat.reduceAdd, Nat.reduceLeDiff, Nat.reduceLT, Nat.reduceEqDiff] <;> trace_state

end Go.Proofs.Ythkgpblohjpcdaa.Slim

/- RestsOn, and its law. -/
namespace Go.Proofs.Ythkgpblohjpcdaa.Slim
open Go
set_option linter.unusedSimpArgs false
set_option linter.unusedVariables false

variable {pr : Prims} {H : List Blk} {e : Option Nat}

theorem ArgL.more {av : AV} {ls : List Ld} (h : ArgL H av ls) (G : List Blk) : ArgL (H ++ G) av ls := by
  obtain ⟨p, sz, c, h1, h2, h3⟩ := h
  refine ⟨p, sz, c, h1, h2, fun hne => ?_⟩
  obtain ⟨h4, b, h5, h6⟩ := h3 hne
  exact ⟨h4, b, h5, cells_mono h6 G⟩

theorem loads_of : ∀ (es : List (List Int)), (∀ e ∈ es, e.length = 2) → ∃ ls : List Ld, es.flatten.map (AV.int .i64) = encL ls ∧ ls.length = es.length
  | [], _ => ⟨[], rfl, rfl⟩
  | e :: es, h => by
    obtain ⟨ls, h1, h2⟩ := loads_of es (fun e' h' => h e' (by simp [h']))
    have h0 := h e (by simp)
    match e, h0 with
    | [x, y], _ => exact ⟨(x, y) :: ls, by simp [encL, h1], by simp [h2]⟩

theorem argL_of {av : AV} {es : List (List Int)} (h : IsArg H av .i64 2 es) : ∃ ls, ArgL H av ls := by
  obtain ⟨h1, h2⟩ := h
  rcases h2 with ⟨rfl, rfl⟩ | ⟨b, cap, rfl, h3, h4, h5⟩
  · exact ⟨[], none, 0, none, rfl, Nat.zero_le _, fun h => absurd rfl h⟩
  · obtain ⟨ls, h6, h7⟩ := loads_of es (fun e he => (h1 e he).1)
    refine ⟨ls, some (b, 0), 2, some cap, by rw [h7], by omega, fun _ => ⟨rfl, b, rfl, ?_⟩⟩
    unfold cellsAt
    rw [h5, h6]

theorem e_l_eqLoadS {b1 b2 : Nat} {c1 c2 : Option Nat} {ls : List Ld} (h1 : cellsAt H b1 = some (encL ls)) (h2 : cellsAt H b2 = some (encL ls)) (hn : ls.length ≤ 9223372036854775806) :
    call T pr f_l_eqLoadS [slL b1 ls.length c1, slL b2 ls.length c2] ⟨H, e⟩ = some (.bool true, ⟨H, e⟩) := by
  obtain ⟨z5, z6, hl⟩ := loop_l_eqLoadS (pr := pr) (e := none) (c1 := c1) (c2 := c2) h1 h2 hn ls.length 0 .undef .undef (.bool false) rfl
  have h0 : ((0 : Nat) : Int) = 0 := rfl
  rw [h0] at hl
  rw [call_eq t_l_eqLoadS]
  simp +contextual only [a_l_eqLoadS, c_l_eqLoadS, hl, decide_true, go_sem, entry, joinEsc, if_pos, reduceIte, Nat.reduceAdd, Nat.reduceLeDiff, Nat.reduceLT, Nat.reduceEqDiff]

theorem e_i_Beam_rests {q : Nat} {c : Option Nat} {ls : List Ld} (h : cellsAt H q = some (encL ls)) (hn : ls.length ≤ 9223372036854775806) (x a b : Int) : call T pr f_i_Beam_rests [bmV x a b, slL q ls.length c] ⟨H, e⟩ =
    some (.bool (decide (sideW ls a b = 0)), ⟨H, e⟩) := by
  rw [call_eq t_i_Beam_rests]
  simp +contextual only [a_i_Beam_rests, c_i_Beam_rests, e_i_tipSide (cells_mono h _) hn, go_sem, entry, joinEsc, if_pos, reduceIte, Nat.reduceAdd, Nat.reduceLeDiff, Nat.reduceLT, Nat.reduceEqDiff]

end Go.Proofs.Ythkgpblohjpcdaa.Slim

/- Rows that grow. -/
namespace Go.Proofs.Ythkgpblohjpcdaa.Slim
open Go
set_option linter.unusedSimpArgs false
set_option linter.unusedVariables false

variable {pr : Prims} {H : List Blk} {e : Option Nat}

/-- what an append leaves of the blocks before it -/
def killIf (cap : Option Nat) (j : Nat) (G : List Blk) : List Blk := if cap = some 0 then G else G.set j .dead
theorem killIf_length (cap : Option Nat) (j : Nat) (G : List Blk) : (killIf cap j G).length = G.length := by unfold killIf; split <;> simp

theorem appendV_more {G : List Blk} {j k n sz bytes : Nat} {cs new : List AV} {cap : Option Nat} {str : Bool} {x : AV} (hb : G[j]? = some (.cells cs true)) (hx : srcCells str (H ++ G) x = some (k, new)) (hk : 0 < k)
    (hcs : cs.length = n * sz) (hnew : new.length = k * sz) (hmax : (n + k) * bytes ≤ maxBytes) (hcap : cap = some 0 → n = 0) :
    appendV (H ++ G) e str sz bytes (.slice (some (H.length + j, 0)) sz n cap) x = some (.slice (some (H.length + G.length, 0)) sz (n + k) none, ⟨H ++ (killIf cap j G ++ [.cells (cs ++ new) true]), e⟩) := by
  unfold appendV
  simp only [blkAt_newk, hb, hx]
  rw [if_pos ⟨trivial, hmax, hnew, by omega⟩]
  unfold killIf
  by_cases hc : cap = some 0
  · have hn := hcap hc
    subst hn
    have : cs = [] := by simpa using hcs
    subst this
    rw [if_pos ⟨hc, hk⟩, if_pos hc]
    simp
  · rw [if_neg (fun h => hc h.1), if_pos trivial, if_neg hc]
    have h1 : List.take (n * sz) (List.drop 0 cs) = cs := by rw [List.drop_zero, ← hcs, List.take_length]
    rw [h1, set_newk]
    simp

theorem srcCells_new (L : List Blk) (n sz : Nat) (cap : Option Nat) (cs : List AV) (b : Nat) (h : cellsAt L b = some cs) (hl : cs.length = n * sz) : srcCells false L (.slice (some (b, 0)) sz n cap) = some (n, cs) := by
  unfold srcCells
  simp only [Bool.false_eq_true, if_false, h]
  rw [if_pos (by omega), List.drop_zero, ← hl, List.take_length]

/-- one load more -/
theorem append_ld {G : List Blk} {j : Nat} {o : List Ld} {cap : Option Nat} (hG : G[j]? = some (.cells (encL o) true)) (hcap : cap = some 0 → o = []) (hmb : (o.length + 1) * 16 ≤ maxBytes) (a b : Int) :
    appendV (H ++ (G ++ [.cells [.int .i64 a, .int .i64 b] true])) e false 2 16 (slL (H.length + j) o.length cap) (.slice (some (H.length + G.length, 0)) 2 1 (some 1)) =
      some (slL (H.length + (G.length + 1)) (o.length + 1) none, ⟨H ++ (killIf cap j (G ++ [.cells [.int .i64 a, .int .i64 b] true]) ++ [.cells (encL o ++ [.int .i64 a, .int .i64 b]) true]), e⟩) := by
  have hj : j < G.length := (List.getElem?_eq_some_iff.mp hG).1
  rw [appendV_more (k := 1) (cs := encL o) (new := [.int .i64 a, .int .i64 b]) (by rw [List.getElem?_append_left hj]; exact hG)
    (srcCells_new _ 1 2 _ _ _ (by rw [cellsAt_newk, cellsAt_new0, cellsAt_cons0]) rfl) (by omega) (encL_length o) rfl hmb (fun h => by rw [hcap h]; rfl)]
  simp

/-- the loads of a convoy that have come so far -/
def rowAt (x : Int) (ls : List Ld) : List Ld := (ls.filter fun l => decide (l.1 ≤ x)).map fun l => (IntKind.i64.wrap (x - l.1), l.2)

end Go.Proofs.Ythkgpblohjpcdaa.Slim

/- Convoys. -/
namespace Go.Proofs.Ythkgpblohjpcdaa.Slim
open Go
set_option linter.unusedSimpArgs false
set_option linter.unusedVariables false

variable {pr : Prims} {H : List Blk} {e : Option Nat}

theorem rowAt_cons (x : Int) (l : Ld) (ls : List Ld) : rowAt x (l :: ls) = if l.1 ≤ x then (IntKind.i64.wrap (x - l.1), l.2) :: rowAt x ls else rowAt x ls := by
  unfold rowAt
  by_cases hx : l.1 ≤ x <;> simp [hx]

/-- may it come behind a load at prev? -/
def cvOk (prev : Option Int) (l : Ld) : Bool := ((decide (0 ≤ l.1) && decide (l.1 ≤ 20)) && (decide (1 ≤ l.2) && decide (l.2 ≤ 99))) && (match prev with | none => true | some p => decide (p ≤ l.1))
def cvAll (prev : Option Int) : List Ld → Bool
  | [] => true
  | l :: ls => cvOk prev l && cvAll (some l.1) ls
/-- the load before -/
def prevAt (ls : List Ld) : Nat → Option Int
  | 0 => none
  | i + 1 => (ls[i]?).map (·.1)

theorem wrap_pred {i : Nat} (h : i < 9223372036854775807) : IntKind.i64.wrap (((i + 1 : Nat) : Int) - 1) = (i : Int) := by
  rw [wrap64 (by omega) (by omega)]; omega

end Go.Proofs.Ythkgpblohjpcdaa.Slim

/- Convoys, told whole; crossing. -/
namespace Go.Proofs.Ythkgpblohjpcdaa.Slim
open Go
set_option linter.unusedSimpArgs false
set_option linter.unusedVariables false

variable {pr : Prims} {H : List Blk} {e : Option Nat}

/-- a convoy -/
def convOk (ls : List Ld) : Bool := cvAll none ls && ((decide (1 ≤ ls.length) && decide (ls.length ≤ 6)) && (match ls with | [] => false | l :: _ => decide (l.1 = 0)))

def cvOkI (prev : Option Int) (l : Ld) : Bool := ((decide (0 ≤ l.1) && decide (l.1 ≤ 20)) && (decide (1 ≤ l.2) && decide (l.2 ≤ 99))) && (match prev with | none => decide (l.1 = 0) | some p => decide (p ≤ l.1))
def cvAllI (prev : Option Int) : List Ld → Bool
  | [] => true
  | l :: ls => cvOkI prev l && cvAllI (some l.1) ls

theorem cvAllI_some (p : Int) : ∀ ls, cvAllI (some p) ls = cvAll (some p) ls
  | [] => rfl
  | l :: ls => by simp only [cvAllI, cvAll, cvOkI, cvOk, cvAllI_some l.1 ls]

theorem convOk_eq (ls : List Ld) : convOk ls = (cvAllI none ls && (decide (1 ≤ ls.length) && decide (ls.length ≤ 6))) := by
  unfold convOk
  cases ls with
  | nil => simp
  | cons l ls =>
    simp only [cvAll, cvAllI, cvOk, cvOkI, cvAllI_some]
    cases decide (l.1 = 0) <;> cases (decide (0 ≤ l.1) && decide (l.1 ≤ 20)) <;> cases (decide (1 ≤ l.2) && decide (l.2 ≤ 99)) <;> simp

/-- all positions from a to b -/
def crossFrom (ls : List Ld) (a b : Int) : Nat → Nat → Bool
  | 0, _ => true
  | k + 1, x => decide (sideW (rowAt x ls) a b = 0) && crossFrom ls a b k (x + 1)

end Go.Proofs.Ythkgpblohjpcdaa.Slim

/- Slices of numbers. -/
namespace Go.Proofs.Ythkgpblohjpcdaa.Slim

open Go

set_option linter.unusedSimpArgs false

set_option linter.unusedVariables false

variable {pr : Prims} {H : List Blk} {e : Option Nat}

abbrev encI (ls : List Int) : List AV := ls.map (AV.int .i64)

abbrev slI (b n : Nat) (c : Option Nat) : AV := .slice (some (b, 0)) 1 n c

theorem part_encI {ls : List Int} {i : Nat} {x : Int} (sz : Nat) (h : ls[i]? = some x) : part false (encI ls) i sz = some (.int .i64 x) := by
  rw [part_false, List.getElem?_map, h]; rfl

theorem under_encI (n : Nat) : ∀ ls : List Int, ((encI ls).all fun c => c.under n) = true
  | [] => rfl
  | l :: ls => by simp [encI, AV.under]

theorem zeros_encI : ∀ n, zeros n [.int .i64 0] = encI (List.replicate n 0)
  | 0 => rfl
  | n + 1 => by
    have := zeros_encI n
    unfold zeros encI at *
    simp only [List.replicate_succ, List.flatten_cons, List.map_cons, List.cons_append, List.nil_append, this]

theorem setRange_encI {X : List Int} {i : Nat} {a : Int} (h : i < X.length) : setRange (encI X) i [.int .i64 a] = encI (X.set i a) := by
  induction X generalizing i with
  | nil => simp at h
  | cons x X ih =>
    cases i with
    | zero => simp [encI, setRange]
    | succ i =>
      have := ih (i := i) (by simpa using h)
      simp only [encI, List.map_cons, List.set_cons_succ] at *
      rw [setRange_k, this]

theorem take_set_succ' {X ls : List Int} {i : Nat} (hi : i < ls.length) (hX : X.length = ls.length) (h : X.take i = ls.take i) : (X.set i ls[i]).take (i + 1) = ls.take (i + 1) := by
  rw [List.take_succ_eq_append_getElem (by rw [List.length_set]; omega), List.take_succ_eq_append_getElem hi]
  rw [List.take_set_of_le (Nat.le_refl _), h]
  simp

/-- a slice of numbers, as a law is handed it -/
def ArgI (H : List Blk) (av : AV) (ls : List Int) : Prop :=
  ∃ p sz c, av = .slice p sz ls.length c ∧ ls.length ≤ maxLen ∧ (ls ≠ [] → sz = 1 ∧ ∃ b, p = some (b, 0) ∧ cellsAt H b = some (encI ls))

theorem ArgI.more {av : AV} {ls : List Int} (h : ArgI H av ls) (G : List Blk) : ArgI (H ++ G) av ls := by
  obtain ⟨p, sz, c, h1, h2, h3⟩ := h
  refine ⟨p, sz, c, h1, h2, fun hne => ?_⟩
  obtain ⟨h4, b, h5, h6⟩ := h3 hne
  exact ⟨h4, b, h5, cells_mono h6 G⟩

theorem ints_of : ∀ (es : List (List Int)), (∀ e ∈ es, e.length = 1) → ∃ ls : List Int, es.flatten = ls ∧ ls.length = es.length
  | [], _ => ⟨[], rfl, rfl⟩
  | e :: es, h => by
    obtain ⟨ls, h1, h2⟩ := ints_of es (fun e' h' => h e' (by simp [h']))
    have h0 := h e (by simp)
    match e, h0 with
    | [x], _ => exact ⟨x :: ls, by simp [h1], by simp [h2]⟩

theorem argI_of {av : AV} {es : List (List Int)} (h : IsArg H av .i64 1 es) : ∃ ls, ArgI H av ls := by
  obtain ⟨h1, h2⟩ := h
  rcases h2 with ⟨rfl, rfl⟩ | ⟨b, cap, rfl, h3, h4, h5⟩
  · exact ⟨[], none, 0, none, rfl, Nat.zero_le _, fun h => absurd rfl h⟩
  · obtain ⟨ls, h6, h7⟩ := ints_of es (fun e he => (h1 e he).1)
    refine ⟨ls, some (b, 0), 1, some cap, by rw [h7], by omega, fun _ => ⟨rfl, b, rfl, ?_⟩⟩
    unfold cellsAt
    rw [h5, h6]

theorem loop_l_toIntS {p : Option (Nat × Nat)} {sz : Nat} {c : Option Nat} {ls : List Int} {r : AV} (ha : ls ≠ [] → sz = 1 ∧ ∃ b, p = some (b, 0) ∧ cellsAt H b = some (encI ls)) (hn : ls.length ≤ 1048576) :
    ∀ (k i : Nat) (X : List Int) (y4 : AV), k + i = ls.length → X.length = ls.length → X.take i = ls.take i → ∃ z4, run T pr (.loop w_l_toIntS_1) ⟨[.slice p sz ls.length c, r, slI H.length ls.length (some ls.length), .int .i64 i, y4], ⟨H ++ [.cells (encI X) true], e⟩⟩ =
      some (Ex.exit 0, ⟨[.slice p sz ls.length c, r, slI H.length ls.length (some ls.length), .int .i64 ls.length, z4], ⟨H ++ [.cells (encI ls) true], e⟩⟩)
  | 0, i, X, y4, hk, hX, ht => by
    have hi : i = ls.length := by omega
    subst hi
    rw [List.take_of_length_le (by omega), List.take_of_length_le (by omega)] at ht
    subst ht
    refine ⟨.bool false, ?_⟩
    rw [run_loop]
    generalize run T pr (.loop w_l_toIntS_1) = R
    simp +contextual only [w_l_toIntS_1, Nat.lt_irrefl, decide_false, go_sem, entry, joinEsc, if_pos, reduceIte, Nat.reduceAdd, Nat.reduceLeDiff, Nat.reduceLT, Nat.reduceEqDiff]
  | k + 1, i, X, y4, hk, hX, ht => by
    have hi : i < ls.length := by omega
    have hl : ls[i]? = some ls[i] := List.getElem?_eq_getElem hi
    obtain ⟨rfl, b, rfl, hb⟩ := ha (by intro h; subst h; simp at hi)
    obtain ⟨z4, ih⟩ := loop_l_toIntS (c := c) (r := r) ha hn k (i + 1) (X.set i ls[i]) (.bool true) (by omega) (by simpa using hX) (take_set_succ' hi hX ht)
    refine ⟨z4, ?_⟩
    rw [run_loop]
    generalize run T pr (.loop w_l_toIntS_1) = R at ih ⊢
    have hle : i + 1 ≤ (encI X).length := by rw [List.length_map]; omega
    simp +contextual only [w_l_toIntS_1, cells_mono hb, hi, hl, part_encI _ hl, hle, setRange_encI (show i < X.length by omega), wrap_succ (show i < 9223372036854775807 by omega), decide_true, go_sem, entry, joinEsc, if_pos, reduceIte, Nat.reduceAdd, Nat.reduceLeDiff, Nat.reduceLT, Nat.reduceEqDiff]
    exact ih

theorem e_l_toIntS {av : AV} {ls : List Int} (ha : ArgI H av ls) (hn : ls.length ≤ 1048576) : call T pr f_l_toIntS [av] ⟨H, e⟩ = some (slI H.length ls.length (some ls.length), ⟨H ++ [.cells (encI ls) true], e⟩) := by
  obtain ⟨p, sz, c, rfl, _, ha⟩ := ha
  obtain ⟨z4, hl⟩ := loop_l_toIntS (pr := pr) (e := none) (c := c) (r := .slice none 0 0 none) ha hn ls.length 0 (List.replicate ls.length 0) .undef (by omega) (by simp) (by simp)
  rw [call_eq t_l_toIntS]
  have h0 : ((0 : Nat) : Int) = 0 := rfl
  have hmb : (ls.length : Int) * ((8 : Nat) : Int) ≤ ((maxBytes : Nat) : Int) := by unfold maxBytes; omega
  rw [h0, ← zeros_encI] at hl
  simp +contextual only [a_l_toIntS, c_l_toIntS, hmb, hl, under_encI, go_sem, entry, joinEsc, if_pos, reduceIte, Nat.reduceAdd, Nat.reduceLeDiff, Nat.reduceLT, Nat.reduceEqDiff]

theorem loop_l_eqIntS {b1 b2 : Nat} {c1 c2 : Option Nat} {ls : List Int} {x4 : AV} (h1 : cellsAt H b1 = some (encI ls)) (h2 : cellsAt H b2 = some (encI ls)) (hn : ls.length ≤ 9223372036854775806) :
    ∀ (k i : Nat) (x5 x6 : AV), k + i = ls.length → ∃ y5 y6, run T pr (.loop w_l_eqIntS_1) ⟨[slI b1 ls.length c1, slI b2 ls.length c2, .bool false, .int .i64 i, x4, x5, x6], ⟨H, e⟩⟩ =
      some (.exit 0, ⟨[slI b1 ls.length c1, slI b2 ls.length c2, .bool false, .int .i64 ls.length, x4, y5, y6], ⟨H, e⟩⟩)
  | 0, i, x5, x6, hk => by
    have hi : i = ls.length := by omega
    subst hi
    refine ⟨.bool false, x6, ?_⟩
    rw [run_loop]
    generalize run T pr (.loop w_l_eqIntS_1) = R
    simp +contextual only [w_l_eqIntS_1, Nat.lt_irrefl, decide_false, go_sem, entry, joinEsc, if_pos, reduceIte, Nat.reduceAdd, Nat.reduceLeDiff, Nat.reduceLT, Nat.reduceEqDiff]
  | k + 1, i, x5, x6, hk => by
    have hi : i < ls.length := by omega
    obtain ⟨y5, y6, ih⟩ := loop_l_eqIntS (c1 := c1) (c2 := c2) (x4 := x4) h1 h2 hn k (i + 1) (.bool true) (.bool false) (by omega)
    refine ⟨y5, y6, ?_⟩
    rw [run_loop]
    have hl : ls[i]? = some ls[i] := List.getElem?_eq_getElem hi
    generalize run T pr (.loop w_l_eqIntS_1) = R at ih ⊢
    simp +contextual only [w_l_eqIntS_1, h1, h2, hi, hl, part_encI _ hl, wrap_succ (show i < 9223372036854775807 by omega), decide_true, Bool.not_true, go_sem, entry, joinEsc, if_pos, reduceIte, Nat.reduceAdd, Nat.reduceLeDiff, Nat.reduceLT, Nat.reduceEqDiff]
    exact ih

theorem e_l_eqIntS {b1 b2 : Nat} {c1 c2 : Option Nat} {ls : List Int} (h1 : cellsAt H b1 = some (encI ls)) (h2 : cellsAt H b2 = some (encI ls)) (hn : ls.length ≤ 9223372036854775806) :
    call T pr f_l_eqIntS [slI b1 ls.length c1, slI b2 ls.length c2] ⟨H, e⟩ = some (.bool true, ⟨H, e⟩) := by
  obtain ⟨z5, z6, hl⟩ := loop_l_eqIntS (pr := pr) (e := none) (c1 := c1) (c2 := c2) (x4 := .bool false) h1 h2 hn ls.length 0 .undef .undef rfl
  have h0 : ((0 : Nat) : Int) = 0 := rfl
  rw [h0] at hl
  rw [call_eq t_l_eqIntS]
  simp +contextual only [a_l_eqIntS, c_l_eqIntS, hl, decide_true, go_sem, entry, joinEsc, if_pos, reduceIte, Nat.reduceAdd, Nat.reduceLeDiff, Nat.reduceLT, Nat.reduceEqDiff]

end Go.Proofs.Ythkgpblohjpcdaa.Slim

/- Rafts: what is valid, and the reserves. -/
namespace Go.Proofs.Ythkgpblohjpcdaa.Slim

open Go

set_option linter.unusedSimpArgs false

set_option linter.unusedVariables false

variable {pr : Prims} {H : List Blk} {e : Option Nat}

def baseOk (a b : Int) : Bool := ((decide (0 ≤ a) && decide (a ≤ 60)) && (decide (0 ≤ b) && decide (b ≤ 60))) && decide (a ≤ b)

abbrev rfV (a b o : Int) : AV := .agg [.int .i64 a, .int .i64 b, .int .i64 o]

def raftOk (a b o : Int) : Bool := baseOk a b && (decide (1 ≤ o) && decide (o ≤ 99))

def cargoOk (a b o : Int) (ls : List Ld) : Bool := (raftOk a b o && rowOk ls) && decide (ls.length ≤ 8)

end Go.Proofs.Ythkgpblohjpcdaa.Slim

/- Rafts: the reserves. -/
namespace Go.Proofs.Ythkgpblohjpcdaa.Slim

open Go

set_option linter.unusedSimpArgs false

set_option linter.unusedVariables false

variable {pr : Prims} {H : List Blk} {e : Option Nat}

abbrev wr (x : Int) : Int := IntKind.i64.wrap x

theorem wr_ex (x : Int) : ∃ k : Int, wr x = x + k * 18446744073709551616 := by
  refine ⟨if x % 18446744073709551616 ≥ 9223372036854775808 then -(x / 18446744073709551616) - 1 else -(x / 18446744073709551616), ?_⟩
  unfold wr IntKind.wrap
  simp [IntKind.signed, IntKind.bits]
  split <;> omega

theorem wr_add_mul (x k : Int) : wr (x + k * 18446744073709551616) = wr x := by
  unfold wr IntKind.wrap
  simp [IntKind.signed, IntKind.bits]

/-- is item i in the set n? -/
def bitW (n : Int) (i : Nat) : Bool := decide (andI .i64 (shrI .i64 n i) 1 = 1)

def resL (a acc : Int) (l : Ld) : Int := wr (acc + wr (wr (2 * l.2) * wr (l.1 - a)))

def resR (b acc : Int) (l : Ld) : Int := wr (acc + wr (wr (2 * l.2) * wr (b - l.1)))

theorem resR_eq (b acc : Int) (l : Ld) : wr (acc - wr (wr (2 * l.2) * wr (l.1 - b))) = resR b acc l := by
  unfold resR
  obtain ⟨k1, h1⟩ := wr_ex (l.1 - b)
  obtain ⟨k2, h2⟩ := wr_ex (b - l.1)
  generalize wr (2 * l.2) = u
  obtain ⟨k3, h3⟩ := wr_ex (u * wr (l.1 - b))
  obtain ⟨k4, h4⟩ := wr_ex (u * wr (b - l.1))
  rw [h3, h4, h1, h2]
  have : acc - (u * (l.1 - b + k1 * 18446744073709551616) + k3 * 18446744073709551616) = acc + (u * (b - l.1 + k2 * 18446744073709551616) + k4 * 18446744073709551616) + (-(u * (k1 + k2)) - k3 - k4) * 18446744073709551616 := by
    have e1 : u * (l.1 - b + k1 * 18446744073709551616) = u * (l.1 - b) + u * k1 * 18446744073709551616 := by rw [Int.mul_add, Int.mul_assoc]
    have e2 : u * (b - l.1 + k2 * 18446744073709551616) = u * (b - l.1) + u * k2 * 18446744073709551616 := by rw [Int.mul_add, Int.mul_assoc]
    have e3 : u * (b - l.1) = -(u * (l.1 - b)) := by rw [← Int.mul_neg]; congr 1; omega
    have e4 : u * (k1 + k2) = u * k1 + u * k2 := Int.mul_add _ _ _
    rw [e1, e2, e3, e4]
    omega
  rw [this, wr_add_mul]

/-- over the items of the set n, from number i on -/
def overBits (f : Int → Ld → Int) (n : Int) : Nat → List Ld → Int → Int
  | _, [], acc => acc
  | i, l :: ls, acc => overBits f n (i + 1) ls (if bitW n i = true then f acc l else acc)

theorem shr_nat (x : Int) (i : Nat) : binop 0 .shr (.int .i64 x) (.int .i64 (i : Int)) = some (.int .i64 (shrI .i64 x i)) := by
  rw [binop_shr, if_neg (by omega)]

end Go.Proofs.Ythkgpblohjpcdaa.Slim

/- Rafts: safe sets. -/
namespace Go.Proofs.Ythkgpblohjpcdaa.Slim

open Go

set_option linter.unusedSimpArgs false

set_option linter.unusedVariables false

variable {pr : Prims} {H : List Blk} {e : Option Nat}

def own0 (a b o : Int) : Int := wr (o * wr (b - a))

def safeW (a b o : Int) (ls : List Ld) (n : Int) : Bool := decide (0 ≤ overBits (resL a) n 0 ls (own0 a b o)) && decide (0 ≤ overBits (resR b) n 0 ls (own0 a b o))

end Go.Proofs.Ythkgpblohjpcdaa.Slim

/- Orders of a cargo. -/
namespace Go.Proofs.Ythkgpblohjpcdaa.Slim

open Go

set_option linter.unusedSimpArgs false

set_option linter.unusedVariables false

variable {pr : Prims} {H : List Blk} {e : Option Nat}

theorem length_le_of_sub {r : List Int} : ∀ {l : List Int}, r.Nodup → (∀ x ∈ r, x ∈ l) → r.length ≤ l.length := by
  induction r with
  | nil => intro l _ _; exact Nat.zero_le _
  | cons a r ih =>
    intro l hn hs
    have ha := hs a (by simp)
    obtain ⟨h1, h2⟩ := List.nodup_cons.mp hn
    have h3 := ih (l := l.erase a) h2 (fun x hx => by
      have hne : x ≠ a := fun e => h1 (e ▸ hx)
      exact (List.mem_erase_of_ne hne).mpr (hs x (by simp [hx])))
    have h4 := List.length_erase_of_mem ha
    have h5 := List.length_pos_of_mem ha
    simp only [List.length_cons]
    omega

/-- the numbers below n -/
def nums (n : Nat) : List Int := (List.range n).map fun (i : Nat) => (i : Int)

theorem nums_length (n : Nat) : (nums n).length = n := by simp [nums]

theorem mem_nums {n : Nat} {x : Int} : x ∈ nums n ↔ 0 ≤ x ∧ x < n := by
  unfold nums
  rw [List.mem_map]
  constructor
  · rintro ⟨i, hi, rfl⟩
    rw [List.mem_range] at hi
    omega
  · rintro ⟨h1, h2⟩
    exact ⟨x.toNat, by rw [List.mem_range]; omega, by omega⟩

theorem nums_nodup (n : Nat) : (nums n).Nodup := by
  unfold nums
  refine List.Pairwise.map _ ?_ List.nodup_range
  intro a b h e
  exact h (by omega)

/-- a list of n numbers has all numbers below n exactly if it has none twice, and no other -/
theorem order_iff {l : List Int} {n : Nat} (hl : l.length = n) : (∀ x : Int, 0 ≤ x → x < n → x ∈ l) ↔ (l.Nodup ∧ ∀ x ∈ l, 0 ≤ x ∧ x < n) := by
  constructor
  · intro h
    have key : ∀ (l' : List Int), (∀ x ∈ nums n, x ∈ l') → n ≤ l'.length := fun l' h' => by
      have := length_le_of_sub (nums_nodup n) h'
      rwa [nums_length] at this
    have hin : ∀ x ∈ l, 0 ≤ x ∧ x < n := by
      intro x hx
      refine Classical.byContradiction fun hc => ?_
      have := key (l.erase x) (fun y hy => by
        have hy' := mem_nums.mp hy
        have hne : y ≠ x := fun e => hc (e ▸ hy')
        exact (List.mem_erase_of_ne hne).mpr (h y hy'.1 hy'.2))
      have h4 := List.length_erase_of_mem hx
      have h5 := List.length_pos_of_mem hx
      omega
    refine ⟨?_, hin⟩
    have gen : ∀ (l : List Int), ¬ l.Nodup → ∃ x ∈ l, x ∈ l.erase x := by
      intro l
      induction l with
      | nil => intro h; exact absurd List.nodup_nil h
      | cons a l ih =>
        intro h
        by_cases ha : a ∈ l
        · exact ⟨a, by simp, by simpa using ha⟩
        · have hn : ¬ l.Nodup := fun hn => h (List.nodup_cons.mpr ⟨ha, hn⟩)
          obtain ⟨x, h1, h2⟩ := ih hn
          have hne : ¬ a = x := fun e => ha (e ▸ h1)
          refine ⟨x, by simp [h1], ?_⟩
          rw [List.erase_cons_tail (by simpa using hne)]
          simp [h2]
    refine Classical.byContradiction fun hc => ?_
    obtain ⟨x, h1, h2⟩ := gen l hc
    have := key (l.erase x) (fun y hy => by
      have hy' := mem_nums.mp hy
      by_cases e : y = x
      · rw [e]; exact h2
      · exact (List.mem_erase_of_ne e).mpr (h y hy'.1 hy'.2))
    have h4 := List.length_erase_of_mem h1
    have h5 := List.length_pos_of_mem h1
    omega
  · rintro ⟨h1, h2⟩ x hx0 hx1
    refine Classical.byContradiction fun hc => ?_
    have := length_le_of_sub (r := x :: l) (l := nums n) (List.nodup_cons.mpr ⟨hc, h1⟩) (fun y hy => by
      rcases List.mem_cons.mp hy with rfl | hy
      · exact mem_nums.mpr ⟨hx0, hx1⟩
      · exact mem_nums.mpr (h2 y hy))
    rw [nums_length] at this
    simp at this
    omega

theorem bits_facts : ∀ m : Nat, m < 256 → ∀ x : Nat, x < 8 → (m.testBit x = bitW m x ∧ shlI .i64 1 (x : Int) = ((2 ^ x : Nat) : Int) ∧ (m.testBit x = false → orI .i64 m (shlI .i64 1 (x : Int)) = ((m + 2 ^ x : Nat) : Int) ∧ wr ((m : Int) + shlI .i64 1 (x : Int)) = ((m + 2 ^ x : Nat) : Int) ∧ m + 2 ^ x < 256 ∧ ∀ y : Nat, y < 8 → (m + 2 ^ x).testBit y = (m.testBit y || decide (x = y)))) := by
  decide +kernel

end Go.Proofs.Ythkgpblohjpcdaa.Slim

/- Rafts: in how many ways the rest can be loaded, on both sides. -/
namespace Go.Proofs.Ythkgpblohjpcdaa.Slim

open Go

set_option linter.unusedSimpArgs false

set_option linter.unusedVariables false

variable {pr : Prims} {H : List Blk} {e : Option Nat}

theorem pow_facts : ∀ n : Nat, n < 9 → (shlI .i64 1 (n : Int) = ((2 ^ n : Nat) : Int) ∧ 2 ^ n ≤ 256 ∧ 0 < 2 ^ n) := by decide +kernel

theorem set_facts : ∀ n : Nat, n < 9 → ∀ c : Nat, c < 2 ^ n → ∀ i : Nat, i < n → (c.testBit i = false → c + 2 ^ i < 2 ^ n) ∧ (c + 1 = 2 ^ n → c.testBit i = true) := by decide +kernel

theorem getD_get {W : List Int} {c : Nat} (h : c < W.length) : W[c]? = some (W.getD c 0) := by
  rw [List.getD_eq_getElem?_getD, List.getElem?_eq_getElem h]; rfl

/-- c's ways, grown by those of the items from i on -/
def waysIn (c : Nat) : Nat → Nat → List Int → List Int
  | 0, _, W => W
  | k + 1, i, W => waysIn c k (i + 1) (if c.testBit i = true then W else W.set c (wr (W.getD c 0 + W.getD (c + 2 ^ i) 0)))

theorem waysIn_length {c : Nat} : ∀ (k i : Nat) (W : List Int), (waysIn c k i W).length = W.length
  | 0, _, W => rfl
  | k + 1, i, W => by
    rw [waysIn, waysIn_length k]
    split <;> simp

theorem waysIn_full {c : Nat} : ∀ (k i : Nat) (W : List Int), (∀ j, i ≤ j → j < i + k → c.testBit j = true) → waysIn c k i W = W
  | 0, _, W, _ => rfl
  | k + 1, i, W, h => by
    rw [waysIn, if_pos (h i (by omega) (by omega)), waysIn_full k _ _ (fun j h1 h2 => h j (by omega) (by omega))]

def waysStep (safe : Nat → Bool) (n c : Nat) (W : List Int) : List Int := if safe c = true then (if c + 1 = 2 ^ n then W.set c 1 else waysIn c n 0 W) else W

theorem waysStep_length (safe : Nat → Bool) (n c : Nat) (W : List Int) : (waysStep safe n c W).length = W.length := by
  unfold waysStep
  split
  · split
    · simp
    · exact waysIn_length _ _ _
  · rfl

/-- the sets below c, from the last one to the first -/
def waysDown (safe : Nat → Bool) (n : Nat) : Nat → List Int → List Int
  | 0, W => W
  | c + 1, W => waysDown safe n c (waysStep safe n c W)

theorem waysDown_length (safe : Nat → Bool) (n : Nat) : ∀ (c : Nat) (W : List Int), (waysDown safe n c W).length = W.length
  | 0, W => rfl
  | c + 1, W => by rw [waysDown, waysDown_length safe n c, waysStep_length]

def waysW (a b o : Int) (ls : List Ld) : List Int := waysDown (fun c => safeW a b o ls (c : Int)) ls.length (2 ^ ls.length) (List.replicate (2 ^ ls.length) 0)

theorem waysW_length (a b o : Int) (ls : List Ld) : (waysW a b o ls).length = 2 ^ ls.length := by
  unfold waysW
  rw [waysDown_length]
  simp

theorem bit_clear {c i : Nat} (hc : c < 256) (hi : i < 8) (h : c.testBit i = false) : andI .i64 (shrI .i64 c (i : Int)) 1 = 0 := by
  have : ∀ c : Nat, c < 256 → ∀ i : Nat, i < 8 → c.testBit i = false → andI .i64 (shrI .i64 c (i : Int)) 1 = 0 := by decide +kernel
  exact this c hc i hi h

theorem bit_set {c i : Nat} (hc : c < 256) (hi : i < 8) (h : c.testBit i = true) : andI .i64 (shrI .i64 c (i : Int)) 1 = 1 := by
  have : ∀ c : Nat, c < 256 → ∀ i : Nat, i < 8 → c.testBit i = true → andI .i64 (shrI .i64 c (i : Int)) 1 = 1 := by decide +kernel
  exact this c hc i hi h

theorem fin_ways (x : Blk) (W : List Int) (n : Nat) (c : Option Nat) (e0 : Option Nat) : finish 2 H.length e0 (slI (H.length + 1) n c) ⟨H ++ [x, Blk.cells (encI W) true], none⟩ = some (slI H.length n c, ⟨H ++ [Blk.cells (encI W) true], e0⟩) :=
  finish_two_at e0 rfl (under_encI _ _)

end Go.Proofs.Ythkgpblohjpcdaa.Slim

/- Rafts: what the ways tell; the next steps. -/
namespace Go.Proofs.Ythkgpblohjpcdaa.Slim

open Go

set_option linter.unusedSimpArgs false

set_option linter.unusedVariables false

variable {pr : Prims} {H : List Blk} {e : Option Nat}

/-- the items that are not in c -/
def mu (n c : Nat) : Nat := ((List.range n).filter fun i => !c.testBit i).length

theorem mu_facts : ∀ n : Nat, n < 9 → ∀ c : Nat, c < 2 ^ n → (mu n c ≤ 8 ∧ (mu n c = 0 ↔ c + 1 = 2 ^ n) ∧ ∀ i : Nat, i < n → c.testBit i = false → mu n c = mu n (c + 2 ^ i) + 1) := by decide +kernel

theorem mu_zero (n : Nat) : mu n 0 = n := by
  unfold mu
  rw [List.filter_eq_self.mpr (by simp)]
  simp

/-- item i can be added to c, and the rest in some way behind it -/
def okStep (W : List Int) (c i : Nat) : Bool := !c.testBit i && decide (0 < W.getD (c + 2 ^ i) 0)

def stepsW (W : List Int) (n c : Nat) : List Int := ((List.range n).filter (okStep W c)).map fun (i : Nat) => (i : Int)

theorem getD_set (W : List Int) (c d : Nat) (x : Int) (h : c < W.length) : (W.set c x).getD d 0 = if c = d then x else W.getD d 0 := by
  rw [List.getD_eq_getElem?_getD, List.getD_eq_getElem?_getD, List.getElem?_set]
  by_cases hd : c = d
  · subst hd; rw [if_pos rfl, if_pos rfl, if_pos h]; rfl
  · rw [if_neg hd, if_neg hd]

theorem waysIn_spec {c n b : Nat} : ∀ (k i : Nat) (W : List Int), k + i = n → c < W.length → (∀ j, j < n → c.testBit j = false → 0 ≤ W.getD (c + 2 ^ j) 0 ∧ W.getD (c + 2 ^ j) 0 ≤ b) → 0 ≤ W.getD c 0 → W.getD c 0 + k * b ≤ 9223372036854775807 →
    (∀ d, d ≠ c → (waysIn c k i W).getD d 0 = W.getD d 0) ∧ W.getD c 0 ≤ (waysIn c k i W).getD c 0 ∧ (waysIn c k i W).getD c 0 ≤ W.getD c 0 + k * b ∧ (W.getD c 0 < (waysIn c k i W).getD c 0 → ∃ j, j < n ∧ okStep W c j = true)
  | 0, i, W, hk, hc, hb, h0, hm => by
    rw [waysIn]
    refine ⟨fun d _ => rfl, Int.le_refl _, by omega, fun h => by omega⟩
  | k + 1, i, W, hk, hc, hb, h0, hm => by
    rw [waysIn]
    have hkb : ((k + 1 : Nat) : Int) * (b : Int) = (k : Int) * b + b := by
      rw [Int.natCast_add, Int.add_mul]; simp
    cases h1 : c.testBit i with
    | true =>
      rw [if_pos rfl]
      obtain ⟨r1, r2, r3, r4⟩ := waysIn_spec (n := n) (b := b) k (i + 1) W (by omega) hc hb h0 (by omega)
      exact ⟨r1, r2, by omega, r4⟩
    | false =>
      rw [if_neg (by simp)]
      obtain ⟨b1, b2⟩ := hb i (by omega) h1
      have hkb0 : (0 : Int) ≤ (k : Int) * b := Int.mul_nonneg (by omega) (by omega)
      have hwr : wr (W.getD c 0 + W.getD (c + 2 ^ i) 0) = W.getD c 0 + W.getD (c + 2 ^ i) 0 := wrap64 (by omega) (by omega)
      rw [hwr]
      generalize hx : W.getD c 0 + W.getD (c + 2 ^ i) 0 = x
      have hne : ∀ j, c + 2 ^ j ≠ c := fun j hj => by have := Nat.two_pow_pos j; omega
      have gs := fun d => getD_set W c d x hc
      obtain ⟨r1, r2, r3, r4⟩ := waysIn_spec (c := c) (n := n) (b := b) k (i + 1) (W.set c x) (by omega) (by simpa using hc)
        (fun j hj hjc => by rw [gs, if_neg (fun h => hne j h.symm)]; exact hb j hj hjc) (by rw [gs, if_pos rfl]; omega) (by rw [gs, if_pos rfl]; omega)
      rw [gs c, if_pos rfl] at r2 r3 r4
      refine ⟨fun d hd => by rw [r1 d hd, gs, if_neg (fun h => hd h.symm)], by omega, by omega, fun hlt => ?_⟩
      by_cases hz : 0 < W.getD (c + 2 ^ i) 0
      · exact ⟨i, by omega, by simp [okStep, h1]; simpa using hz⟩
      · obtain ⟨j, j1, j2⟩ := r4 (by omega)
        refine ⟨j, j1, ?_⟩
        unfold okStep at j2 ⊢
        rw [gs, if_neg (fun h => hne j h.symm)] at j2
        exact j2

/-- what is true of c's ways -/
def goodW (n : Nat) (W : List Int) (c : Nat) : Prop := 0 ≤ W.getD c 0 ∧ W.getD c 0 ≤ ((8 ^ mu n c : Nat) : Int) ∧ (0 < W.getD c 0 → mu n c ≠ 0 → ∃ i, i < n ∧ okStep W c i = true)

theorem goodW_of {n c : Nat} {W W' : List Int} (hs : ∀ d, c ≤ d → W'.getD d 0 = W.getD d 0) (h : goodW n W c) : goodW n W' c := by
  obtain ⟨h1, h2, h3⟩ := h
  refine ⟨by rw [hs c (Nat.le_refl _)]; exact h1, by rw [hs c (Nat.le_refl _)]; exact h2, fun k1 k2 => ?_⟩
  rw [hs c (Nat.le_refl _)] at k1
  obtain ⟨i, i1, i2⟩ := h3 k1 k2
  refine ⟨i, i1, ?_⟩
  unfold okStep at *
  rw [hs _ (Nat.le_add_right _ _)]
  exact i2

theorem waysDown_good {n F : Nat} (safe : Nat → Bool) (hn8 : n ≤ 8) (hF : F = 2 ^ n) : ∀ (C : Nat) (W : List Int), C ≤ F → W.length = F → (∀ c, c < C → W.getD c 0 = 0) → (∀ c, C ≤ c → c < F → goodW n W c) →
    ∀ c, c < F → goodW n (waysDown safe n C W) c
  | 0, W, _, _, _, h => fun c hc => by rw [waysDown]; exact h c (by omega) hc
  | C + 1, W, hC, hW, hz, h => by
    rw [waysDown]
    obtain ⟨m1, m2, m3⟩ := mu_facts n (by omega) C (by omega)
    have hz0 := hz C (by omega)
    have hCW : C < W.length := by omega
    have key : (∀ d, d ≠ C → (waysStep safe n C W).getD d 0 = W.getD d 0) ∧ goodW n (waysStep safe n C W) C := by
      unfold waysStep
      cases hs : safe C with
      | false =>
        rw [if_neg (by simp)]
        refine ⟨fun d _ => rfl, by omega, ?_, fun k1 => by omega⟩
        rw [hz0]; exact Int.natCast_nonneg _
      | true =>
        rw [if_pos rfl]
        by_cases hc : C + 1 = 2 ^ n
        · rw [if_pos hc]
          have gs := fun d => getD_set W C d 1 hCW
          have hm0 := m2.mpr hc
          refine ⟨fun d hd => by rw [gs, if_neg (fun h => hd h.symm)], ?_, ?_, fun _ k2 => absurd hm0 k2⟩
          · rw [gs, if_pos rfl]; omega
          · rw [gs, if_pos rfl, hm0]; simp
        · rw [if_neg hc]
          have hm0 : mu n C ≠ 0 := fun h => hc (m2.mp h)
          obtain ⟨m', hm'⟩ : ∃ m', mu n C = m' + 1 := ⟨mu n C - 1, by omega⟩
          have hp : 8 ^ m' ≤ 8 ^ 7 := Nat.pow_le_pow_right (by omega) (by omega)
          have hnb : (n : Int) * ((8 ^ m' : Nat) : Int) ≤ 8 * ((8 ^ m' : Nat) : Int) := Int.mul_le_mul_of_nonneg_right (by omega) (Int.natCast_nonneg _)
          have h87 : (8 : Nat) ^ 7 = 2097152 := by decide
          obtain ⟨r1, r2, r3, r4⟩ := waysIn_spec (c := C) (n := n) (b := 8 ^ m') n 0 W (by omega) hCW (fun j hj hjc => by
            have hlt := (set_facts n (by omega) C (by omega) j hj).1 hjc
            obtain ⟨g1, g2, _⟩ := h (C + 2 ^ j) (by have := Nat.two_pow_pos j; omega) (by omega)
            have := m3 j hj hjc
            rw [show mu n (C + 2 ^ j) = m' by omega] at g2
            exact ⟨g1, g2⟩) (by omega) (by omega)
          refine ⟨r1, by omega, ?_, fun k1 _ => ?_⟩
          · rw [hm', Nat.pow_succ]
            omega
          · obtain ⟨j, j1, j2⟩ := r4 (by omega)
            refine ⟨j, j1, ?_⟩
            unfold okStep at j2 ⊢
            rw [r1 _ (by have := Nat.two_pow_pos j; omega)]
            exact j2
    obtain ⟨k1, k2⟩ := key
    refine waysDown_good safe hn8 hF C _ (by omega) (by rw [waysStep_length]; exact hW) (fun c hc => by rw [k1 c (by omega)]; exact hz c (by omega)) ?_
    intro c hc1 hc2
    by_cases he : c = C
    · rw [he]; exact k2
    · exact goodW_of (W := W) (fun d hd => k1 d (by omega)) (h c (by omega) hc2)

theorem waysW_good {a b o : Int} {ls : List Ld} (hn8 : ls.length ≤ 8) : ∀ c, c < 2 ^ ls.length → goodW ls.length (waysW a b o ls) c :=
  waysDown_good _ hn8 rfl _ _ (Nat.le_refl _) (by simp) (fun c hc => by rw [List.getD_eq_getElem?_getD, List.getElem?_replicate, if_pos hc]; rfl) (fun c h1 h2 => absurd h1 (by omega))

theorem encI_append (a b : List Int) : encI (a ++ b) = encI a ++ encI b := by simp [encI]

/-- one number more -/
theorem append_in {G : List Blk} {j : Nat} {o : List Int} {cap : Option Nat} (hG : G[j]? = some (.cells (encI o) true)) (hcap : cap = some 0 → o = []) (hmb : (o.length + 1) * 8 ≤ maxBytes) (a : Int) :
    appendV (H ++ (G ++ [.cells [.int .i64 a] true])) e false 1 8 (slI (H.length + j) o.length cap) (.slice (some (H.length + G.length, 0)) 1 1 (some 1)) =
      some (slI (H.length + (G.length + 1)) (o.length + 1) none, ⟨H ++ (killIf cap j (G ++ [.cells [.int .i64 a] true]) ++ [.cells (encI o ++ [.int .i64 a]) true]), e⟩) := by
  have hj : j < G.length := (List.getElem?_eq_some_iff.mp hG).1
  rw [appendV_more (k := 1) (cs := encI o) (new := [.int .i64 a]) (by rw [List.getElem?_append_left hj]; exact hG)
    (srcCells_new _ 1 1 _ _ _ (by rw [cellsAt_newk, cellsAt_new0, cellsAt_cons0]) rfl) (by omega) (by simp) rfl hmb (fun h => by rw [hcap h]; rfl)]
  simp

end Go.Proofs.Ythkgpblohjpcdaa.Slim

/- Marks on memory that is told apart; results of two. -/
namespace Go.Proofs.Ythkgpblohjpcdaa.Slim

open Go

set_option linter.unusedSimpArgs false

set_option linter.unusedVariables false

variable {pr : Prims} {H : List Blk} {e : Option Nat}

theorem finish_one_set (v : AV) (e0 : Option Nat) (b : Nat) (x : Blk) (h : v.under H.length = true) : finish 1 H.length e0 v ⟨H.set b x, none⟩ = some (v, ⟨H.set b x, e0⟩) := by
  have : (H.set b x).take H.length = H.set b x := List.take_of_length_le (by simp)
  simp [finish, h, clean, this]

theorem finish_two_sb {G : List Blk} {j sz n o : Nat} {c : Option Nat} {cs : List AV} {wr : Bool} (x : Bool) (e0 : Option Nat) (hG : G[j]? = some (.cells cs wr)) (h : (cs.all fun c => c.under H.length) = true) :
    finish 2 H.length e0 (.tup [.slice (some (H.length + j, o)) sz n c, .bool x]) ⟨H ++ G, none⟩ = some (.tup [.slice (some (H.length, o)) sz n c, .bool x], ⟨H ++ [.cells cs wr], e0⟩) := by
  have hlt : ¬ H.length + j < H.length := by omega
  have hr : dedup (AV.roots H.length (.tup [.slice (some (H.length + j, o)) sz n c, .bool x])) = [H.length + j] := by
    unfold AV.roots AV.roots.go AV.roots.go AV.roots.go AV.roots
    rw [if_neg hlt]
    rfl
  have hb : (H ++ G)[H.length + j]? = some (.cells cs wr) := by rw [List.getElem?_append_right (by omega)]; simpa using hG
  unfold finish
  simp only [hr]
  have h2 : ([H.length + j].all fun b => flatBlk H.length (H ++ G)[b]?) = true := by
    simp only [List.all_cons, List.all_nil, Bool.and_true, hb, flatBlk]
    exact h
  simp only [clean, h2, and_self, if_true]
  simp [AV.rename, AV.rename.go, renum, hb, hlt]

theorem finish_two_sb0 (sz n : Nat) (c : Option Nat) (cs : List AV) (wr : Bool) (x : Bool) (e0 : Option Nat) (h : (cs.all fun c => c.under H.length) = true) :
    finish 2 H.length e0 (.tup [.slice (some (H.length, 0)) sz n c, .bool x]) ⟨H ++ [.cells cs wr], none⟩ = some (.tup [.slice (some (H.length, 0)) sz n c, .bool x], ⟨H ++ [.cells cs wr], e0⟩) :=
  finish_two_sb (G := [.cells cs wr]) (j := 0) x e0 rfl h

theorem finish_two_nb {G : List Blk} {sz n : Nat} {c : Option Nat} (x : Bool) (e0 : Option Nat) :
    finish 2 H.length e0 (.tup [.slice none sz n c, .bool x]) ⟨H ++ G, none⟩ = some (.tup [.slice none sz n c, .bool x], ⟨H, e0⟩) := by
  have hr : dedup (AV.roots H.length (.tup [.slice none sz n c, .bool x])) = [] := rfl
  unfold finish
  simp only [hr]
  simp [AV.rename, AV.rename.go, clean]

theorem set_same {L : List Blk} {b : Nat} {x : Blk} (h : L[b]? = some x) : L.set b x = L := by
  apply List.ext_getElem?
  intro i
  rw [List.getElem?_set]
  split
  · rename_i hi
    subst hi
    rw [h]
    rw [if_pos (List.getElem?_eq_some_iff.mp h).1]
  · rfl

def markedI (k : Nat) : Nat → List Int
  | 0 => []
  | n + 1 => (k : Int) :: markedI (k + 1) n

theorem markedI_length (k : Nat) : ∀ n, (markedI k n).length = n
  | 0 => rfl
  | n + 1 => by rw [markedI, List.length_cons, markedI_length (k + 1) n]

theorem markedI_get : ∀ (n k i : Nat), i < n → (markedI k n)[i]? = some ((k + i : Nat) : Int)
  | 0, k, i, h => by omega
  | n + 1, k, 0, h => by simp [markedI]
  | n + 1, k, i + 1, h => by
    rw [markedI, List.getElem?_cons_succ, markedI_get n (k + 1) i (by omega), show k + 1 + i = k + (i + 1) by omega]

theorem setRange_mid (P R : List Int) (r a : Int) : setRange (encI (P ++ r :: R)) P.length [.int .i64 a] = encI ((P ++ [a]) ++ R) := by
  rw [setRange_encI (by simp)]
  simp

theorem loop_l_markIntS {L : List Blk} {b n : Nat} {c : Option Nat} {r : AV} (hb : b < L.length) (hn : n ≤ 4194304) :
    ∀ (R P : List Int) (k : Nat) (y4 : AV), P.length + R.length = n → k + R.length ≤ 8388608 → ∃ z4, run T pr (.loop w_l_markIntS_1) ⟨[slI b n c, .int .i64 k, r, .int .i64 P.length, y4], ⟨L.set b (.cells (encI (P ++ R)) true), e⟩⟩ =
      some (Ex.exit 0, ⟨[slI b n c, .int .i64 ((k + R.length : Nat) : Int), r, .int .i64 n, z4], ⟨L.set b (.cells (encI (P ++ markedI k R.length)) true), e⟩⟩)
  | [], P, k, y4, hP, hk => by
    refine ⟨.bool false, ?_⟩
    obtain rfl : n = P.length := by simp at hP; omega
    rw [run_loop]
    generalize run T pr (.loop w_l_markIntS_1) = R'
    simp +contextual only [w_l_markIntS_1, Nat.lt_irrefl, decide_false, markedI, go_sem, entry, joinEsc, if_pos, reduceIte, Nat.reduceAdd, Nat.reduceLeDiff, Nat.reduceLT, Nat.reduceEqDiff]
  | x :: R, P, k, y4, hP, hk => by
    simp only [List.length_cons] at hP hk
    have hi : P.length < n := by omega
    obtain ⟨z4, ih⟩ := loop_l_markIntS (c := c) (r := r) hb hn R (P ++ [(k : Int)]) (k + 1) (.bool true) (by simp; omega) (by omega)
    refine ⟨z4, ?_⟩
    rw [run_loop]
    generalize run T pr (.loop w_l_markIntS_1) = R' at ih ⊢
    have hg : (L.set b (.cells (encI (P ++ x :: R)) true))[b]? = some (.cells (encI (P ++ x :: R)) true) := List.getElem?_set_self hb
    have hle : P.length + 1 ≤ (encI (P ++ x :: R)).length := by simp
    rw [show k + 1 + R.length = k + (R.length + 1) by omega] at ih
    simp only [List.append_assoc, List.singleton_append, List.length_append, List.length_cons, List.length_nil, Nat.zero_add] at ih
    simp +contextual only [w_l_markIntS_1, hi, hg, hle, setRange_mid, List.set_set, markedI, wrap_succ (show k < 9223372036854775807 by omega), wrap_succ (show P.length < 9223372036854775807 by omega), decide_true, go_sem, entry, joinEsc, if_pos, reduceIte, Nat.reduceAdd, Nat.reduceLeDiff, Nat.reduceLT, Nat.reduceEqDiff]
    exact ih

theorem e_l_markIntS {L : List Blk} {b : Nat} {c : Option Nat} {ls : List Int} (h : L[b]? = some (.cells (encI ls) true)) (hn : ls.length ≤ 4194304) (k : Nat) (hk : k ≤ 4194304) : call T pr f_l_markIntS [slI b ls.length c, .int .i64 k] ⟨L, e⟩ =
    some (.int .i64 ((k + ls.length : Nat) : Int), ⟨L.set b (.cells (encI (markedI k ls.length)) true), e⟩) := by
  have hb := (List.getElem?_eq_some_iff.mp h).1
  obtain ⟨z4, hl⟩ := loop_l_markIntS (pr := pr) (e := none) (c := c) (r := .int .i64 0) hb hn ls [] k .undef (by simp) (by omega)
  have h0 : ((0 : Nat) : Int) = 0 := rfl
  rw [List.length_nil, h0, List.nil_append, List.nil_append, set_same h] at hl
  rw [call_eq t_l_markIntS]
  simp +contextual only [a_l_markIntS, c_l_markIntS, hl, finish_one_set, go_sem, entry, joinEsc, if_pos, reduceIte, Nat.reduceAdd, Nat.reduceLeDiff, Nat.reduceLT, Nat.reduceEqDiff]

def markedL (k : Nat) : Nat → List Ld
  | 0 => []
  | n + 1 => ((k : Int), ((k + 1 : Nat) : Int)) :: markedL (k + 2) n

theorem setRange_midL0 (P R : List Ld) (r : Ld) (a : Int) : setRange (encL (P ++ r :: R)) (P.length * 2) [.int .i64 a] = encL (P ++ (a, r.2) :: R) := by
  induction P with
  | nil => simp [encL, setRange]
  | cons p P ih =>
    simp only [encL, List.cons_append, List.length_cons, Nat.add_mul, Nat.one_mul] at *
    rw [setRange_k, setRange_k, ih]

theorem setRange_midL1 (P R : List Ld) (r : Ld) (a : Int) : setRange (encL (P ++ r :: R)) (P.length * 2 + 1) [.int .i64 a] = encL (P ++ (r.1, a) :: R) := by
  induction P with
  | nil => simp [encL, setRange]
  | cons p P ih =>
    simp only [encL, List.cons_append, List.length_cons, Nat.add_mul, Nat.one_mul] at *
    rw [show P.length * 2 + 2 + 1 = P.length * 2 + 1 + 1 + 1 by omega, setRange_k, setRange_k, ih]

theorem loop_l_markLoadS {L : List Blk} {b n : Nat} {c : Option Nat} {r : AV} (hb : b < L.length) (hn : n ≤ 4194304) :
    ∀ (R P : List Ld) (k : Nat) (y4 : AV), P.length + R.length = n → k + R.length * 2 ≤ 16777216 → ∃ z4, run T pr (.loop w_l_markLoadS_1) ⟨[slL b n c, .int .i64 k, r, .int .i64 P.length, y4], ⟨L.set b (.cells (encL (P ++ R)) true), e⟩⟩ =
      some (Ex.exit 0, ⟨[slL b n c, .int .i64 ((k + R.length * 2 : Nat) : Int), r, .int .i64 n, z4], ⟨L.set b (.cells (encL (P ++ markedL k R.length)) true), e⟩⟩)
  | [], P, k, y4, hP, hk => by
    refine ⟨.bool false, ?_⟩
    obtain rfl : n = P.length := by simp at hP; omega
    rw [run_loop]
    generalize run T pr (.loop w_l_markLoadS_1) = R'
    simp +contextual only [w_l_markLoadS_1, Nat.lt_irrefl, decide_false, markedL, Nat.zero_mul, go_sem, entry, joinEsc, if_pos, reduceIte, Nat.reduceAdd, Nat.reduceLeDiff, Nat.reduceLT, Nat.reduceEqDiff]
  | x :: R, P, k, y4, hP, hk => by
    simp only [List.length_cons] at hP hk
    have hi : P.length < n := by omega
    obtain ⟨z4, ih⟩ := loop_l_markLoadS (c := c) (r := r) hb hn R (P ++ [((k : Int), ((k + 1 : Nat) : Int))]) (k + 2) (.bool true) (by simp; omega) (by omega)
    refine ⟨z4, ?_⟩
    rw [run_loop]
    generalize run T pr (.loop w_l_markLoadS_1) = R' at ih ⊢
    have hg : ∀ y : Ld, (L.set b (.cells (encL (P ++ y :: R)) true))[b]? = some (.cells (encL (P ++ y :: R)) true) := fun y => List.getElem?_set_self hb
    have hle : ∀ y : Ld, P.length * 2 + 1 ≤ (encL (P ++ y :: R)).length := by intro y; rw [encL_length]; simp; omega
    have hle' : ∀ y : Ld, P.length * 2 + 1 + 1 ≤ (encL (P ++ y :: R)).length := by intro y; rw [encL_length]; simp; omega
    have hle2 : ∀ y : Ld, P.length * 2 + 2 ≤ (encL (P ++ y :: R)).length := by intro y; rw [encL_length]; simp; omega
    rw [show k + 2 + R.length * 2 = k + (R.length + 1) * 2 by omega] at ih
    simp only [List.append_assoc, List.singleton_append, List.length_append, List.length_cons, List.length_nil, Nat.zero_add] at ih
    have hw1 : IntKind.i64.wrap ((k : Int) + 1) = ((k + 1 : Nat) : Int) := wrap_succ (show k < 9223372036854775807 by omega)
    have hw2 : IntKind.i64.wrap (((k + 1 : Nat) : Int) + 1) = ((k + 2 : Nat) : Int) := wrap_succ (show k + 1 < 9223372036854775807 by omega)
    simp +contextual only [w_l_markLoadS_1, hi, hg, hle, hle', hle2, setRange_midL0, setRange_midL1, List.set_set, markedL, hw1, hw2, wrap_succ (show P.length < 9223372036854775807 by omega), decide_true, go_sem, entry, joinEsc, if_pos, reduceIte, Nat.reduceAdd, Nat.reduceLeDiff, Nat.reduceLT, Nat.reduceEqDiff]
    exact ih

theorem e_l_markLoadS {L : List Blk} {b : Nat} {c : Option Nat} {ls : List Ld} (h : L[b]? = some (.cells (encL ls) true)) (hn : ls.length ≤ 4194304) (k : Nat) (hk : k ≤ 4194304) : call T pr f_l_markLoadS [slL b ls.length c, .int .i64 k] ⟨L, e⟩ =
    some (.int .i64 ((k + ls.length * 2 : Nat) : Int), ⟨L.set b (.cells (encL (markedL k ls.length)) true), e⟩) := by
  have hb := (List.getElem?_eq_some_iff.mp h).1
  obtain ⟨z4, hl⟩ := loop_l_markLoadS (pr := pr) (e := none) (c := c) (r := .int .i64 0) hb hn ls [] k .undef (by simp) (by omega)
  have h0 : ((0 : Nat) : Int) = 0 := rfl
  rw [List.length_nil, h0, List.nil_append, List.nil_append, set_same h] at hl
  rw [call_eq t_l_markLoadS]
  simp +contextual only [a_l_markLoadS, c_l_markLoadS, hl, finish_one_set, go_sem, entry, joinEsc, if_pos, reduceIte, Nat.reduceAdd, Nat.reduceLeDiff, Nat.reduceLT, Nat.reduceEqDiff]

/-- two slices without elements -/
theorem e_l_eqIntS_none {p1 p2 : Option (Nat × Nat)} {s1 s2 : Nat} {c1 c2 : Option Nat} : call T pr f_l_eqIntS [.slice p1 s1 0 c1, .slice p2 s2 0 c2] ⟨H, e⟩ = some (.bool true, ⟨H, e⟩) := by
  have h0 : ((0 : Nat) : Int) = 0 := rfl
  rw [call_eq t_l_eqIntS]
  have hl : run T pr (.loop w_l_eqIntS_1) ⟨[.slice p1 s1 0 c1, .slice p2 s2 0 c2, .bool false, .int .i64 0, .bool false, .undef, .undef], ⟨H, none⟩⟩ = some (.exit 0, ⟨[.slice p1 s1 0 c1, .slice p2 s2 0 c2, .bool false, .int .i64 0, .bool false, .bool false, .undef], ⟨H, none⟩⟩) := by
    rw [run_loop]
    generalize run T pr (.loop w_l_eqIntS_1) = R
    simp +contextual only [w_l_eqIntS_1, h0, Int.lt_irrefl, decide_false, go_sem, entry, joinEsc, if_pos, reduceIte, Nat.reduceAdd, Nat.reduceLeDiff, Nat.reduceLT, Nat.reduceEqDiff]
  simp +contextual only [a_l_eqIntS, c_l_eqIntS, hl, h0, decide_true, go_sem, entry, joinEsc, if_pos, reduceIte, Nat.reduceAdd, Nat.reduceLeDiff, Nat.reduceLT, Nat.reduceEqDiff]

theorem e_l_markIntS_none {p1 : Option (Nat × Nat)} {s1 : Nat} {c1 : Option Nat} (x : Int) : call T pr f_l_markIntS [.slice p1 s1 0 c1, .int .i64 x] ⟨H, e⟩ = some (.int .i64 x, ⟨H, e⟩) := by
  have h0 : ((0 : Nat) : Int) = 0 := rfl
  rw [call_eq t_l_markIntS]
  have hl : run T pr (.loop w_l_markIntS_1) ⟨[.slice p1 s1 0 c1, .int .i64 x, .int .i64 0, .int .i64 0, .undef], ⟨H, none⟩⟩ = some (.exit 0, ⟨[.slice p1 s1 0 c1, .int .i64 x, .int .i64 0, .int .i64 0, .bool false], ⟨H, none⟩⟩) := by
    rw [run_loop]
    generalize run T pr (.loop w_l_markIntS_1) = R
    simp +contextual only [w_l_markIntS_1, h0, Int.lt_irrefl, decide_false, go_sem, entry, joinEsc, if_pos, reduceIte, Nat.reduceAdd, Nat.reduceLeDiff, Nat.reduceLT, Nat.reduceEqDiff]
  simp +contextual only [a_l_markIntS, c_l_markIntS, hl, h0, decide_true, go_sem, entry, joinEsc, if_pos, reduceIte, Nat.reduceAdd, Nat.reduceLeDiff, Nat.reduceLT, Nat.reduceEqDiff]

end Go.Proofs.Ythkgpblohjpcdaa.Slim

/- Rafts: the first safe order, on both sides. -/
namespace Go.Proofs.Ythkgpblohjpcdaa.Slim

open Go

set_option linter.unusedSimpArgs false

set_option linter.unusedVariables false

variable {pr : Prims} {H : List Blk} {e : Option Nat}

/-- a capacity that is not told -/
def capOf : Option (AV × Mem) → Option Nat
  | some (.slice _ _ _ c, _) => c
  | some (.tup (.slice _ _ _ c :: _), _) => c
  | _ => none

noncomputable def hid (pr : Prims) (f : FuncId) (args : List AV) (m : Mem) : Option Nat := capOf (call T pr f args m)

theorem hid_slice {f : FuncId} {args : List AV} {m m' : Mem} {p : Option (Nat × Nat)} {sz n : Nat} (h : ∃ cap, call T pr f args m = some (.slice p sz n cap, m')) : call T pr f args m = some (.slice p sz n (hid pr f args m), m') := by
  obtain ⟨cap, h⟩ := h
  have h2 : hid pr f args m = cap := by unfold hid; rw [h]; rfl
  rw [h2]; exact h

theorem hid_tup {f : FuncId} {args vs : List AV} {m m' : Mem} {p : Option (Nat × Nat)} {sz n : Nat} (h : ∃ cap, call T pr f args m = some (.tup (.slice p sz n cap :: vs), m')) : call T pr f args m = some (.tup (.slice p sz n (hid pr f args m) :: vs), m') := by
  obtain ⟨cap, h⟩ := h
  have h2 : hid pr f args m = cap := by unfold hid; rw [h]; rfl
  rw [h2]; exact h

/-- the first item that can be added -/
def firstW (W : List Int) (n c : Nat) : Nat := ((List.range n).filter (okStep W c)).headD 0

def orderW (W : List Int) (n : Nat) : Nat → Nat → List Int
  | 0, _ => []
  | k + 1, c => ((firstW W n c : Nat) : Int) :: orderW W n k (c + 2 ^ firstW W n c)

theorem orderW_length (W : List Int) (n : Nat) : ∀ k c, (orderW W n k c).length = k
  | 0, _ => rfl
  | k + 1, c => by rw [orderW, List.length_cons, orderW_length]

theorem first_spec {W : List Int} {n c : Nat} (h : goodW n W c) (h1 : 0 < W.getD c 0) (h2 : mu n c ≠ 0) :
    firstW W n c < n ∧ okStep W c (firstW W n c) = true ∧ (∀ i, i < firstW W n c → okStep W c i = false) ∧ ∃ rest, stepsW W n c = ((firstW W n c : Nat) : Int) :: rest := by
  obtain ⟨i, i1, i2⟩ := h.2.2 h1 h2
  cases hf : (List.range n).filter (okStep W c) with
  | nil =>
    have := List.filter_eq_nil_iff.mp hf i (by simpa using i1)
    exact absurd i2 this
  | cons x rest =>
    have hx : firstW W n c = x := by unfold firstW; rw [hf]; rfl
    have hfind : (List.range n).find? (okStep W c) = some x := by rw [← List.head?_filter, hf]; rfl
    rw [List.find?_range_eq_some] at hfind
    obtain ⟨k1, k2, k3⟩ := hfind
    rw [hx]
    refine ⟨by simpa using k2, k1, fun i hi => by simpa using k3 i hi, _, by unfold stepsW; rw [hf]; rfl⟩

theorem append_in2 {G : List Blk} {B : Blk} {j : Nat} {o : List Int} {cap : Option Nat} (hG : G[j]? = some (.cells (encI o) true)) (hcap : cap = some 0 → o = []) (hmb : (o.length + 1) * 8 ≤ maxBytes) (a : Int) :
    appendV (H ++ (G ++ [B, .cells [.int .i64 a] true])) e false 1 8 (slI (H.length + j) o.length cap) (.slice (some (H.length + (G.length + 1), 0)) 1 1 (some 1)) =
      some (slI (H.length + (G.length + 2)) (o.length + 1) none, ⟨H ++ (killIf cap j (G ++ [B, .cells [.int .i64 a] true]) ++ [.cells (encI o ++ [.int .i64 a]) true]), e⟩) := by
  have hj : j < G.length := (List.getElem?_eq_some_iff.mp hG).1
  have h := append_in (H := H) (e := e) (G := G ++ [B]) (j := j) (o := o) (cap := cap) (by rw [List.getElem?_append_left hj]; exact hG) hcap hmb a
  simpa [Nat.add_assoc] using h

theorem cells_kill {G E F : List Blk} {cap : Option Nat} {j w : Nat} {cs : List AV} (h : cellsAt (H ++ G) w = some cs) (hne : w ≠ H.length + j) : cellsAt (H ++ (killIf cap j (G ++ E) ++ F)) w = some cs := by
  have hlt : w < (H ++ G).length := by
    unfold cellsAt at h
    cases hb : (H ++ G)[w]? with
    | none => rw [hb] at h; cases h
    | some x => exact (List.getElem?_eq_some_iff.mp hb).1
  have h2 : (H ++ (killIf cap j (G ++ E) ++ F))[w]? = (H ++ G)[w]? := by
    by_cases hw : w < H.length
    · rw [List.getElem?_append_left hw, List.getElem?_append_left hw]
    · have e1 : ∀ X : List Blk, (H ++ X)[w]? = X[w - H.length]? := fun X => List.getElem?_append_right (by omega)
      have hl : w - H.length < G.length := by simp at hlt; omega
      have e2 : (killIf cap j (G ++ E) ++ F)[w - H.length]? = (killIf cap j (G ++ E))[w - H.length]? := List.getElem?_append_left (by rw [killIf_length]; simp; omega)
      rw [e1, e1, e2]
      unfold killIf
      split
      · rw [List.getElem?_append_left hl]
      · rw [List.getElem?_set_ne (by omega), List.getElem?_append_left hl]
  unfold cellsAt at *
  rw [h2]
  exact h

theorem cells_lt {L : List Blk} {w : Nat} {cs : List AV} (h : cellsAt L w = some cs) : w < L.length := by
  unfold cellsAt at h
  cases hb : L[w]? with
  | none => rw [hb] at h; cases h
  | some x => exact (List.getElem?_eq_some_iff.mp hb).1

/-- is there a safe order? -/
def canW (a b o : Int) (ls : List Ld) : Bool := cargoOk a b o ls && !decide ((waysW a b o ls).getD 0 0 = 0)

/-- the first safe order -/
def soW (a b o : Int) (ls : List Ld) : List Int := orderW (waysW a b o ls) ls.length ls.length 0

theorem cargo_le {a b o : Int} {ls : List Ld} (h : cargoOk a b o ls = true) : ls.length ≤ 8 := by
  unfold cargoOk at h
  rw [Bool.and_eq_true, decide_eq_true_eq] at h
  exact h.2

theorem ways0 {a b o : Int} {ls : List Ld} : (encI (waysW a b o ls))[0]? = some (.int .i64 ((waysW a b o ls).getD 0 0)) := by
  rw [List.getElem?_map, getD_get (by rw [waysW_length]; exact Nat.two_pow_pos _)]; rfl

end Go.Proofs.Ythkgpblohjpcdaa.Slim

/- Rafts: from which sets all can be taken, on both sides. -/
namespace Go.Proofs.Ythkgpblohjpcdaa.Slim

open Go

set_option linter.unusedSimpArgs false

set_option linter.unusedVariables false

variable {pr : Prims} {H : List Blk} {e : Option Nat}

theorem bits_down : ∀ m : Nat, m < 256 → ∀ x : Nat, x < 8 → m.testBit x = true → (andNotI .i64 m (shlI .i64 1 (x : Int)) = ((m - 2 ^ x : Nat) : Int) ∧ wr ((m : Int) - shlI .i64 1 (x : Int)) = ((m - 2 ^ x : Nat) : Int) ∧ 2 ^ x ≤ m) := by decide +kernel

/-- the items that are in c -/
def nu (n c : Nat) : Nat := ((List.range n).filter fun i => c.testBit i).length

theorem nu_facts : ∀ n : Nat, n < 9 → ∀ c : Nat, c < 2 ^ n → ((nu n c = 0 ↔ c = 0) ∧ (c + 1 = 2 ^ n → nu n c = n) ∧ ∀ i : Nat, i < n → c.testBit i = true → nu n c = nu n (c - 2 ^ i) + 1) := by decide +kernel

abbrev encB (ls : List Bool) : List AV := ls.map AV.bool

theorem getB {B : List Bool} {c : Nat} (h : c < B.length) : B[c]? = some (B.getD c false) := by
  rw [List.getD_eq_getElem?_getD, List.getElem?_eq_getElem h]; rfl

theorem part_encB {B : List Bool} {i : Nat} (sz : Nat) (h : i < B.length) : part false (encB B) i sz = some (.bool (B.getD i false)) := by
  rw [part_false, List.getElem?_map, getB h]; rfl

theorem under_encB (n : Nat) : ∀ ls : List Bool, ((encB ls).all fun c => c.under n) = true
  | [] => rfl
  | l :: ls => by simp [encB, AV.under]

theorem zeros_encB : ∀ n, zeros n [.bool false] = encB (List.replicate n false)
  | 0 => rfl
  | n + 1 => by
    have := zeros_encB n
    unfold zeros encB at *
    simp only [List.replicate_succ, List.flatten_cons, List.map_cons, List.cons_append, List.nil_append, this]

theorem setRange_midB (P R : List Bool) (r a : Bool) : setRange (encB (P ++ r :: R)) P.length [.bool a] = encB (P ++ a :: R) := by
  induction P with
  | nil => simp [encB, setRange]
  | cons p P ih =>
    simp only [encB, List.cons_append, List.length_cons, List.map_cons] at *
    rw [setRange_k, ih]

theorem getD_pre {P R : List Bool} {d : Nat} (h : d < P.length) : (P ++ R).getD d false = P.getD d false := by
  rw [List.getD_eq_getElem?_getD, List.getD_eq_getElem?_getD, List.getElem?_append_left h]

/-- item i can be taken from c, and the rest in some way behind it -/
def okDown (W : List Bool) (c i : Nat) : Bool := c.testBit i && W.getD (c - 2 ^ i) false

def backV (safe : Nat → Bool) (n c : Nat) (B : List Bool) : Bool := safe c && (decide (c = 0) || (List.range n).any (okDown B c))

/-- the sets below c: can all be taken from them? -/
def backL (safe : Nat → Bool) (n : Nat) : Nat → List Bool
  | 0 => []
  | c + 1 => backL safe n c ++ [backV safe n c (backL safe n c)]

theorem backL_length (safe : Nat → Bool) (n : Nat) : ∀ c, (backL safe n c).length = c
  | 0 => rfl
  | c + 1 => by rw [backL, List.length_append, backL_length]; rfl

theorem backL_getD (safe : Nat → Bool) (n : Nat) {c d : Nat} : ∀ F, c < F → d < c → (backL safe n F).getD d false = (backL safe n c).getD d false
  | 0, h, _ => by omega
  | F + 1, h, hd => by
    rw [backL]
    by_cases hc : c = F
    · subst hc; exact getD_pre (by rw [backL_length]; exact hd)
    · rw [getD_pre (by rw [backL_length]; omega)]
      exact backL_getD safe n F (by omega) hd

theorem backL_val (safe : Nat → Bool) (n : Nat) {c : Nat} : ∀ F, c < F → (backL safe n F).getD c false = backV safe n c (backL safe n c)
  | 0, h => by omega
  | F + 1, h => by
    rw [backL]
    by_cases hc : c = F
    · subst hc
      rw [List.getD_eq_getElem?_getD, List.getElem?_append_right (by rw [backL_length]; exact Nat.le_refl _), backL_length, Nat.sub_self]
      rfl
    · rw [getD_pre (by rw [backL_length]; omega)]
      exact backL_val safe n F (by omega)

theorem back_good {safe : Nat → Bool} {n F c : Nat} (hF : F = 2 ^ n) (hn8 : n ≤ 8) (hc : c < F) (h : (backL safe n F).getD c false = true) (h0 : c ≠ 0) : ∃ i, i < n ∧ okDown (backL safe n F) c i = true := by
  rw [backL_val safe n F hc] at h
  unfold backV at h
  simp only [Bool.and_eq_true, Bool.or_eq_true, decide_eq_true_eq, List.any_eq_true, List.mem_range] at h
  rcases h.2 with h | ⟨i, i1, i2⟩
  · exact absurd h h0
  · refine ⟨i, i1, ?_⟩
    unfold okDown at i2 ⊢
    rw [Bool.and_eq_true] at i2 ⊢
    have := Nat.two_pow_pos i
    rw [backL_getD safe n F hc (by omega)]
    exact i2

def backW (a b o : Int) (ls : List Ld) : List Bool := backL (fun c => safeW a b o ls (c : Int)) ls.length (2 ^ ls.length)

theorem fin_back (x : Blk) (W : List Bool) (n : Nat) (c : Option Nat) (e0 : Option Nat) : finish 2 H.length e0 (slI (H.length + 1) n c) ⟨H ++ [x, Blk.cells (encB W) true], none⟩ = some (slI H.length n c, ⟨H ++ [Blk.cells (encB W) true], e0⟩) :=
  finish_two_at e0 rfl (under_encB _ _)

end Go.Proofs.Ythkgpblohjpcdaa.Slim

/- Stages of a chain: what is valid, copies, marks. -/
namespace Go.Proofs.Ythkgpblohjpcdaa.Slim

open Go

set_option linter.unusedSimpArgs false

set_option linter.unusedVariables false

variable {pr : Prims} {H : List Blk} {e : Option Nat}

def ratioOk (x : Int) : Bool := decide (1 ≤ x) && decide (x ≤ 24)

/-- a stage: its kind and its two numbers -/
abbrev Sg := Int × Int × Int

def stageOk (s : Sg) : Bool :=
  if s.1 = 1 then ratioOk s.2.1 && ratioOk s.2.2 else if s.1 = 3 then ratioOk s.2.1 && ratioOk s.2.2 else if s.1 = 2 then ratioOk s.2.1 && decide (s.2.2 = 0)
  else if s.1 = 4 then (ratioOk s.2.1 && ratioOk s.2.2) && decide (s.2.2 ≤ s.2.1) else if s.1 = 5 then (ratioOk s.2.1 && ratioOk s.2.2) && decide (s.2.2 < s.2.1) else false

abbrev sgV (s : Sg) : AV := .agg [.int .i64 s.1, .int .i64 s.2.1, .int .i64 s.2.2]

def encS : List Sg → List AV
  | [] => []
  | s :: ss => .int .i64 s.1 :: .int .i64 s.2.1 :: .int .i64 s.2.2 :: encS ss

theorem encS_length : ∀ ss : List Sg, (encS ss).length = ss.length * 3
  | [] => rfl
  | s :: ss => by simp [encS, encS_length ss]; omega

theorem part_encS {ss : List Sg} {i : Nat} {s : Sg} (h : ss[i]? = some s) : part true (encS ss) (i * 3) 3 = some (.agg [.int .i64 s.1, .int .i64 s.2.1, .int .i64 s.2.2]) := by
  induction ss generalizing i with
  | nil => simp at h
  | cons a ss ih =>
    cases i with
    | zero => simp at h; subst h; simp [encS, part]
    | succ i =>
      simp at h
      rw [show (i + 1) * 3 = i * 3 + 1 + 1 + 1 by omega, encS, part_tk, part_tk, part_tk]
      exact ih h

theorem setRange_encS {X : List Sg} {i : Nat} {k a b : Int} (h : i < X.length) : setRange (encS X) (i * 3) [.int .i64 k, .int .i64 a, .int .i64 b] = encS (X.set i (k, a, b)) := by
  induction X generalizing i with
  | nil => simp at h
  | cons x X ih =>
    cases i with
    | zero => simp [encS, setRange]
    | succ i =>
      rw [show (i + 1) * 3 = i * 3 + 1 + 1 + 1 by omega, encS, setRange_k, setRange_k, setRange_k, ih (by simpa using h)]
      rfl

theorem under_encS (n : Nat) : ∀ ss : List Sg, ((encS ss).all fun c => c.under n) = true
  | [] => rfl
  | s :: ss => by simp [encS, AV.under, under_encS n ss]

theorem zeros_encS : ∀ n, zeros n [.int .i64 0, .int .i64 0, .int .i64 0] = encS (List.replicate n (0, 0, 0))
  | 0 => rfl
  | n + 1 => by
    have := zeros_encS n
    unfold zeros at *
    simp only [List.replicate_succ, List.flatten_cons, encS, List.cons_append, List.nil_append, this]

theorem take_set_succS {X ss : List Sg} {i : Nat} (hi : i < ss.length) (hX : X.length = ss.length) (h : X.take i = ss.take i) : (X.set i ss[i]).take (i + 1) = ss.take (i + 1) := by
  rw [List.take_succ_eq_append_getElem (by rw [List.length_set]; omega), List.take_succ_eq_append_getElem hi]
  rw [List.take_set_of_le (Nat.le_refl _), h]
  simp

abbrev slS (b n : Nat) (c : Option Nat) : AV := .slice (some (b, 0)) 3 n c

/-- a slice of stages, as a law is handed it -/
def ArgS (H : List Blk) (av : AV) (ss : List Sg) : Prop :=
  ∃ p sz c, av = .slice p sz ss.length c ∧ ss.length ≤ maxLen ∧ (ss ≠ [] → sz = 3 ∧ ∃ b, p = some (b, 0) ∧ cellsAt H b = some (encS ss))

theorem ArgS.more {av : AV} {ss : List Sg} (h : ArgS H av ss) (G : List Blk) : ArgS (H ++ G) av ss := by
  obtain ⟨p, sz, c, h1, h2, h3⟩ := h
  refine ⟨p, sz, c, h1, h2, fun hne => ?_⟩
  obtain ⟨h4, b, h5, h6⟩ := h3 hne
  exact ⟨h4, b, h5, cells_mono h6 G⟩

theorem stages_of : ∀ (es : List (List Int)), (∀ e ∈ es, e.length = 3) → ∃ ss : List Sg, es.flatten.map (AV.int .i64) = encS ss ∧ ss.length = es.length
  | [], _ => ⟨[], rfl, rfl⟩
  | e :: es, h => by
    obtain ⟨ss, h1, h2⟩ := stages_of es (fun e' h' => h e' (by simp [h']))
    have h0 := h e (by simp)
    match e, h0 with
    | [x, y, z], _ => exact ⟨(x, y, z) :: ss, by simp [encS, h1], by simp [h2]⟩

theorem argS_of {av : AV} {es : List (List Int)} (h : IsArg H av .i64 3 es) : ∃ ss, ArgS H av ss := by
  obtain ⟨h1, h2⟩ := h
  rcases h2 with ⟨rfl, rfl⟩ | ⟨b, cap, rfl, h3, h4, h5⟩
  · exact ⟨[], none, 0, none, rfl, Nat.zero_le _, fun h => absurd rfl h⟩
  · obtain ⟨ss, h6, h7⟩ := stages_of es (fun e he => (h1 e he).1)
    refine ⟨ss, some (b, 0), 3, some cap, by rw [h7], by omega, fun _ => ⟨rfl, b, rfl, ?_⟩⟩
    unfold cellsAt
    rw [h5, h6]

def chainOk (ls : List Sg) : Bool := ls.all stageOk && decide (ls.length ≤ 5)

end Go.Proofs.Ythkgpblohjpcdaa.Slim

/- Stands: what is valid, copies, new ones; their laws. -/
namespace Go.Proofs.Ythkgpblohjpcdaa.Slim

open Go

set_option linter.unusedSimpArgs false

set_option linter.unusedVariables false

variable {pr : Prims} {H : List Blk} {e : Option Nat}

abbrev stV (row : AV) (a b : Int) (chain : AV) (t k : Int) : AV := .agg [row, .int .i64 a, .int .i64 b, chain, .int .i64 t, .int .i64 k]

theorem clean_minEsc (lim b : Nat) (e : Option Nat) : clean lim (minEsc e b) = (clean lim e && decide (lim ≤ b)) := by
  cases e with
  | none => simp [clean, minEsc]
  | some x => simp [clean, minEsc, Nat.le_min]

theorem clean_none (lim : Nat) : clean lim none = true := Eq.trans rfl rfl

theorem under_slice (n b o sz k : Nat) (c : Option Nat) : (AV.slice (some (b, o)) sz k c).under n = decide (b < n) := by simp [AV.under]

theorem under_sliceN (n sz k : Nat) (c : Option Nat) : (AV.slice none sz k c).under n = true := by simp [AV.under]

theorem finish_stand {G : List Blk} {j1 j2 n1 n2 : Nat} {c1 c2 : Option Nat} {cs1 cs2 : List AV} {w1 w2 : Bool} (a b t k : Int) (e0 e1 : Option Nat) (hc : clean H.length e1 = true) (h1 : G[j1]? = some (.cells cs1 w1)) (h2 : G[j2]? = some (.cells cs2 w2)) (hne : j1 ≠ j2)
    (u1 : (cs1.all fun c => c.under H.length) = true) (u2 : (cs2.all fun c => c.under H.length) = true) :
    finish 2 H.length e0 (stV (slL (H.length + j1) n1 c1) a b (slS (H.length + j2) n2 c2) t k) ⟨H ++ G, e1⟩ = some (stV (slL H.length n1 c1) a b (slS (H.length + 1) n2 c2) t k, ⟨H ++ [.cells cs1 w1, .cells cs2 w2], e0⟩) := by
  have hlt1 : ¬ H.length + j1 < H.length := by omega
  have hlt2 : ¬ H.length + j2 < H.length := by omega
  have hne' : ¬ H.length + j2 = H.length + j1 := by omega
  have hr : dedup (AV.roots H.length (stV (slL (H.length + j1) n1 c1) a b (slS (H.length + j2) n2 c2) t k)) = [H.length + j1, H.length + j2] := by
    simp only [AV.roots, AV.roots.go, if_neg hlt1, if_neg hlt2, List.nil_append, List.cons_append, List.append_nil]
    simp [dedup, hne', hne, Ne.symm hne]
  have hb1 : (H ++ G)[H.length + j1]? = some (.cells cs1 w1) := by rw [List.getElem?_append_right (by omega)]; simpa using h1
  have hb2 : (H ++ G)[H.length + j2]? = some (.cells cs2 w2) := by rw [List.getElem?_append_right (by omega)]; simpa using h2
  unfold finish
  simp only [hr]
  have h3 : ([H.length + j1, H.length + j2].all fun b => flatBlk H.length (H ++ G)[b]?) = true := by
    simp only [List.all_cons, List.all_nil, Bool.and_true, hb1, hb2, flatBlk, u1, u2, Bool.and_self]
  simp only [hc, h3, and_self, if_true]
  have hq : (H.length + j1 == H.length + j2) = false := by simpa using hne
  simp [AV.rename, AV.rename.go, renum, hb1, hb2, List.idxOf_cons]
  refine ⟨fun h => by omega, ?_⟩
  rw [if_neg hlt2, hq]
  rfl

theorem finish_standB {G : List Blk} {j1 j2 n1 n2 : Nat} {c1 c2 : Option Nat} {cs1 cs2 : List AV} {w1 w2 : Bool} (a b t k : Int) (x : Bool) (e0 e1 : Option Nat) (hc : clean H.length e1 = true) (h1 : G[j1]? = some (.cells cs1 w1)) (h2 : G[j2]? = some (.cells cs2 w2)) (hne : j1 ≠ j2)
    (u1 : (cs1.all fun c => c.under H.length) = true) (u2 : (cs2.all fun c => c.under H.length) = true) :
    finish 2 H.length e0 (.tup [stV (slL (H.length + j1) n1 c1) a b (slS (H.length + j2) n2 c2) t k, .bool x]) ⟨H ++ G, e1⟩ = some (.tup [stV (slL H.length n1 c1) a b (slS (H.length + 1) n2 c2) t k, .bool x], ⟨H ++ [.cells cs1 w1, .cells cs2 w2], e0⟩) := by
  have hlt1 : ¬ H.length + j1 < H.length := by omega
  have hlt2 : ¬ H.length + j2 < H.length := by omega
  have hne' : ¬ H.length + j2 = H.length + j1 := by omega
  have hr : dedup (AV.roots H.length (.tup [stV (slL (H.length + j1) n1 c1) a b (slS (H.length + j2) n2 c2) t k, .bool x])) = [H.length + j1, H.length + j2] := by
    simp only [AV.roots, AV.roots.go, if_neg hlt1, if_neg hlt2, List.nil_append, List.cons_append, List.append_nil]
    simp [dedup, hne', hne, Ne.symm hne]
  have hb1 : (H ++ G)[H.length + j1]? = some (.cells cs1 w1) := by rw [List.getElem?_append_right (by omega)]; simpa using h1
  have hb2 : (H ++ G)[H.length + j2]? = some (.cells cs2 w2) := by rw [List.getElem?_append_right (by omega)]; simpa using h2
  unfold finish
  simp only [hr]
  have h3 : ([H.length + j1, H.length + j2].all fun b => flatBlk H.length (H ++ G)[b]?) = true := by
    simp only [List.all_cons, List.all_nil, Bool.and_true, hb1, hb2, flatBlk, u1, u2, Bool.and_self]
  simp only [hc, h3, and_self, if_true]
  have hq : (H.length + j1 == H.length + j2) = false := by simpa using hne
  simp [AV.rename, AV.rename.go, renum, hb1, hb2, List.idxOf_cons]
  refine ⟨fun h => by omega, ?_⟩
  rw [if_neg hlt2, hq]
  rfl

theorem finish_standN {G : List Blk} {s1 s2 n1 n2 : Nat} {c1 c2 : Option Nat} (a b t k : Int) (x : Bool) (e0 e1 : Option Nat) (hc : clean H.length e1 = true) :
    finish 2 H.length e0 (.tup [stV (.slice none s1 n1 c1) a b (.slice none s2 n2 c2) t k, .bool x]) ⟨H ++ G, e1⟩ = some (.tup [stV (.slice none s1 n1 c1) a b (.slice none s2 n2 c2) t k, .bool x], ⟨H, e0⟩) := by
  have hr : dedup (AV.roots H.length (.tup [stV (.slice none s1 n1 c1) a b (.slice none s2 n2 c2) t k, .bool x])) = [] := rfl
  unfold finish
  simp only [hr]
  simp [AV.rename, AV.rename.go, hc]

theorem e_l_eqLoadS_none {p1 p2 : Option (Nat × Nat)} {s1 s2 : Nat} {c1 c2 : Option Nat} : call T pr f_l_eqLoadS [.slice p1 s1 0 c1, .slice p2 s2 0 c2] ⟨H, e⟩ = some (.bool true, ⟨H, e⟩) := by
  have h0 : ((0 : Nat) : Int) = 0 := rfl
  rw [call_eq t_l_eqLoadS]
  have hl : run T pr (.loop w_l_eqLoadS_1) ⟨[.slice p1 s1 0 c1, .slice p2 s2 0 c2, .bool false, .int .i64 0, .bool false, .undef, .undef], ⟨H, none⟩⟩ = some (.exit 0, ⟨[.slice p1 s1 0 c1, .slice p2 s2 0 c2, .bool false, .int .i64 0, .bool false, .bool false, .undef], ⟨H, none⟩⟩) := by
    rw [run_loop]
    generalize run T pr (.loop w_l_eqLoadS_1) = R
    simp +contextual only [w_l_eqLoadS_1, h0, Int.lt_irrefl, decide_false, go_sem, entry, joinEsc, if_pos, reduceIte, Nat.reduceAdd, Nat.reduceLeDiff, Nat.reduceLT, Nat.reduceEqDiff]
  simp +contextual only [a_l_eqLoadS, c_l_eqLoadS, hl, h0, decide_true, go_sem, entry, joinEsc, if_pos, reduceIte, Nat.reduceAdd, Nat.reduceLeDiff, Nat.reduceLT, Nat.reduceEqDiff]

theorem e_l_markLoadS_none {p1 : Option (Nat × Nat)} {s1 : Nat} {c1 : Option Nat} (x : Int) : call T pr f_l_markLoadS [.slice p1 s1 0 c1, .int .i64 x] ⟨H, e⟩ = some (.int .i64 x, ⟨H, e⟩) := by
  have h0 : ((0 : Nat) : Int) = 0 := rfl
  rw [call_eq t_l_markLoadS]
  have hl : run T pr (.loop w_l_markLoadS_1) ⟨[.slice p1 s1 0 c1, .int .i64 x, .int .i64 0, .int .i64 0, .undef], ⟨H, none⟩⟩ = some (.exit 0, ⟨[.slice p1 s1 0 c1, .int .i64 x, .int .i64 0, .int .i64 0, .bool false], ⟨H, none⟩⟩) := by
    rw [run_loop]
    generalize run T pr (.loop w_l_markLoadS_1) = R
    simp +contextual only [w_l_markLoadS_1, h0, Int.lt_irrefl, decide_false, go_sem, entry, joinEsc, if_pos, reduceIte, Nat.reduceAdd, Nat.reduceLeDiff, Nat.reduceLT, Nat.reduceEqDiff]
  simp +contextual only [a_l_markLoadS, c_l_markLoadS, hl, h0, decide_true, go_sem, entry, joinEsc, if_pos, reduceIte, Nat.reduceAdd, Nat.reduceLeDiff, Nat.reduceLT, Nat.reduceEqDiff]

theorem e_l_heldLoadS_none {p1 : Option (Nat × Nat)} {s1 : Nat} {c1 : Option Nat} (x : Int) : call T pr f_l_heldLoadS [.slice p1 s1 0 c1, .int .i64 x] ⟨H, e⟩ = some (.int .i64 x, ⟨H, e⟩) := by
  have h0 : ((0 : Nat) : Int) = 0 := rfl
  rw [call_eq t_l_heldLoadS]
  have hl : run T pr (.loop w_l_heldLoadS_1) ⟨[.slice p1 s1 0 c1, .int .i64 x, .int .i64 0, .int .i64 0, .undef, .undef, .undef], ⟨H, none⟩⟩ = some (.exit 0, ⟨[.slice p1 s1 0 c1, .int .i64 x, .int .i64 0, .int .i64 0, .bool false, .undef, .undef], ⟨H, none⟩⟩) := by
    rw [run_loop]
    generalize run T pr (.loop w_l_heldLoadS_1) = R
    simp +contextual only [w_l_heldLoadS_1, h0, Int.lt_irrefl, decide_false, go_sem, entry, joinEsc, if_pos, reduceIte, Nat.reduceAdd, Nat.reduceLeDiff, Nat.reduceLT, Nat.reduceEqDiff]
  simp +contextual only [a_l_heldLoadS, c_l_heldLoadS, hl, h0, decide_true, go_sem, entry, joinEsc, if_pos, reduceIte, Nat.reduceAdd, Nat.reduceLeDiff, Nat.reduceLT, Nat.reduceEqDiff]

theorem e_i_IsRow_none {p1 : Option (Nat × Nat)} {s1 : Nat} {c1 : Option Nat} : call T pr f_i_IsRow [.slice p1 s1 0 c1] ⟨H, e⟩ = some (.bool true, ⟨H, e⟩) := by
  have h0 : ((0 : Nat) : Int) = 0 := rfl
  have hl : run T pr (.loop w_slices_IndexFunc_Si_Load_i_Load_1) ⟨[.slice p1 s1 0 c1, .fn f_i_IsRow_1 [] [], .int .i64 0, .undef, .int .i64 0, .int .i64 0, .undef, .undef], ⟨H, none⟩⟩ = some (.exit 0, ⟨[.slice p1 s1 0 c1, .fn f_i_IsRow_1 [] [], .int .i64 0, .undef, .int .i64 0, .int .i64 0, .bool false, .undef], ⟨H, none⟩⟩) := by
    rw [run_loop]
    generalize run T pr (.loop w_slices_IndexFunc_Si_Load_i_Load_1) = R
    simp +contextual only [w_slices_IndexFunc_Si_Load_i_Load_1, h0, Int.lt_irrefl, decide_false, go_sem, entry, joinEsc, if_pos, reduceIte, Nat.reduceAdd, Nat.reduceLeDiff, Nat.reduceLT, Nat.reduceEqDiff]
  have h1 : ∀ e', call T pr f_slices_IndexFunc_Si_Load_i_Load [.slice p1 s1 0 c1, .fn f_i_IsRow_1 [] []] ⟨H, e'⟩ = some (.int .i64 (-1), ⟨H, e'⟩) := by
    intro e'
    rw [call_eq t_slices_IndexFunc_Si_Load_i_Load]
    simp +contextual only [a_slices_IndexFunc_Si_Load_i_Load, c_slices_IndexFunc_Si_Load_i_Load, hl, h0, go_sem, entry, joinEsc, if_pos, reduceIte, Nat.reduceAdd, Nat.reduceLeDiff, Nat.reduceLT, Nat.reduceEqDiff]
  have h2 : ∀ e', call T pr f_slices_ContainsFunc_Si_Load_i_Load [.slice p1 s1 0 c1, .fn f_i_IsRow_1 [] []] ⟨H, e'⟩ = some (.bool false, ⟨H, e'⟩) := by
    intro e'
    rw [call_eq t_slices_ContainsFunc_Si_Load_i_Load]
    simp +contextual only [a_slices_ContainsFunc_Si_Load_i_Load, c_slices_ContainsFunc_Si_Load_i_Load, h1, show ¬ ((0 : Int) ≤ -1) by omega, decide_false, go_sem, entry, joinEsc, if_pos, reduceIte, Nat.reduceAdd, Nat.reduceLeDiff, Nat.reduceLT, Nat.reduceEqDiff]
  rw [call_eq t_i_IsRow]
  simp +contextual only [a_i_IsRow, c_i_IsRow, h2, h0, show ¬ ((12 : Int) < 0) by omega, decide_false, go_sem, entry, joinEsc, if_pos, reduceIte, Nat.reduceAdd, Nat.reduceLeDiff, Nat.reduceLT, Nat.reduceEqDiff]

/-- the rest of a stand -/
def restOk (a b t k : Int) : Bool := baseOk a b && ((decide (0 ≤ k) && decide (k ≤ 1000)) && (decide (0 ≤ t) && decide (t ≤ k)))

end Go.Proofs.Ythkgpblohjpcdaa.Slim

/- Fractions, the gain of a chain, and the pull of a row; the law. -/
namespace Go.Proofs.Ythkgpblohjpcdaa.Slim

open Go

set_option linter.unusedSimpArgs false

set_option linter.unusedVariables false

variable {pr : Prims} {H : List Blk} {e : Option Nat}

theorem wrapN {x : Nat} (h : x ≤ 9223372036854775807) : IntKind.i64.wrap (x : Int) = (x : Int) := wrap64 (by omega) (by omega)

theorem e_s_l1Most (a b : Int) : call T pr f_s_l1Most [.int .i64 a, .int .i64 b] ⟨H, e⟩ = some (.int .i64 (if b < a then a else b), ⟨H, e⟩) := by
  rw [call_eq t_s_l1Most]
  by_cases h : b < a <;> simp +contextual only [a_s_l1Most, c_s_l1Most, h, decide_true, decide_false, go_sem, entry, joinEsc, if_pos, reduceIte, Nat.reduceAdd, Nat.reduceLeDiff, Nat.reduceLT, Nat.reduceEqDiff]

/-- a fraction in lowest terms -/
def fracA (x y : Nat) : Nat := x / Nat.gcd y x
def fracB (x y : Nat) : Nat := y / Nat.gcd y x

abbrev fvV (x y : Nat) : AV := .agg [.int .i64 x, .int .i64 y]

theorem frac_facts {x y : Nat} (hy : 0 < y) (hx1 : x ≤ 4611686018427387904) (hy1 : y ≤ 4611686018427387904) :
    ¬ ((Nat.gcd y x : Nat) : Int) = 0 ∧ IntKind.i64.wrap (Int.tdiv (x : Int) (Nat.gcd y x : Nat)) = (fracA x y : Int) ∧ IntKind.i64.wrap (Int.tdiv (y : Int) (Nat.gcd y x : Nat)) = (fracB x y : Int) := by
  have hg : 0 < Nat.gcd y x := Nat.gcd_pos_of_pos_left _ hy
  have h1 : fracA x y ≤ x := Nat.div_le_self _ _
  have h2 : fracB x y ≤ y := Nat.div_le_self _ _
  refine ⟨by omega, ?_, ?_⟩
  · have : Int.tdiv (x : Int) (Nat.gcd y x : Nat) = (fracA x y : Int) := rfl
    rw [this]; exact wrapN (by omega)
  · have : Int.tdiv (y : Int) (Nat.gcd y x : Nat) = (fracB x y : Int) := rfl
    rw [this]; exact wrapN (by omega)

theorem frac_pos {x y : Nat} (hx : 0 < x) (hy : 0 < y) : 0 < fracA x y ∧ 0 < fracB x y ∧ fracA x y ≤ x ∧ fracB x y ≤ y := by
  have hg : 0 < Nat.gcd y x := Nat.gcd_pos_of_pos_left _ hy
  refine ⟨Nat.div_pos (Nat.le_of_dvd hx (Nat.gcd_dvd_right _ _)) hg, Nat.div_pos (Nat.le_of_dvd hy (Nat.gcd_dvd_left _ _)) hg, Nat.div_le_self _ _, Nat.div_le_self _ _⟩

/-- the gain of a valid stage -/
def gainA (s : Sg) : Nat := if s.1 = 2 then s.2.1.toNat else if s.1 = 5 then fracA (2 * s.2.1.toNat) (s.2.1.toNat - s.2.2.toNat) else fracA s.2.1.toNat s.2.2.toNat
def gainB (s : Sg) : Nat := if s.1 = 2 then 1 else if s.1 = 5 then fracB (2 * s.2.1.toNat) (s.2.1.toNat - s.2.2.toNat) else fracB s.2.1.toNat s.2.2.toNat

theorem stage_cases {s : Sg} (h : stageOk s = true) : (1 ≤ s.2.1 ∧ s.2.1 ≤ 24) ∧ (s.1 ≠ 2 → 1 ≤ s.2.2 ∧ s.2.2 ≤ 24) ∧ (s.1 = 5 → s.2.2 < s.2.1) := by
  unfold stageOk ratioOk at h
  by_cases h1 : s.1 = 1
  · rw [if_pos h1] at h
    simp at h
    exact ⟨h.1, fun _ => h.2, fun h5 => by omega⟩
  rw [if_neg h1] at h
  by_cases h3 : s.1 = 3
  · rw [if_pos h3] at h
    simp at h
    exact ⟨h.1, fun _ => h.2, fun h5 => by omega⟩
  rw [if_neg h3] at h
  by_cases h2 : s.1 = 2
  · rw [if_pos h2] at h
    simp at h
    exact ⟨h.1, fun hn => absurd h2 hn, fun h5 => by omega⟩
  rw [if_neg h2] at h
  by_cases h4 : s.1 = 4
  · rw [if_pos h4] at h
    simp at h
    exact ⟨h.1.1, fun _ => h.1.2, fun h5 => by omega⟩
  rw [if_neg h4] at h
  by_cases h5 : s.1 = 5
  · rw [if_pos h5] at h
    simp at h
    exact ⟨h.1.1, fun _ => h.1.2, fun _ => h.2⟩
  rw [if_neg h5] at h
  cases h

theorem gain_bounds {s : Sg} (h : stageOk s = true) : 0 < gainA s ∧ gainA s ≤ 48 ∧ 0 < gainB s ∧ gainB s ≤ 24 := by
  obtain ⟨h1, h2, h3⟩ := stage_cases h
  unfold gainA gainB
  by_cases k2 : s.1 = 2
  · simp only [if_pos k2]; omega
  · simp only [if_neg k2]
    have := h2 k2
    by_cases k5 : s.1 = 5
    · simp only [if_pos k5]
      have := h3 k5
      obtain ⟨f1, f2, f3, f4⟩ := frac_pos (x := 2 * s.2.1.toNat) (y := s.2.1.toNat - s.2.2.toNat) (by omega) (by omega)
      omega
    · simp only [if_neg k5]
      obtain ⟨f1, f2, f3, f4⟩ := frac_pos (x := s.2.1.toNat) (y := s.2.2.toNat) (by omega) (by omega)
      omega

/-- the gain of stages, from some gain on -/
def chainA : Nat → Nat → List Sg → Nat
  | P, _, [] => P
  | P, Q, s :: ss => chainA (fracA (P * gainA s) (Q * gainB s)) (fracB (P * gainA s) (Q * gainB s)) ss
def chainB : Nat → Nat → List Sg → Nat
  | _, Q, [] => Q
  | P, Q, s :: ss => chainB (fracA (P * gainA s) (Q * gainB s)) (fracB (P * gainA s) (Q * gainB s)) ss

theorem gain_step {s : Sg} {P Q i : Nat} (h : stageOk s = true) (hP : 0 < P ∧ P ≤ 48 ^ i) (hQ : 0 < Q ∧ Q ≤ 24 ^ i) (hi : i < 5) :
    (0 < P * gainA s ∧ P * gainA s ≤ 48 ^ (i + 1)) ∧ (0 < Q * gainB s ∧ Q * gainB s ≤ 24 ^ (i + 1)) ∧ 48 ^ (i + 1) ≤ 254803968 ∧ 24 ^ (i + 1) ≤ 254803968 := by
  obtain ⟨g1, g2, g3, g4⟩ := gain_bounds h
  refine ⟨⟨Nat.mul_pos hP.1 g1, ?_⟩, ⟨Nat.mul_pos hQ.1 g3, ?_⟩, ?_, ?_⟩
  · rw [Nat.pow_succ]; exact Nat.mul_le_mul hP.2 g2
  · rw [Nat.pow_succ]; exact Nat.mul_le_mul hQ.2 g4
  · have : 48 ^ (i + 1) ≤ 48 ^ 5 := Nat.pow_le_pow_right (by omega) (by omega)
    have h2 : (48 : Nat) ^ 5 = 254803968 := by decide
    omega
  · have : 24 ^ (i + 1) ≤ 24 ^ 5 := Nat.pow_le_pow_right (by omega) (by omega)
    have h2 : (24 : Nat) ^ 5 = 7962624 := by decide
    omega

theorem chain_bounds : ∀ (ss : List Sg) (i P Q : Nat), ss.all stageOk = true → ss.length + i ≤ 5 → (0 < P ∧ P ≤ 48 ^ i) → (0 < Q ∧ Q ≤ 24 ^ i) → 0 < chainA P Q ss ∧ chainA P Q ss ≤ 254803968 ∧ 0 < chainB P Q ss ∧ chainB P Q ss ≤ 254803968
  | [], i, P, Q, _, hi, hP, hQ => by
    have h1 : 48 ^ i ≤ 48 ^ 5 := Nat.pow_le_pow_right (by omega) (by simpa using hi)
    have h2 : (48 : Nat) ^ 5 = 254803968 := by decide
    have h3 : 24 ^ i ≤ 24 ^ 5 := Nat.pow_le_pow_right (by omega) (by simpa using hi)
    have h4 : (24 : Nat) ^ 5 = 7962624 := by decide
    rw [chainA, chainB]
    omega
  | s :: ss, i, P, Q, ha, hi, hP, hQ => by
    rw [List.all_cons, Bool.and_eq_true] at ha
    rw [List.length_cons] at hi
    obtain ⟨⟨g1, g2⟩, ⟨g3, g4⟩, _, _⟩ := gain_step ha.1 hP hQ (by omega)
    obtain ⟨f1, f2, f3, f4⟩ := frac_pos g1 g3
    rw [chainA, chainB]
    exact chain_bounds ss (i + 1) _ _ ha.2 (by omega) ⟨f1, by omega⟩ ⟨f2, by omega⟩

theorem ix02 : (0 : Int) < ((2 : Nat) : Int) := by omega
theorem ix12 : (1 : Int) < ((2 : Nat) : Int) := by omega
theorem ix01 : (0 : Int) ≤ 1 := by omega

end Go.Proofs.Ythkgpblohjpcdaa.Slim

/- Marks on stands, copies of stands. -/
namespace Go.Proofs.Ythkgpblohjpcdaa.Slim

open Go

set_option linter.unusedSimpArgs false

set_option linter.unusedVariables false

variable {pr : Prims} {H : List Blk} {e : Option Nat}

theorem markedL_get : ∀ (n k i : Nat), i < n → (markedL k n)[i]? = some (((k + i * 2 : Nat) : Int), ((k + i * 2 + 1 : Nat) : Int))
  | 0, k, i, h => by omega
  | n + 1, k, 0, h => by simp [markedL]
  | n + 1, k, i + 1, h => by
    rw [markedL, List.getElem?_cons_succ, markedL_get n (k + 2) i (by omega), show k + 2 + i * 2 = k + (i + 1) * 2 by omega]

theorem markedL_length : ∀ (n k : Nat), (markedL k n).length = n
  | 0, k => rfl
  | n + 1, k => by rw [markedL, List.length_cons, markedL_length n (k + 2)]

theorem loop_l_heldLoadS {q n k0 : Nat} {c : Option Nat} {r : AV} (h : cellsAt H q = some (encL (markedL k0 n))) (hn : n ≤ 4194304) (hk0 : k0 ≤ 16777216) :
    ∀ (k i : Nat) (y4 y5 y6 : AV), k + i = n → ∃ z4 z5 z6, run T pr (.loop w_l_heldLoadS_1) ⟨[slL q n c, .int .i64 ((k0 + i * 2 : Nat) : Int), r, .int .i64 i, y4, y5, y6], ⟨H, e⟩⟩ =
      some (Ex.exit 0, ⟨[slL q n c, .int .i64 ((k0 + n * 2 : Nat) : Int), r, .int .i64 n, z4, z5, z6], ⟨H, e⟩⟩)
  | 0, i, y4, y5, y6, hk => by
    have hi : i = n := by omega
    subst hi
    refine ⟨.bool false, y5, y6, ?_⟩
    rw [run_loop]
    generalize run T pr (.loop w_l_heldLoadS_1) = R
    simp +contextual only [w_l_heldLoadS_1, Nat.lt_irrefl, decide_false, go_sem, entry, joinEsc, if_pos, reduceIte, Nat.reduceAdd, Nat.reduceLeDiff, Nat.reduceLT, Nat.reduceEqDiff]
  | k + 1, i, y4, y5, y6, hk => by
    have hi : i < n := by omega
    have hl := markedL_get n k0 i hi
    obtain ⟨z4, z5, z6, ih⟩ := loop_l_heldLoadS (c := c) (r := r) h hn hk0 k (i + 1) (.bool true) (.bool false) (.bool false) (by omega)
    refine ⟨z4, z5, z6, ?_⟩
    rw [run_loop]
    rw [show k0 + (i + 1) * 2 = (k0 + i * 2) + 1 + 1 by omega] at ih
    have hK : k0 + i * 2 ≤ 33554432 := by omega
    generalize k0 + i * 2 = K at hl ih hK ⊢
    generalize run T pr (.loop w_l_heldLoadS_1) = R at ih ⊢
    simp +contextual only [w_l_heldLoadS_1, h, hi, part_encL0 _ hl, part_encL1 _ hl, wrap_succ (show K < 9223372036854775807 by omega), wrap_succ (show K + 1 < 9223372036854775807 by omega), wrap_succ (show i < 9223372036854775807 by omega), decide_true, go_sem, entry, joinEsc, if_pos, reduceIte, Nat.reduceAdd, Nat.reduceLeDiff, Nat.reduceLT, Nat.reduceEqDiff]
    exact ih

theorem e_l_heldLoadS {q n k : Nat} {c : Option Nat} (h : cellsAt H q = some (encL (markedL k n))) (hn : n ≤ 4194304) (hk : k ≤ 16777216) : call T pr f_l_heldLoadS [slL q n c, .int .i64 k] ⟨H, e⟩ = some (.int .i64 ((k + n * 2 : Nat) : Int), ⟨H, e⟩) := by
  obtain ⟨z4, z5, z6, hl⟩ := loop_l_heldLoadS (pr := pr) (e := none) (c := c) (r := .int .i64 0) h hn hk n 0 .undef .undef .undef rfl
  have h0 : ((0 : Nat) : Int) = 0 := rfl
  rw [h0, Nat.zero_mul, Nat.add_zero] at hl
  rw [call_eq t_l_heldLoadS]
  simp +contextual only [a_l_heldLoadS, c_l_heldLoadS, hl, go_sem, entry, joinEsc, if_pos, reduceIte, Nat.reduceAdd, Nat.reduceLeDiff, Nat.reduceLT, Nat.reduceEqDiff]

def markedS (k : Nat) : Nat → List Sg
  | 0 => []
  | n + 1 => ((k : Int), ((k + 1 : Nat) : Int), ((k + 2 : Nat) : Int)) :: markedS (k + 3) n

theorem markedS_get : ∀ (n k i : Nat), i < n → (markedS k n)[i]? = some (((k + i * 3 : Nat) : Int), ((k + i * 3 + 1 : Nat) : Int), ((k + i * 3 + 2 : Nat) : Int))
  | 0, k, i, h => by omega
  | n + 1, k, 0, h => by simp [markedS]
  | n + 1, k, i + 1, h => by
    rw [markedS, List.getElem?_cons_succ, markedS_get n (k + 3) i (by omega), show k + 3 + i * 3 = k + (i + 1) * 3 by omega]

theorem part_encS0 {ss : List Sg} {i : Nat} {s : Sg} (sz : Nat) (h : ss[i]? = some s) : part false (encS ss) (i * 3) sz = some (.int .i64 s.1) := by
  induction ss generalizing i with
  | nil => simp at h
  | cons a ss ih =>
    cases i with
    | zero => simp at h; subst h; simp [encS, part]
    | succ i =>
      simp at h
      rw [show (i + 1) * 3 = i * 3 + 1 + 1 + 1 by omega, encS, part_fk, part_fk, part_fk]
      exact ih h

theorem part_encS1 {ss : List Sg} {i : Nat} {s : Sg} (sz : Nat) (h : ss[i]? = some s) : part false (encS ss) (i * 3 + 1) sz = some (.int .i64 s.2.1) := by
  induction ss generalizing i with
  | nil => simp at h
  | cons a ss ih =>
    cases i with
    | zero => simp at h; subst h; simp [encS, part]
    | succ i =>
      simp at h
      rw [show (i + 1) * 3 + 1 = i * 3 + 1 + 1 + 1 + 1 by omega, encS, part_fk, part_fk, part_fk]
      exact ih h

theorem part_encS2 {ss : List Sg} {i : Nat} {s : Sg} (sz : Nat) (h : ss[i]? = some s) : part false (encS ss) (i * 3 + 2) sz = some (.int .i64 s.2.2) := by
  induction ss generalizing i with
  | nil => simp at h
  | cons a ss ih =>
    cases i with
    | zero => simp at h; subst h; simp [encS, part]
    | succ i =>
      simp at h
      rw [show (i + 1) * 3 + 2 = i * 3 + 2 + 1 + 1 + 1 by omega, encS, part_fk, part_fk, part_fk]
      exact ih h

theorem setRange_midS0 (P R : List Sg) (r : Sg) (a : Int) : setRange (encS (P ++ r :: R)) (P.length * 3) [.int .i64 a] = encS (P ++ (a, r.2) :: R) := by
  induction P with
  | nil => simp [encS, setRange]
  | cons p P ih =>
    simp only [encS, List.cons_append, List.length_cons, Nat.add_mul, Nat.one_mul] at *
    rw [show P.length * 3 + 3 = P.length * 3 + 1 + 1 + 1 by omega, setRange_k, setRange_k, setRange_k, ih]

theorem setRange_midS1 (P R : List Sg) (r : Sg) (a : Int) : setRange (encS (P ++ r :: R)) (P.length * 3 + 1) [.int .i64 a] = encS (P ++ (r.1, a, r.2.2) :: R) := by
  induction P with
  | nil => simp [encS, setRange]
  | cons p P ih =>
    simp only [encS, List.cons_append, List.length_cons, Nat.add_mul, Nat.one_mul] at *
    rw [show P.length * 3 + 3 + 1 = P.length * 3 + 1 + 1 + 1 + 1 by omega, setRange_k, setRange_k, setRange_k, ih]

theorem setRange_midS2 (P R : List Sg) (r : Sg) (a : Int) : setRange (encS (P ++ r :: R)) (P.length * 3 + 2) [.int .i64 a] = encS (P ++ (r.1, r.2.1, a) :: R) := by
  induction P with
  | nil => simp [encS, setRange]
  | cons p P ih =>
    simp only [encS, List.cons_append, List.length_cons, Nat.add_mul, Nat.one_mul] at *
    rw [show P.length * 3 + 3 + 2 = P.length * 3 + 2 + 1 + 1 + 1 by omega, setRange_k, setRange_k, setRange_k, ih]

theorem finish_one_len {L' l : List Blk} {n : Nat} (v : AV) (e0 : Option Nat) (hl : L'.length = n) (h : v.under n = true) : finish 1 n e0 v ⟨L' ++ l, none⟩ = some (v, ⟨L', e0⟩) := by
  subst hl
  simp [finish, h, clean]

theorem set_left {L l : List Blk} {q : Nat} {x : Blk} (h : q < L.length) : (L ++ l).set q x = L.set q x ++ l := by
  rw [List.set_append_left _ _ h]

/-- what marking leaves of memory -/
def markMem (L : List Blk) (q1 q2 n m x : Nat) : List Blk := (L.set q1 (.cells (encL (markedL x n)) true)).set q2 (.cells (encS (markedS (x + n * 2) m)) true)

theorem binop_nil (p : Nat × Nat) (sz n : Nat) (c : Option Nat) : binop 3 .eql (.slice (some p) sz n c) (.slice none 0 0 none) = some (.bool false) := Eq.trans rfl rfl

/-- an append of none leaves a dead block -/
def kill0 (n b : Nat) (L : List Blk) : List Blk := if n = 0 then L.set b .dead else L

theorem kill0_length (n b : Nat) (L : List Blk) : (kill0 n b L).length = L.length := by unfold kill0; split <;> simp

theorem kill0_new (n k : Nat) (l : List Blk) : kill0 n (H.length + k) (H ++ l) = H ++ kill0 n k l := by
  unfold kill0
  split
  · rw [set_newk]
  · rfl

theorem kill0_new0 (n : Nat) (l : List Blk) : kill0 n H.length (H ++ l) = H ++ kill0 n 0 l := kill0_new n 0 l

theorem kill0_cons (n k : Nat) (x : Blk) (l : List Blk) : kill0 n (k + 1) (x :: l) = x :: kill0 n k l := by
  unfold kill0
  split <;> rfl

theorem kill0_0 (n : Nat) (x : Blk) (l : List Blk) : kill0 n 0 (x :: l) = (if n = 0 then Blk.dead else x) :: l := by
  unfold kill0
  split <;> rfl

theorem append_all {L : List Blk} {b q n sz bytes : Nat} {c : Option Nat} {cs : List AV} (hb : L[b]? = some (.cells [] true)) (hq : cellsAt L q = some cs) (hl : cs.length = n * sz) (hm : n * bytes ≤ maxBytes) :
    appendV L e false sz bytes (.slice (some (b, 0)) sz 0 (some 0)) (.slice (some (q, 0)) sz n c) = some (.slice (some (L.length, 0)) sz n none, ⟨kill0 n b L ++ [.cells cs true], e⟩) := by
  unfold appendV
  have hs := srcCells_new L n sz c cs q hq hl
  simp only [hb, hs]
  rw [if_pos (by simp [hm, hl])]
  unfold kill0
  by_cases hn : n = 0
  · subst hn
    have : cs = [] := by simpa using hl
    subst this
    simp
  · rw [if_pos ⟨trivial, by omega⟩, if_neg hn]
    simp

theorem e_Clone_Load {q : Nat} {c : Option Nat} {ls : List Ld} (h : cellsAt H q = some (encL ls)) (hn : ls.length ≤ 1048576) : call T pr f_slices_Clone_Si_Load_i_Load [slL q ls.length c] ⟨H, e⟩ = some (slL H.length ls.length none, ⟨H ++ [.cells (encL ls) true], e⟩) := by
  have ha := fun L b e' (hb : L[b]? = some (.cells [] true)) hq => append_all (e := e') (L := L) (b := b) (q := q) (n := ls.length) (sz := 2) (bytes := 16) (c := c) (cs := encL ls) hb hq (encL_length ls) (by unfold maxBytes; omega)
  have hf : ∀ (B : Blk) (e0 : Option Nat), finish 2 H.length e0 (slL (H.length + 1) ls.length none) ⟨H ++ [B, .cells (encL ls) true], none⟩ = some (slL H.length ls.length none, ⟨H ++ [.cells (encL ls) true], e0⟩) :=
    fun B e0 => finish_two_at e0 rfl (under_encL _ _)
  rw [call_eq t_slices_Clone_Si_Load_i_Load]
  simp +contextual only [a_slices_Clone_Si_Load_i_Load, c_slices_Clone_Si_Load_i_Load, binop_nil, fillParts, ha, cells_mono h, kill0_new0, kill0_0, hf, go_sem, entry, joinEsc, if_pos, reduceIte, Nat.reduceAdd, Nat.reduceLeDiff, Nat.reduceLT, Nat.reduceEqDiff]

theorem cellsAt_lt {L : List Blk} {w : Nat} {cs : List AV} (h : cellsAt L w = some cs) : w < L.length := by
  unfold cellsAt at h
  cases hb : L[w]? with
  | none => rw [hb] at h; cases h
  | some x => exact (List.getElem?_eq_some_iff.mp hb).1

end Go.Proofs.Ythkgpblohjpcdaa.Slim

/- Parties: what is valid, copies; the first law. -/
namespace Go.Proofs.Ythkgpblohjpcdaa.Slim

open Go

set_option linter.unusedSimpArgs false

set_option linter.unusedVariables false

variable {pr : Prims} {H : List Blk} {e : Option Nat}

abbrev ptV (x a b : Int) (people : AV) (s : Int) : AV := .agg [.int .i64 x, .int .i64 a, .int .i64 b, people, .int .i64 s]

theorem finish_party {G : List Blk} {j n : Nat} {c : Option Nat} {cs : List AV} {wr : Bool} (x a b s : Int) (e0 e1 : Option Nat) (hc : clean H.length e1 = true) (h1 : G[j]? = some (.cells cs wr)) (u1 : (cs.all fun c => c.under H.length) = true) :
    finish 2 H.length e0 (ptV x a b (slL (H.length + j) n c) s) ⟨H ++ G, e1⟩ = some (ptV x a b (slL H.length n c) s, ⟨H ++ [.cells cs wr], e0⟩) := by
  have hlt1 : ¬ H.length + j < H.length := by omega
  have hr : dedup (AV.roots H.length (ptV x a b (slL (H.length + j) n c) s)) = [H.length + j] := by
    simp only [AV.roots, AV.roots.go, if_neg hlt1, List.nil_append, List.cons_append, List.append_nil]
    rfl
  have hb1 : (H ++ G)[H.length + j]? = some (.cells cs wr) := by rw [List.getElem?_append_right (by omega)]; simpa using h1
  unfold finish
  simp only [hr]
  have h3 : ([H.length + j].all fun b => flatBlk H.length (H ++ G)[b]?) = true := by
    simp only [List.all_cons, List.all_nil, Bool.and_true, hb1, flatBlk, u1]
  simp only [hc, h3, and_self, if_true]
  simp [AV.rename, AV.rename.go, renum, hb1, hlt1]

theorem finish_partyB {G : List Blk} {j n : Nat} {c : Option Nat} {cs : List AV} {wr : Bool} (x a b s : Int) (y : Bool) (e0 e1 : Option Nat) (hc : clean H.length e1 = true) (h1 : G[j]? = some (.cells cs wr)) (u1 : (cs.all fun c => c.under H.length) = true) :
    finish 2 H.length e0 (.tup [ptV x a b (slL (H.length + j) n c) s, .bool y]) ⟨H ++ G, e1⟩ = some (.tup [ptV x a b (slL H.length n c) s, .bool y], ⟨H ++ [.cells cs wr], e0⟩) := by
  have hlt1 : ¬ H.length + j < H.length := by omega
  have hr : dedup (AV.roots H.length (.tup [ptV x a b (slL (H.length + j) n c) s, .bool y])) = [H.length + j] := by
    simp only [AV.roots, AV.roots.go, if_neg hlt1, List.nil_append, List.cons_append, List.append_nil]
    rfl
  have hb1 : (H ++ G)[H.length + j]? = some (.cells cs wr) := by rw [List.getElem?_append_right (by omega)]; simpa using h1
  unfold finish
  simp only [hr]
  have h3 : ([H.length + j].all fun b => flatBlk H.length (H ++ G)[b]?) = true := by
    simp only [List.all_cons, List.all_nil, Bool.and_true, hb1, flatBlk, u1]
  simp only [hc, h3, and_self, if_true]
  simp [AV.rename, AV.rename.go, renum, hb1, hlt1]

theorem finish_partyN {G : List Blk} {s1 n1 : Nat} {c1 : Option Nat} (x a b s : Int) (y : Bool) (e0 e1 : Option Nat) (hc : clean H.length e1 = true) :
    finish 2 H.length e0 (.tup [ptV x a b (.slice none s1 n1 c1) s, .bool y]) ⟨H ++ G, e1⟩ = some (.tup [ptV x a b (.slice none s1 n1 c1) s, .bool y], ⟨H, e0⟩) := by
  have hr : dedup (AV.roots H.length (.tup [ptV x a b (.slice none s1 n1 c1) s, .bool y])) = [] := rfl
  unfold finish
  simp only [hr]
  simp [AV.rename, AV.rename.go, hc]

theorem e_l_eqBeam (x a b : Int) : call T pr f_l_eqBeam [bmV x a b, bmV x a b] ⟨H, e⟩ = some (.bool true, ⟨H, e⟩) := by
  rw [call_eq t_l_eqBeam]
  simp +contextual only [a_l_eqBeam, c_l_eqBeam, decide_true, go_sem, entry, joinEsc, if_pos, reduceIte, Nat.reduceAdd, Nat.reduceLeDiff, Nat.reduceLT, Nat.reduceEqDiff]

theorem e_l_eqParty {r1 r2 : AV} (h1 : ∀ G, call T pr f_l_eqLoadS [r1, r2] ⟨H ++ G, none⟩ = some (.bool true, ⟨H ++ G, none⟩)) (x a b s : Int) :
    call T pr f_l_eqParty [ptV x a b r1 s, ptV x a b r2 s] ⟨H, e⟩ = some (.bool true, ⟨H, e⟩) := by
  rw [call_eq t_l_eqParty]
  simp +contextual only [a_l_eqParty, c_l_eqParty, e_l_eqBeam, h1, decide_true, go_sem, entry, joinEsc, if_pos, reduceIte, Nat.reduceAdd, Nat.reduceLeDiff, Nat.reduceLT, Nat.reduceEqDiff]

theorem e_l_szParty {p : Option (Nat × Nat)} {sz n : Nat} {c : Option Nat} (hn : n ≤ maxLen) (x a b s : Int) : call T pr f_l_szParty [ptV x a b (.slice p sz n c) s, .int .i64 1048576] ⟨H, e⟩ =
    some (.int .i64 (if n ≤ 1048576 then 1048576 - (n : Int) else -1), ⟨H, e⟩) := by
  rw [call_eq t_l_szParty]
  by_cases h1 : n ≤ 1048576
  · have h2 : ¬ (1048576 - (n : Int) < 0) := by omega
    simp +contextual only [a_l_szParty, c_l_szParty, e_l_szLoadS _ _ _ _ hn, h1, h2, decide_false, go_sem, entry, joinEsc, if_pos, reduceIte, Nat.reduceAdd, Nat.reduceLeDiff, Nat.reduceLT, Nat.reduceEqDiff]
  · simp +contextual only [a_l_szParty, c_l_szParty, e_l_szLoadS _ _ _ _ hn, h1, decide_true, show ((-1 : Int) < 0) by omega, go_sem, entry, joinEsc, if_pos, reduceIte, Nat.reduceAdd, Nat.reduceLeDiff, Nat.reduceLT, Nat.reduceEqDiff]

theorem e_l_toParty {people : AV} {ls : List Ld} (ha : ArgL H people ls) (hn : ls.length ≤ 1048576) (x a b s : Int) : call T pr f_l_toParty [ptV x a b people s] ⟨H, e⟩ =
    some (ptV x a b (slL H.length ls.length (some ls.length)) s, ⟨H ++ [.cells (encL ls) true], e⟩) := by
  have h1 := fun G e' => e_l_toLoadS (pr := pr) (e := e') (ha.more G) hn
  have hf : ∀ (B1 B2 B3 : Blk) (e0 e1 : Option Nat), clean H.length e1 = true → finish 2 H.length e0 (ptV x a b (slL (H.length + 3) ls.length (some ls.length)) s) ⟨H ++ [B1, B2, B3, .cells (encL ls) true], e1⟩ = some (ptV x a b (slL H.length ls.length (some ls.length)) s, ⟨H ++ [.cells (encL ls) true], e0⟩) :=
    fun B1 B2 B3 e0 e1 hc => finish_party x a b s e0 e1 hc rfl (under_encL _ _)
  rw [call_eq t_l_toParty]
  simp +contextual only [a_l_toParty, c_l_toParty, e_l_toBeam, h1, hf, under_slice, Nat.add_assoc, Nat.add_lt_add_iff_left, Nat.lt_irrefl, decide_false, clean_minEsc, clean_none, Nat.le_add_right, Nat.le_refl, decide_true, go_sem, entry, joinEsc, if_pos, reduceIte, Nat.reduceAdd, Nat.reduceLeDiff, Nat.reduceLT, Nat.reduceEqDiff]

/-- a valid party -/
def partyOk (x a b : Int) (ls : List Ld) (s : Int) : Bool := onOk x a b ls && (decide (x ≤ 12) && ((decide (1 ≤ ls.length) && decide (ls.length ≤ 3)) && (decide (sideW ls a b = 0) && (decide (1 ≤ s) && decide (s ≤ 4)))))

theorem e_i_IsParty {q : Nat} {c : Option Nat} {ls : List Ld} (h : cellsAt H q = some (encL ls)) (hn : ls.length ≤ 9223372036854775806) (x a b s : Int) : call T pr f_i_IsParty [ptV x a b (slL q ls.length c) s] ⟨H, e⟩ = some (.bool (partyOk x a b ls s), ⟨H, e⟩) := by
  rw [call_eq t_i_IsParty]
  have hi : (decide ((1 : Int) ≤ (ls.length : Int)) && decide ((ls.length : Int) ≤ 3)) = (decide (1 ≤ ls.length) && decide (ls.length ≤ 3)) := by
    rw [decide_eq_decide.mpr (show (1 : Int) ≤ (ls.length : Int) ↔ 1 ≤ ls.length by omega), decide_eq_decide.mpr (show (ls.length : Int) ≤ 3 ↔ ls.length ≤ 3 by omega)]
  unfold partyOk
  cases h1 : onOk x a b ls with
  | false => simp +contextual only [a_i_IsParty, c_i_IsParty, e_i_isOn (cells_mono h _) hn, h1, go_sem, entry, joinEsc, if_pos, reduceIte, Nat.reduceAdd, Nat.reduceLeDiff, Nat.reduceLT, Nat.reduceEqDiff]
  | true =>
    cases h2 : decide (x ≤ 12) with
    | false => simp +contextual only [a_i_IsParty, c_i_IsParty, e_i_isOn (cells_mono h _) hn, h1, h2, go_sem, entry, joinEsc, if_pos, reduceIte, Nat.reduceAdd, Nat.reduceLeDiff, Nat.reduceLT, Nat.reduceEqDiff]
    | true =>
      rw [← hi]
      cases h3 : (decide ((1 : Int) ≤ (ls.length : Int)) && decide ((ls.length : Int) ≤ 3)) with
      | false => simp +contextual only [a_i_IsParty, c_i_IsParty, e_i_isOn (cells_mono h _) hn, e_i_within, h1, h2, h3, go_sem, entry, joinEsc, if_pos, reduceIte, Nat.reduceAdd, Nat.reduceLeDiff, Nat.reduceLT, Nat.reduceEqDiff]
      | true =>
        cases h4 : decide (sideW ls a b = 0) with
        | false => simp +contextual only [a_i_IsParty, c_i_IsParty, e_i_isOn (cells_mono h _) hn, e_i_within, e_i_Beam_rests (cells_mono h _) hn, h1, h2, h3, h4, go_sem, entry, joinEsc, if_pos, reduceIte, Nat.reduceAdd, Nat.reduceLeDiff, Nat.reduceLT, Nat.reduceEqDiff]
        | true => simp +contextual only [a_i_IsParty, c_i_IsParty, e_i_isOn (cells_mono h _) hn, e_i_within, e_i_Beam_rests (cells_mono h _) hn, h1, h2, h3, h4, go_sem, entry, joinEsc, if_pos, reduceIte, Nat.reduceAdd, Nat.reduceLeDiff, Nat.reduceLT, Nat.reduceEqDiff]

theorem e_s_l11Rests {q : Nat} {c : Option Nat} {ls : List Ld} (h : cellsAt H q = some (encL ls)) (hn : ls.length ≤ 9223372036854775806) (x a b s : Int) : call T pr f_s_l11Rests [ptV x a b (slL q ls.length c) s] ⟨H, e⟩ = some (.bool (decide (sideW ls a b = 0)), ⟨H, e⟩) := by
  rw [call_eq t_s_l11Rests]
  simp +contextual only [a_s_l11Rests, c_s_l11Rests, e_s_l2Side (cells_mono h _) hn, go_sem, entry, joinEsc, if_pos, reduceIte, Nat.reduceAdd, Nat.reduceLeDiff, Nat.reduceLT, Nat.reduceEqDiff]

theorem e_s_l11Party {q : Nat} {c : Option Nat} {ls : List Ld} (h : cellsAt H q = some (encL ls)) (hn : ls.length ≤ 9223372036854775806) (x a b s : Int) : call T pr f_s_l11Party [ptV x a b (slL q ls.length c) s] ⟨H, e⟩ = some (.bool (partyOk x a b ls s), ⟨H, e⟩) := by
  rw [call_eq t_s_l11Party]
  have hi : (decide ((1 : Int) ≤ (ls.length : Int)) && decide ((ls.length : Int) ≤ 3)) = (decide (1 ≤ ls.length) && decide (ls.length ≤ 3)) := by
    rw [decide_eq_decide.mpr (show (1 : Int) ≤ (ls.length : Int) ↔ 1 ≤ ls.length by omega), decide_eq_decide.mpr (show (ls.length : Int) ≤ 3 ↔ ls.length ≤ 3 by omega)]
  have hr := fun G => e_s_l11Rests (pr := pr) (e := none) (c := c) (cells_mono h G) hn x a b s
  unfold partyOk
  cases h0 : beamOk x a b with
  | false =>
    have h1 : onOk x a b ls = false := by unfold onOk; rw [h0]; rfl
    rw [h1]
    simp +contextual only [a_s_l11Party, c_s_l11Party, e_s_l6Beam, h0, go_sem, entry, joinEsc, if_pos, reduceIte, Nat.reduceAdd, Nat.reduceLeDiff, Nat.reduceLT, Nat.reduceEqDiff]
  | true =>
    cases h2 : decide (x ≤ 12) with
    | false => simp +contextual only [a_s_l11Party, c_s_l11Party, e_s_l6Beam, h0, h2, Bool.and_false, go_sem, entry, joinEsc, if_pos, reduceIte, Nat.reduceAdd, Nat.reduceLeDiff, Nat.reduceLT, Nat.reduceEqDiff]
    | true =>
      rw [← hi]
      cases h3 : (decide ((1 : Int) ≤ (ls.length : Int)) && decide ((ls.length : Int) ≤ 3)) with
      | false => simp +contextual only [a_s_l11Party, c_s_l11Party, e_s_l6Beam, e_s_l1In, h0, h2, h3, Bool.and_false, go_sem, entry, joinEsc, if_pos, reduceIte, Nat.reduceAdd, Nat.reduceLeDiff, Nat.reduceLT, Nat.reduceEqDiff]
      | true =>
        cases h1 : onOk x a b ls with
        | false => simp +contextual only [a_s_l11Party, c_s_l11Party, e_s_l6Beam, e_s_l1In, e_s_l6On (cells_mono h _) hn, h0, h1, h2, h3, go_sem, entry, joinEsc, if_pos, reduceIte, Nat.reduceAdd, Nat.reduceLeDiff, Nat.reduceLT, Nat.reduceEqDiff]
        | true =>
          cases h5 : (decide (1 ≤ s) && decide (s ≤ 4)) with
          | false => simp +contextual only [a_s_l11Party, c_s_l11Party, e_s_l6Beam, e_s_l1In, e_s_l6On (cells_mono h _) hn, h0, h1, h2, h3, h5, go_sem, entry, joinEsc, if_pos, reduceIte, Nat.reduceAdd, Nat.reduceLeDiff, Nat.reduceLT, Nat.reduceEqDiff]
          | true => simp +contextual only [a_s_l11Party, c_s_l11Party, e_s_l6Beam, e_s_l1In, e_s_l6On (cells_mono h _) hn, hr, h0, h1, h2, h3, h5, go_sem, entry, joinEsc, if_pos, reduceIte, Nat.reduceAdd, Nat.reduceLeDiff, Nat.reduceLT, Nat.reduceEqDiff]

theorem e_s_IsParty {q : Nat} {c : Option Nat} {ls : List Ld} (h : cellsAt H q = some (encL ls)) (hn : ls.length ≤ 9223372036854775806) (x a b s : Int) : call T pr f_s_IsParty [ptV x a b (slL q ls.length c) s] ⟨H, e⟩ = some (.bool (partyOk x a b ls s), ⟨H, e⟩) := by
  rw [call_eq t_s_IsParty]
  simp +contextual only [a_s_IsParty, c_s_IsParty, e_s_l11Party (cells_mono h _) hn, go_sem, entry, joinEsc, if_pos, reduceIte, Nat.reduceAdd, Nat.reduceLeDiff, Nat.reduceLT, Nat.reduceEqDiff]

theorem law_IsParty {people : AV} {ls : List Ld} (ha : ArgL H people ls) (x a b s : Int) : ∃ m', call T pr f_l_FnExactIsParty [ptV x a b people s] ⟨H, none⟩ = some (.bool true, m') := by
  refine ⟨⟨H, none⟩, ?_⟩
  have hsz : ∀ G e', call T pr f_l_szParty [ptV x a b people s, .int .i64 1048576] ⟨G, e'⟩ = some (.int .i64 (if ls.length ≤ 1048576 then 1048576 - (ls.length : Int) else -1), ⟨G, e'⟩) := by
    obtain ⟨p, sz, c, rfl, h2, h3⟩ := ha
    exact fun G e' => e_l_szParty h2 x a b s
  rw [call_eq t_l_FnExactIsParty]
  by_cases hn : ls.length ≤ 1048576
  · have hneg : ¬ (1048576 - (ls.length : Int) < 0) := by omega
    have hto := fun G => e_l_toParty (pr := pr) (e := none) (ha.more G) hn x a b s
    have hn1 : ls.length ≤ 9223372036854775806 := by omega
    have hsi := fun L q c h1 => e_s_IsParty (pr := pr) (H := L) (e := none) (q := q) (c := c) (ls := ls) h1 hn1 x a b s
    have hii := fun L q c h1 => e_i_IsParty (pr := pr) (H := L) (e := none) (q := q) (c := c) (ls := ls) h1 hn1 x a b s
    have heq : ∀ L q1 q2 k1 k2, cellsAt L q1 = some (encL ls) → cellsAt L q2 = some (encL ls) → call T pr f_l_eqParty [ptV x a b (slL q1 ls.length k1) s, ptV x a b (slL q2 ls.length k2) s] ⟨L, none⟩ = some (.bool true, ⟨L, none⟩) :=
      fun L q1 q2 k1 k2 h1 h2 => e_l_eqParty (fun G => e_l_eqLoadS (cells_mono h1 G) (cells_mono h2 G) hn1) x a b s
    simp +contextual only [a_l_FnExactIsParty, c_l_FnExactIsParty, hsz, hn, hneg, hto, hsi, hii, heq, under_slice, under_sliceN, Nat.add_assoc, Nat.add_lt_add_iff_left, Nat.lt_add_right_iff_pos, decide_true, decide_false, beq_self_eq_true, go_sem, entry, joinEsc, if_pos, reduceIte, Nat.reduceAdd, Nat.reduceLeDiff, Nat.reduceLT, Nat.reduceEqDiff]
  · simp +contextual only [a_l_FnExactIsParty, c_l_FnExactIsParty, hsz, hn, decide_true, show ((-1 : Int) < 0) by omega, go_sem, entry, joinEsc, if_pos, reduceIte, Nat.reduceAdd, Nat.reduceLeDiff, Nat.reduceLT, Nat.reduceEqDiff]

end Go.Proofs.Ythkgpblohjpcdaa.Slim

/- People at other places. -/
namespace Go.Proofs.Ythkgpblohjpcdaa.Slim

open Go

set_option linter.unusedSimpArgs false

set_option linter.unusedVariables false

variable {pr : Prims} {H : List Blk} {e : Option Nat}

/-- people at other places -/
def putL : List Ld → List Int → List Ld
  | [], _ => []
  | l :: ls, ss => (ss.headD 0, l.2) :: putL ls ss.tail

theorem putL_length : ∀ (ls : List Ld) (ss : List Int), (putL ls ss).length = ls.length
  | [], _ => rfl
  | l :: ls, ss => by simp [putL, putL_length ls]

theorem drop_head (ss : List Int) (i : Nat) (h : i < ss.length) : ss[i]? = some ((ss.drop i).headD 0) ∧ (ss.drop i).tail = ss.drop (i + 1) := by
  rw [List.drop_eq_getElem_cons h]
  exact ⟨List.getElem?_eq_getElem h, rfl⟩

theorem cellsAt_set_ne {L : List Blk} {b u : Nat} {x : Blk} {cs : List AV} (h : cellsAt L u = some cs) (hne : b ≠ u) : cellsAt (L.set b x) u = some cs := by
  unfold cellsAt at *
  rw [List.getElem?_set_ne hne]
  exact h

theorem cellsAt_get {L : List Blk} {j : Nat} {cs : List AV} {w : Bool} (h : L[j]? = some (.cells cs w)) : cellsAt L j = some cs := by
  unfold cellsAt
  rw [h]

theorem loop_i_Party_at {L : List Blk} {b u o pb rb n : Nat} {x a a2 s : Int} {c : Option Nat} {ss : List Int} {y0 y1 : AV} (hb : b < L.length) (hu : cellsAt L u = some (encI ss)) (hss : ss.length = 3) (ho : cellsAt L o = some [.int .i64 x, .int .i64 a, .int .i64 a2, slL b n c, .int .i64 s]) (hn : n ≤ 3) (hne : b ≠ u) (hne2 : b ≠ o) :
    ∀ (R P : List Ld) (y6 y9 : AV), P.length + R.length = n → ∃ z6 z9, run T pr (.loop w_i_Party_at_1) ⟨[y0, y1, .ptr (some (pb, 0)), .ptr (some (u, 0)), .ptr (some (rb, 0)), .ptr (some (o, 0)), y6, .int .i64 n, .int .i64 P.length, y9], ⟨L.set b (.cells (encL (P ++ R)) true), e⟩⟩ =
      some (Ex.exit 0, ⟨[y0, y1, .ptr (some (pb, 0)), .ptr (some (u, 0)), .ptr (some (rb, 0)), .ptr (some (o, 0)), z6, .int .i64 n, .int .i64 n, z9], ⟨L.set b (.cells (encL (P ++ putL R (ss.drop P.length))) true), e⟩⟩)
  | [], P, y6, y9, hP => by
    refine ⟨y6, .bool false, ?_⟩
    obtain rfl : n = P.length := by simp at hP; omega
    rw [run_loop]
    generalize run T pr (.loop w_i_Party_at_1) = R'
    simp +contextual only [w_i_Party_at_1, Nat.lt_irrefl, decide_false, putL, go_sem, entry, joinEsc, if_pos, reduceIte, Nat.reduceAdd, Nat.reduceLeDiff, Nat.reduceLT, Nat.reduceEqDiff]
  | l :: R, P, y6, y9, hP => by
    simp only [List.length_cons] at hP
    have hi : P.length < n := by omega
    obtain ⟨hs1, hs2⟩ := drop_head ss P.length (by omega)
    obtain ⟨z6, z9, ih⟩ := loop_i_Party_at (c := c) (pb := pb) (rb := rb) (y0 := y0) (y1 := y1) hb hu hss ho hn hne hne2 R (P ++ [((ss.drop P.length).headD 0, l.2)]) (.int .i64 P.length) (.bool true) (by simp; omega)
    refine ⟨z6, z9, ?_⟩
    rw [run_loop]
    generalize run T pr (.loop w_i_Party_at_1) = R' at ih ⊢
    have hg : ∀ y : Ld, (L.set b (.cells (encL (P ++ y :: R)) true))[b]? = some (.cells (encL (P ++ y :: R)) true) := fun y => List.getElem?_set_self hb
    have hle : ∀ y : Ld, P.length * 2 + 1 ≤ (encL (P ++ y :: R)).length := by intro y; rw [encL_length]; simp; omega
    have hle2 : ∀ y : Ld, P.length * 2 + 2 ≤ (encL (P ++ y :: R)).length := by intro y; rw [encL_length]; simp; omega
    have hu' := fun y => cellsAt_set_ne (x := y) hu hne
    have ho' := fun y => cellsAt_set_ne (x := y) ho hne2
    have hi3 : P.length < 3 := by omega
    simp only [List.append_assoc, List.singleton_append, List.length_append, List.length_cons, List.length_nil, Nat.zero_add] at ih
    simp +contextual only [w_i_Party_at_1, hi, hi3, hg, hle, hle2, hu', ho', part_encI _ hs1, setRange_midL0, List.set_set, putL, hs2, wrap_succ (show P.length < 9223372036854775807 by omega), decide_true, go_sem, entry, joinEsc, if_pos, reduceIte, Nat.reduceAdd, Nat.reduceLeDiff, Nat.reduceLT, Nat.reduceEqDiff]
    exact ih

abbrev spV (s0 s1 s2 : Int) : AV := .agg [.int .i64 s0, .int .i64 s1, .int .i64 s2]

theorem e_i_Party_at {q : Nat} {c : Option Nat} {ls : List Ld} (h : cellsAt H q = some (encL ls)) (hn : ls.length ≤ 3) (x a b s s0 s1 s2 : Int) : call T pr f_i_Party_at [ptV x a b (slL q ls.length c) s, spV s0 s1 s2] ⟨H, e⟩ =
    some (ptV x a b (slL H.length ls.length none) s, ⟨H ++ [.cells (encL (putL ls [s0, s1, s2])) true], e⟩) := by
  have hf : ∀ (B0 B1 B2 B4 : Blk) (e0 e1 : Option Nat), clean H.length e1 = true → finish 2 H.length e0 (ptV x a b (slL (H.length + 3) ls.length none) s) ⟨H ++ [B0, B1, B2, .cells (encL (putL ls [s0, s1, s2])) true, B4], e1⟩ = some (ptV x a b (slL H.length ls.length none) s, ⟨H ++ [.cells (encL (putL ls [s0, s1, s2])) true], e0⟩) :=
    fun B0 B1 B2 B4 e0 e1 hc => finish_party x a b s e0 e1 hc rfl (under_encL _ _)
  obtain ⟨z6, z9, hl⟩ := loop_i_Party_at (pr := pr) (e := none) (L := H ++ [.cells [.int .i64 x, .int .i64 a, .int .i64 b, slL q ls.length c, .int .i64 s] true, .cells (encI [s0, s1, s2]) true, .cells [.int .i64 0, .int .i64 0, .int .i64 0, .slice none 0 0 none, .int .i64 0] true, .cells (encL ls) true, .cells [.int .i64 x, .int .i64 a, .int .i64 b, slL (H.length + 3) ls.length none, .int .i64 s] true])
    (b := H.length + 3) (u := H.length + 1) (o := H.length + 4) (pb := H.length) (rb := H.length + 2) (x := x) (a := a) (a2 := b) (s := s) (c := none) (ss := [s0, s1, s2]) (y0 := ptV x a b (slL q ls.length c) s) (y1 := spV s0 s1 s2) (by simp) (by rw [cellsAt_newk]; rfl) rfl (by rw [cellsAt_newk]; rfl) hn (by omega) (by omega) ls [] .undef .undef (by simp)
  have h0 : ((0 : Nat) : Int) = 0 := rfl
  simp only [set_newk, List.set_cons_succ, List.set_cons_zero, List.nil_append, List.length_nil, List.drop_zero, encI, List.map_cons, List.map_nil, h0] at hl
  rw [call_eq t_i_Party_at]
  simp +contextual only [a_i_Party_at, c_i_Party_at, fillParts, hl, hf, e_Clone_Load (cells_mono h _) (Nat.le_trans hn (by omega)), under_slice, Nat.add_assoc, Nat.add_lt_add_iff_left, Nat.lt_irrefl, decide_false, clean_minEsc, clean_none, Nat.le_add_right, Nat.le_refl, decide_true, go_sem, entry, joinEsc, if_pos, reduceIte, Nat.reduceAdd, Nat.reduceLeDiff, Nat.reduceLT, Nat.reduceEqDiff]

theorem e_i_Party_rests {q : Nat} {c : Option Nat} {ls : List Ld} (h : cellsAt H q = some (encL ls)) (hn : ls.length ≤ 3) (x a b s s0 s1 s2 : Int) : call T pr f_i_Party_rests [ptV x a b (slL q ls.length c) s, spV s0 s1 s2] ⟨H, e⟩ =
    some (.bool (decide (sideW (putL ls [s0, s1, s2]) a b = 0)), ⟨H, e⟩) := by
  have hat := fun G => e_i_Party_at (pr := pr) (e := none) (c := c) (cells_mono h G) hn x a b s s0 s1 s2
  have hr := fun L q' c' (h : cellsAt L q' = some (encL (putL ls [s0, s1, s2]))) => e_i_Beam_rests (pr := pr) (e := none) (c := c') h (by rw [putL_length]; omega) x a b
  simp only [putL_length] at hr
  rw [call_eq t_i_Party_rests]
  simp +contextual only [a_i_Party_rests, c_i_Party_rests, hat, hr, under_slice, Nat.add_assoc, Nat.add_lt_add_iff_left, Nat.lt_irrefl, decide_false, clean_minEsc, clean_none, Nat.le_add_right, Nat.le_refl, decide_true, go_sem, entry, joinEsc, if_pos, reduceIte, Nat.reduceAdd, Nat.reduceLeDiff, Nat.reduceLT, Nat.reduceEqDiff]

/-- the digits of a number, the last one first -/
def digs (m : Nat) : Nat → Nat → List Nat
  | 0, _ => []
  | n + 1, k => k % m :: digs m n (k / m)

theorem digs_length (m : Nat) : ∀ n k, (digs m n k).length = n
  | 0, _ => rfl
  | n + 1, k => by simp [digs, digs_length m n]

def ints (l : List Nat) : List Int := l.map fun (i : Nat) => (i : Int)

theorem loop_s_l11Size {L : List Blk} {u n d : Nat} {a a2 s : Int} {p : Option (Nat × Nat)} {sz : Nat} {c : Option Nat} {y0 y2 : AV} (hu : cellsAt L u = some [.int .i64 (d : Int), .int .i64 a, .int .i64 a2, .slice p sz n c, .int .i64 s]) (hn : n ≤ 3) (hd : d ≤ 12) :
    ∀ (k i v : Nat) (y5 : AV), k + i = n → v * (d + 1) ^ k ≤ 2197 → ∃ z5, run T pr (.loop w_s_l11Size_1) ⟨[y0, .ptr (some (u, 0)), y2, .int .i64 v, .int .i64 i, y5], ⟨L, e⟩⟩ =
      some (Ex.exit 0, ⟨[y0, .ptr (some (u, 0)), y2, .int .i64 ((v * (d + 1) ^ k : Nat) : Int), .int .i64 n, z5], ⟨L, e⟩⟩)
  | 0, i, v, y5, hk, hv => by
    refine ⟨.bool false, ?_⟩
    obtain rfl : i = n := by omega
    rw [run_loop, Nat.pow_zero, Nat.mul_one]
    generalize run T pr (.loop w_s_l11Size_1) = R'
    simp +contextual only [w_s_l11Size_1, hu, Nat.lt_irrefl, decide_false, go_sem, entry, joinEsc, if_pos, reduceIte, Nat.reduceAdd, Nat.reduceLeDiff, Nat.reduceLT, Nat.reduceEqDiff]
  | k + 1, i, v, y5, hk, hv => by
    have hi : i < n := by omega
    have hvv : v * (d + 1) ^ (k + 1) = v * (d + 1) * (d + 1) ^ k := by rw [Nat.pow_succ, Nat.mul_assoc, Nat.mul_comm (d + 1) ((d + 1) ^ k)]
    rw [hvv] at hv ⊢
    have h1 : v * (d + 1) ≤ 2197 := Nat.le_trans (Nat.le_mul_of_pos_right _ (Nat.pow_pos (Nat.succ_pos d))) hv
    obtain ⟨z5, ih⟩ := loop_s_l11Size (y0 := y0) (y2 := y2) hu hn hd k (i + 1) (v * (d + 1)) (.bool true) (by omega) hv
    refine ⟨z5, ?_⟩
    rw [run_loop]
    generalize run T pr (.loop w_s_l11Size_1) = R' at ih ⊢
    have hw : IntKind.i64.wrap ((v : Int) * ((d + 1 : Nat) : Int)) = ((v * (d + 1) : Nat) : Int) := by rw [← Int.natCast_mul]; exact wrapN (by omega)
    simp +contextual only [w_s_l11Size_1, hu, hi, wrap_succ (show d < 9223372036854775807 by omega), wrap_succ (show i < 9223372036854775807 by omega), hw, decide_true, go_sem, entry, joinEsc, if_pos, reduceIte, Nat.reduceAdd, Nat.reduceLeDiff, Nat.reduceLT, Nat.reduceEqDiff]
    exact ih

theorem e_s_l11Size {p : Option (Nat × Nat)} {sz n d : Nat} {c : Option Nat} (hn : n ≤ 3) (hd : d ≤ 12) (a b s : Int) : call T pr f_s_l11Size [ptV (d : Int) a b (.slice p sz n c) s] ⟨H, e⟩ =
    some (.int .i64 (((d + 1) ^ n : Nat) : Int), ⟨H, e⟩) := by
  have hp : 1 * (d + 1) ^ n ≤ 2197 := by
    rw [Nat.one_mul]
    have h1 : (d + 1) ^ n ≤ (d + 1) ^ 3 := Nat.pow_le_pow_right (by omega) hn
    have h2 : (d + 1) ^ 3 ≤ 13 ^ 3 := Nat.pow_le_pow_left (by omega) 3
    omega
  obtain ⟨z5, hl⟩ := loop_s_l11Size (pr := pr) (e := none) (L := H ++ [.cells [.int .i64 (d : Int), .int .i64 a, .int .i64 b, .slice p sz n c, .int .i64 s] true]) (u := H.length) (y0 := ptV (d : Int) a b (.slice p sz n c) s) (y2 := .int .i64 0) (by rw [cellsAt_new0]; rfl) hn hd n 0 1 .undef rfl hp
  have h0 : ((0 : Nat) : Int) = 0 := rfl
  have h1 : ((1 : Nat) : Int) = 1 := rfl
  rw [h0, h1, Nat.one_mul] at hl
  rw [call_eq t_s_l11Size]
  simp +contextual only [a_s_l11Size, c_s_l11Size, hl, go_sem, entry, joinEsc, if_pos, reduceIte, Nat.reduceAdd, Nat.reduceLeDiff, Nat.reduceLT, Nat.reduceEqDiff]

theorem tmodN (k m : Nat) : Int.tmod (k : Int) (m : Int) = ((k % m : Nat) : Int) := rfl

theorem tdivN (k m : Nat) : Int.tdiv (k : Int) (m : Int) = ((k / m : Nat) : Int) := rfl

theorem putL_app : ∀ (P : List Ld) (Q : List Ld) (ss ts : List Int), P.length = ss.length → putL (P ++ Q) (ss ++ ts) = putL P ss ++ putL Q ts
  | [], Q, [], ts, _ => rfl
  | p :: P, Q, s :: ss, ts, h => by simp [putL, putL_app P Q ss ts (by simpa using h)]

theorem loop_s_l11At {L : List Blk} {b o u rb d : Nat} {x a a2 s a' a2' s' : Int} {n : Nat} {c : Option Nat} {pl : AV} {y0 : AV} (hb : b < L.length) (hu : cellsAt L u = some [.int .i64 (d : Int), .int .i64 a', .int .i64 a2', pl, .int .i64 s']) (hd : d ≤ 12) (ho : cellsAt L o = some [.int .i64 x, .int .i64 a, .int .i64 a2, slL b n c, .int .i64 s]) (hn : n ≤ 3) (hne : b ≠ u) (hne2 : b ≠ o) :
    ∀ (j : Nat) (P Q : List Ld) (k : Nat) (y6 : AV), P.length = j → P.length + Q.length = n → k ≤ 2197 → ∃ z1 z5 z6, run T pr (.loop w_s_l11At_1) ⟨[y0, .int .i64 k, .ptr (some (u, 0)), .ptr (some (rb, 0)), .ptr (some (o, 0)), .int .i64 ((P.length : Int) - 1), y6], ⟨L.set b (.cells (encL (P ++ Q)) true), e⟩⟩ =
      some (Ex.exit 0, ⟨[y0, z1, .ptr (some (u, 0)), .ptr (some (rb, 0)), .ptr (some (o, 0)), z5, z6], ⟨L.set b (.cells (encL (putL P (ints (digs (d + 1) P.length k).reverse) ++ Q)) true), e⟩⟩)
  | 0, P, Q, k, y6, hj, hP, hk => by
    obtain rfl := List.length_eq_zero_iff.mp hj
    refine ⟨.int .i64 k, .int .i64 (-1), .bool false, ?_⟩
    have h1 : (((([] : List Ld).length : Nat) : Int) - 1) = -1 := rfl
    rw [run_loop, h1]
    generalize run T pr (.loop w_s_l11At_1) = R'
    have h2 : ¬ (0 : Int) ≤ -1 := by omega
    simp +contextual only [w_s_l11At_1, h2, decide_false, putL, go_sem, entry, joinEsc, if_pos, reduceIte, Nat.reduceAdd, Nat.reduceLeDiff, Nat.reduceLT, Nat.reduceEqDiff]
  | j + 1, P, Q, k, y6, hj, hP, hk => by
    obtain ⟨P', l, rfl⟩ : ∃ P' l, P = P' ++ [l] := ⟨P.dropLast, P.getLast (by intro h; subst h; simp at hj), (List.dropLast_concat_getLast _).symm⟩
    simp only [List.length_append, List.length_cons, List.length_nil, Nat.zero_add] at hj hP
    obtain ⟨z1, z5, z6, ih⟩ := loop_s_l11At (c := c) (rb := rb) (y0 := y0) hb hu hd ho hn hne hne2 j P' ((((k % (d + 1) : Nat) : Int), l.2) :: Q) (k / (d + 1)) (.bool true) (by omega) (by simp; omega) (Nat.le_trans (Nat.div_le_self _ _) hk)
    refine ⟨z1, z5, z6, ?_⟩
    have e1 : (((P' ++ [l]).length : Nat) : Int) - 1 = (P'.length : Int) := by simp
    have e2 : putL (P' ++ [l]) (ints (digs (d + 1) (P' ++ [l]).length k).reverse) = putL P' (ints (digs (d + 1) P'.length (k / (d + 1))).reverse) ++ [(((k % (d + 1) : Nat) : Int), l.2)] := by
      rw [List.length_append]
      show putL (P' ++ [l]) (ints (digs (d + 1) (P'.length + 1) k).reverse) = _
      rw [digs, List.reverse_cons, ints, List.map_append, putL_app _ _ _ _ (by simp [digs_length])]
      rfl
    rw [run_loop, e1, e2, List.append_assoc, List.append_assoc]
    generalize run T pr (.loop w_s_l11At_1) = R' at ih ⊢
    have hi : P'.length < n := by omega
    have h0 : (0 : Int) ≤ (P'.length : Int) := by omega
    have hg : ∀ y : Ld, (L.set b (.cells (encL (P' ++ y :: Q)) true))[b]? = some (.cells (encL (P' ++ y :: Q)) true) := fun y => List.getElem?_set_self hb
    have hle : ∀ y : Ld, P'.length * 2 + 1 ≤ (encL (P' ++ y :: Q)).length := by intro y; rw [encL_length]; simp; omega
    have hle2 : ∀ y : Ld, P'.length * 2 + 2 ≤ (encL (P' ++ y :: Q)).length := by intro y; rw [encL_length]; simp; omega
    have hu' := fun y => cellsAt_set_ne (x := y) hu hne
    have ho' := fun y => cellsAt_set_ne (x := y) ho hne2
    have hz : ¬ ((d + 1 : Nat) : Int) = 0 := by omega
    have hw1 : IntKind.i64.wrap ((P'.length : Int) - 1) = (P'.length : Int) - 1 := wrap64 (by omega) (by omega)
    have hw2 : IntKind.i64.wrap (((k / (d + 1) : Nat) : Int)) = ((k / (d + 1) : Nat) : Int) := wrapN (by have := Nat.div_le_self k (d + 1); omega)
    simp +contextual only [w_s_l11At_1, List.singleton_append, hi, h0, hg, hle, hle2, hu', ho', hz, tmodN, tdivN, setRange_midL0, List.set_set, hw1, hw2, wrap_succ (show d < 9223372036854775807 by omega), decide_true, decide_false, go_sem, entry, joinEsc, if_pos, reduceIte, Nat.reduceAdd, Nat.reduceLeDiff, Nat.reduceLT, Nat.reduceEqDiff]
    exact ih

theorem e_s_l11At {q : Nat} {c : Option Nat} {ls : List Ld} {d k : Nat} (h : cellsAt H q = some (encL ls)) (hn : ls.length ≤ 3) (hd : d ≤ 12) (hk : k ≤ 2197) (a b s : Int) : call T pr f_s_l11At [ptV (d : Int) a b (slL q ls.length c) s, .int .i64 k] ⟨H, e⟩ =
    some (ptV (d : Int) a b (slL H.length ls.length none) s, ⟨H ++ [.cells (encL (putL ls (ints (digs (d + 1) ls.length k).reverse))) true], e⟩) := by
  have ha1 := fun L b e' (hb : L[b]? = some (.cells [] true)) hq => append_all (e := e') (L := L) (b := b) (q := q) (n := ls.length) (sz := 2) (bytes := 16) (c := c) (cs := encL ls) hb hq (encL_length ls) (by unfold maxBytes; omega)
  have hf : ∀ (B0 B1 B2 B4 : Blk) (e0 e1 : Option Nat), clean H.length e1 = true → finish 2 H.length e0 (ptV (d : Int) a b (slL (H.length + 3) ls.length none) s) ⟨H ++ [B0, B1, B2, .cells (encL (putL ls (ints (digs (d + 1) ls.length k).reverse))) true, B4], e1⟩ = some (ptV (d : Int) a b (slL H.length ls.length none) s, ⟨H ++ [.cells (encL (putL ls (ints (digs (d + 1) ls.length k).reverse))) true], e0⟩) :=
    fun B0 B1 B2 B4 e0 e1 hc => finish_party _ a b s e0 e1 hc rfl (under_encL _ _)
  have ql : q < H.length + 2 := by have := cellsAt_lt h; omega
  obtain ⟨z1, z5, z6, hl⟩ := loop_s_l11At (pr := pr) (e := none) (L := H ++ [.cells [.int .i64 (d : Int), .int .i64 a, .int .i64 b, slL q ls.length c, .int .i64 s] true, .cells [.int .i64 0, .int .i64 0, .int .i64 0, .slice none 0 0 none, .int .i64 0] true, (if ls.length = 0 then Blk.dead else .cells [] true), .cells (encL ls) true, .cells [.int .i64 d, .int .i64 a, .int .i64 b, slL (H.length + 3) ls.length none, .int .i64 s] true])
    (b := H.length + 3) (u := H.length) (o := H.length + 4) (rb := H.length + 1) (d := d) (x := d) (a := a) (a2 := b) (s := s) (c := none) (pl := slL q ls.length c) (a' := a) (a2' := b) (s' := s) (n := ls.length) (y0 := ptV d a b (slL q ls.length c) s) (by simp) (by rw [cellsAt_new0]; rfl) hd (by rw [cellsAt_newk]; rfl) hn (by omega) (by omega) ls.length ls [] k .undef rfl (by simp) hk
  simp only [set_newk, List.set_cons_succ, List.set_cons_zero, List.append_nil] at hl
  have hw : IntKind.i64.wrap ((ls.length : Int) - 1) = (ls.length : Int) - 1 := wrap64 (by omega) (by omega)
  rw [call_eq t_s_l11At]
  simp +contextual only [a_s_l11At, c_s_l11At, fillParts, ha1, hl, hw, cells_mono h, kill0_new, kill0_cons, kill0_0, hf, ql, under_slice, Nat.add_assoc, Nat.add_lt_add_iff_left, Nat.lt_irrefl, decide_false, clean_minEsc, clean_none, Nat.le_add_right, Nat.le_refl, decide_true, go_sem, entry, joinEsc, if_pos, reduceIte, Nat.reduceAdd, Nat.reduceLeDiff, Nat.reduceLT, Nat.reduceEqDiff]

end Go.Proofs.Ythkgpblohjpcdaa.Slim

/- The places at which a party rests; the law. -/
namespace Go.Proofs.Ythkgpblohjpcdaa.Slim

open Go

set_option linter.unusedSimpArgs false

set_option linter.unusedVariables false

variable {pr : Prims} {H : List Blk} {e : Option Nat}

theorem cells_end (G : List Blk) (cs : List AV) (wr : Bool) : cellsAt (H ++ (G ++ [Blk.cells cs wr])) (H.length + G.length) = some cs := by
  rw [cellsAt_newk, cellsAt_new0, cellsAt_cons0]

def sumN : Nat → (Nat → Nat) → Nat
  | 0, _ => 0
  | n + 1, f => sumN n f + f n

theorem sumN_congr {f g : Nat → Nat} : ∀ n, (∀ i, i < n → f i = g i) → sumN n f = sumN n g
  | 0, _ => rfl
  | n + 1, h => by rw [sumN, sumN, sumN_congr n (fun i hi => h i (by omega)), h n (by omega)]

theorem sumN_le {f : Nat → Nat} (h : ∀ i, f i ≤ 1) : ∀ n, sumN n f ≤ n
  | 0 => Nat.le_refl _
  | n + 1 => by have := sumN_le h n; have := h n; rw [sumN]; omega

theorem sumN_add_len (f : Nat → Nat) (a : Nat) : ∀ b, sumN (a + b) f = sumN a f + sumN b (fun k => f (a + k))
  | 0 => rfl
  | b + 1 => by rw [← Nat.add_assoc, sumN, sumN, sumN_add_len f a b]; omega

theorem sumN_add (f g : Nat → Nat) : ∀ n, sumN n (fun k => f k + g k) = sumN n f + sumN n g
  | 0 => rfl
  | n + 1 => by rw [sumN, sumN, sumN, sumN_add f g n]; omega

theorem sumN_zero : ∀ n, sumN n (fun _ => 0) = 0
  | 0 => rfl
  | n + 1 => by rw [sumN, sumN_zero n]

theorem sumN_swap (g : Nat → Nat → Nat) (b : Nat) : ∀ a, sumN a (fun x => sumN b (g x)) = sumN b (fun y => sumN a (fun x => g x y))
  | 0 => by
    show 0 = sumN b (fun _ => 0)
    rw [sumN_zero]
  | a + 1 => by
    rw [sumN, sumN_swap g b a, ← sumN_add]
    rfl

theorem sumN_mul (f : Nat → Nat) (N : Nat) : ∀ m, sumN (m * N) f = sumN m (fun x => sumN N (fun r => f (x * N + r)))
  | 0 => by rw [Nat.zero_mul]; rfl
  | m + 1 => by rw [Nat.add_mul, Nat.one_mul, sumN_add_len, sumN_mul f N m, sumN]

theorem digs_head {m x : Nat} (hx : x < m) (n r : Nat) : digs m (n + 1) (r * m + x) = x :: digs m n r := by
  rw [digs, Nat.mul_comm, Nat.mul_add_mod, Nat.mod_eq_of_lt hx, Nat.mul_add_div (by omega), Nat.div_eq_of_lt hx, Nat.add_zero]

theorem digs_last {m x : Nat} (hx : x < m) : ∀ n r, r < m ^ n → digs m (n + 1) (x * m ^ n + r) = digs m n r ++ [x]
  | 0, r, hr => by
    obtain rfl : r = 0 := by simp at hr; exact hr
    simp [digs, Nat.mod_eq_of_lt hx]
  | n + 1, r, hr => by
    have e1 : x * m ^ (n + 1) + r = m * (x * m ^ n) + r := by rw [Nat.pow_succ, ← Nat.mul_assoc, Nat.mul_comm m]
    have hm : 0 < m := by omega
    have h2 : r / m < m ^ n := by rw [Nat.div_lt_iff_lt_mul hm]; rw [Nat.pow_succ] at hr; exact hr
    rw [digs, e1, Nat.mul_add_mod, Nat.mul_add_div hm, digs_last hx n (r / m) h2]
    rfl

/-- all lists of digits, told from either end -/
theorem digs_rev {m : Nat} : ∀ (n : Nat) (f : List Nat → Nat), sumN (m ^ n) (fun k => f (digs m n k)) = sumN (m ^ n) (fun k => f (digs m n k).reverse)
  | 0, f => rfl
  | n + 1, f => by
    have e1 : sumN (m ^ (n + 1)) (fun k => f (digs m (n + 1) k)) = sumN m (fun x => sumN (m ^ n) (fun r => f (digs m n r ++ [x]))) := by
      rw [show m ^ (n + 1) = m * m ^ n by rw [Nat.pow_succ, Nat.mul_comm], sumN_mul]
      refine sumN_congr _ fun x hx => sumN_congr _ fun r hr => ?_
      rw [digs_last hx n r hr]
    have e2 : sumN (m ^ (n + 1)) (fun k => f (digs m (n + 1) k).reverse) = sumN m (fun x => sumN (m ^ n) (fun r => f ((digs m n r).reverse ++ [x]))) := by
      rw [Nat.pow_succ, sumN_mul, sumN_swap (fun r x => f (digs m (n + 1) (r * m + x)).reverse)]
      refine sumN_congr _ fun x hx => sumN_congr _ fun r hr => ?_
      rw [digs_head hx, List.reverse_cons]
    rw [e1, e2]
    exact sumN_congr _ fun x hx => digs_rev n (fun l => f (l ++ [x]))

theorem putL_more (ls : List Ld) (ss ts : List Int) (h : ls.length = ss.length) : putL ls (ss ++ ts) = putL ls ss := by
  have := putL_app ls [] ss ts h
  simpa [putL] using this

/-- do they rest at the places of a number? -/
def restD (ls : List Ld) (a b : Int) (l : List Nat) : Bool := decide (sideW (putL ls (ints l)) a b = 0)

def restN (ls : List Ld) (a b : Int) (d : Nat) : Nat := sumN ((d + 1) ^ ls.length) fun k => (restD ls a b (digs (d + 1) ls.length k)).toNat

theorem pow_le {n d : Nat} (hn : n ≤ 3) (hd : d ≤ 12) : (d + 1) ^ n ≤ 2197 := by
  have h1 : (d + 1) ^ n ≤ (d + 1) ^ 3 := Nat.pow_le_pow_right (by omega) hn
  have h2 : (d + 1) ^ 3 ≤ 13 ^ 3 := Nat.pow_le_pow_left (by omega) 3
  omega

theorem toNat_le (b : Bool) : b.toNat ≤ 1 := by cases b <;> decide

theorem loop_s_RestingPlaces {q u d : Nat} {c : Option Nat} {ls : List Ld} {a b s : Int} {y0 y2 y3 y6 : AV} (h : cellsAt H q = some (encL ls)) (hn : ls.length ≤ 3) (hd : d ≤ 12) (hu : cellsAt H u = some [.int .i64 (d : Int), .int .i64 a, .int .i64 b, slL q ls.length c, .int .i64 s]) :
    ∀ (k i : Nat) (G : List Blk) (y7 y8 : AV), k + i = (d + 1) ^ ls.length → ∃ (G' : List Blk) (z7 z8 : AV), run T pr (.loop w_s_RestingPlaces_1) ⟨[y0, .ptr (some (u, 0)), y2, y3, .int .i64 (sumN i fun k => (restD ls a b (digs (d + 1) ls.length k).reverse).toNat : Nat), .int .i64 i, y6, y7, y8], ⟨H ++ G, e⟩⟩ =
      some (Ex.exit 0, ⟨[y0, .ptr (some (u, 0)), y2, y3, .int .i64 (sumN ((d + 1) ^ ls.length) fun k => (restD ls a b (digs (d + 1) ls.length k).reverse).toNat : Nat), .int .i64 ((d + 1) ^ ls.length : Nat), y6, z7, z8], ⟨H ++ G', e⟩⟩)
  | 0, i, G, y7, y8, hk => by
    obtain rfl : i = (d + 1) ^ ls.length := by omega
    refine ⟨G, .bool false, y8, ?_⟩
    rw [run_loop]
    generalize run T pr (.loop w_s_RestingPlaces_1) = R
    simp +contextual only [w_s_RestingPlaces_1, cells_mono hu, e_s_l11Size hn hd, Nat.lt_irrefl, decide_false, go_sem, entry, joinEsc, if_pos, reduceIte, Nat.reduceAdd, Nat.reduceLeDiff, Nat.reduceLT, Nat.reduceEqDiff]
  | k + 1, i, G, y7, y8, hk => by
    have hp := pow_le hn hd
    have hi : i < (d + 1) ^ ls.length := by omega
    have hat := e_s_l11At (pr := pr) (e := e) (c := c) (cells_mono h G) hn hd (show i ≤ 2197 by omega) a b s
    have hs := e_s_l11Rests (pr := pr) (e := e) (c := none) (cells_end (H := H) G (encL (putL ls (ints (digs (d + 1) ls.length i).reverse))) true) (by rw [putL_length]; omega) d a b s
    simp only [List.length_append, List.append_assoc, putL_length] at hat hs
    have hsum := sumN_le (f := fun k => (restD ls a b (digs (d + 1) ls.length k).reverse).toNat) (fun i => toNat_le _) i
    obtain ⟨G', z7, z8, ih⟩ := loop_s_RestingPlaces (c := c) (y0 := y0) (y2 := y2) (y3 := y3) (y6 := y6) h hn hd hu k (i + 1) (G ++ [.cells (encL (putL ls (ints (digs (d + 1) ls.length i).reverse))) true]) (.bool true) (.bool (restD ls a b (digs (d + 1) ls.length i).reverse)) (by omega)
    refine ⟨G', z7, z8, ?_⟩
    rw [run_loop]
    rw [sumN] at ih
    generalize sumN i (fun k => (restD ls a b (digs (d + 1) ls.length k).reverse).toNat) = many at ih hsum ⊢
    generalize sumN ((d + 1) ^ ls.length) (fun k => (restD ls a b (digs (d + 1) ls.length k).reverse).toNat) = all at ih ⊢
    generalize run T pr (.loop w_s_RestingPlaces_1) = R at ih ⊢
    unfold restD at ih
    cases h3 : decide (sideW (putL ls (ints (digs (d + 1) ls.length i).reverse)) a b = 0) <;> rw [h3] at ih hs <;>
      simp +contextual only [w_s_RestingPlaces_1, cells_mono hu, e_s_l11Size hn hd, hi, hat, hs, wrap_succ (show i < 9223372036854775807 by omega), wrap_succ (show many < 9223372036854775807 by omega), decide_true, go_sem, entry, joinEsc, if_pos, reduceIte, Nat.reduceAdd, Nat.reduceLeDiff, Nat.reduceLT, Nat.reduceEqDiff] <;> exact ih

theorem loop_i_RestingPlaces_1 {L : List Blk} {u n d : Nat} {a a2 s : Int} {p : Option (Nat × Nat)} {sz : Nat} {c : Option Nat} {y0 y2 y3 y4 y6 y7 y8 y9 y13 y14 y15 y16 y17 y18 y19 : AV} (hu : cellsAt L u = some [.int .i64 (d : Int), .int .i64 a, .int .i64 a2, .slice p sz n c, .int .i64 s]) (hn : n ≤ 3) (hd : d ≤ 12) :
    ∀ (k i v : Nat) (y12 : AV), k + i = n → v * (d + 1) ^ k ≤ 2197 → ∃ z12, run T pr (.loop w_i_RestingPlaces_1) ⟨[y0, .ptr (some (u, 0)), y2, y3, y4, .int .i64 v, y6, y7, y8, y9, .int .i64 n, .int .i64 i, y12, y13, y14, y15, y16, y17, y18, y19], ⟨L, e⟩⟩ =
      some (Ex.exit 0, ⟨[y0, .ptr (some (u, 0)), y2, y3, y4, .int .i64 ((v * (d + 1) ^ k : Nat) : Int), y6, y7, y8, y9, .int .i64 n, .int .i64 n, z12, y13, y14, y15, y16, y17, y18, y19], ⟨L, e⟩⟩)
  | 0, i, v, y12, hk, hv => by
    refine ⟨.bool false, ?_⟩
    obtain rfl : i = n := by omega
    rw [run_loop, Nat.pow_zero, Nat.mul_one]
    generalize run T pr (.loop w_i_RestingPlaces_1) = R'
    simp +contextual only [w_i_RestingPlaces_1, hu, Nat.lt_irrefl, decide_false, go_sem, entry, joinEsc, if_pos, reduceIte, Nat.reduceAdd, Nat.reduceLeDiff, Nat.reduceLT, Nat.reduceEqDiff]
  | k + 1, i, v, y12, hk, hv => by
    have hi : i < n := by omega
    have hvv : v * (d + 1) ^ (k + 1) = v * (d + 1) * (d + 1) ^ k := by rw [Nat.pow_succ, Nat.mul_assoc, Nat.mul_comm (d + 1) ((d + 1) ^ k)]
    rw [hvv] at hv ⊢
    have h1 : v * (d + 1) ≤ 2197 := Nat.le_trans (Nat.le_mul_of_pos_right _ (Nat.pow_pos (Nat.succ_pos d))) hv
    obtain ⟨z12, ih⟩ := loop_i_RestingPlaces_1 (y0 := y0) (y2 := y2) (y3 := y3) (y4 := y4) (y6 := y6) (y7 := y7) (y8 := y8) (y9 := y9) (y13 := y13) (y14 := y14) (y15 := y15) (y16 := y16) (y17 := y17) (y18 := y18) (y19 := y19) hu hn hd k (i + 1) (v * (d + 1)) (.bool true) (by omega) hv
    refine ⟨z12, ?_⟩
    rw [run_loop]
    generalize run T pr (.loop w_i_RestingPlaces_1) = R' at ih ⊢
    have hw : IntKind.i64.wrap ((v : Int) * ((d + 1 : Nat) : Int)) = ((v * (d + 1) : Nat) : Int) := by rw [← Int.natCast_mul]; exact wrapN (by omega)
    simp +contextual only [w_i_RestingPlaces_1, hu, hi, wrap_succ (show d < 9223372036854775807 by omega), wrap_succ (show i < 9223372036854775807 by omega), hw, decide_true, go_sem, entry, joinEsc, if_pos, reduceIte, Nat.reduceAdd, Nat.reduceLeDiff, Nat.reduceLT, Nat.reduceEqDiff]
    exact ih

theorem loop_i_RestingPlaces_2 {L : List Blk} {u sb n d : Nat} {a a2 s : Int} {p : Option (Nat × Nat)} {sz : Nat} {c : Option Nat} {y0 y2 y3 y4 y5 y9 y10 y11 y12 y13 y14 y15 y19 : AV} (hb : sb < L.length) (hu : cellsAt L u = some [.int .i64 (d : Int), .int .i64 a, .int .i64 a2, .slice p sz n c, .int .i64 s]) (hne : sb ≠ u) (hn : n ≤ 3) (hd : d ≤ 12) :
    ∀ (j : Nat) (P R : List Int) (k : Nat) (y8 y18 : AV), P.length + j = n → P.length + R.length = 3 → k ≤ 2197 → ∃ z6 z8 z18, run T pr (.loop w_i_RestingPlaces_2) ⟨[y0, .ptr (some (u, 0)), y2, y3, y4, y5, .int .i64 k, .ptr (some (sb, 0)), y8, y9, y10, y11, y12, y13, y14, y15, .int .i64 n, .int .i64 P.length, y18, y19], ⟨L.set sb (.cells (encI (P ++ R)) true), e⟩⟩ =
      some (Ex.exit 4, ⟨[y0, .ptr (some (u, 0)), y2, y3, y4, y5, z6, .ptr (some (sb, 0)), z8, y9, y10, y11, y12, y13, y14, y15, .int .i64 n, .int .i64 n, z18, y19], ⟨L.set sb (.cells (encI (P ++ (ints (digs (d + 1) j k) ++ R.drop j))) true), e⟩⟩)
  | 0, P, R, k, y8, y18, hj, hR, hk => by
    refine ⟨.int .i64 k, y8, .bool false, ?_⟩
    obtain rfl : n = P.length := by omega
    rw [run_loop]
    generalize run T pr (.loop w_i_RestingPlaces_2) = R'
    simp +contextual only [w_i_RestingPlaces_2, Nat.lt_irrefl, decide_false, digs, ints, List.map_nil, List.nil_append, List.drop_zero, go_sem, entry, joinEsc, if_pos, reduceIte, Nat.reduceAdd, Nat.reduceLeDiff, Nat.reduceLT, Nat.reduceEqDiff]
  | j + 1, P, [], k, y8, y18, hj, hR, hk => by simp at hR; omega
  | j + 1, P, r :: R, k, y8, y18, hj, hR, hk => by
    simp only [List.length_cons] at hR
    obtain ⟨z6, z8, z18, ih⟩ := loop_i_RestingPlaces_2 (y0 := y0) (y2 := y2) (y3 := y3) (y4 := y4) (y5 := y5) (y9 := y9) (y10 := y10) (y11 := y11) (y12 := y12) (y13 := y13) (y14 := y14) (y15 := y15) (y19 := y19) hb hu hne hn hd j (P ++ [((k % (d + 1) : Nat) : Int)]) R (k / (d + 1)) (.int .i64 P.length) (.bool true) (by simp; omega) (by simp; omega) (Nat.le_trans (Nat.div_le_self _ _) hk)
    refine ⟨z6, z8, z18, ?_⟩
    rw [run_loop]
    generalize run T pr (.loop w_i_RestingPlaces_2) = R' at ih ⊢
    have hi : P.length < n := by omega
    have hi3 : P.length < 3 := by omega
    have hg : (L.set sb (.cells (encI (P ++ r :: R)) true))[sb]? = some (.cells (encI (P ++ r :: R)) true) := List.getElem?_set_self hb
    have hle : P.length + 1 ≤ (encI (P ++ r :: R)).length := by simp [encI]
    have hu' := fun y => cellsAt_set_ne (x := y) hu hne
    have hz : ¬ ((d + 1 : Nat) : Int) = 0 := by omega
    have hw2 : IntKind.i64.wrap (((k / (d + 1) : Nat) : Int)) = ((k / (d + 1) : Nat) : Int) := wrapN (by have := Nat.div_le_self k (d + 1); omega)
    simp only [List.length_append, List.length_cons, List.length_nil, Nat.zero_add, List.append_assoc, List.singleton_append] at ih
    rw [show P ++ (ints (digs (d + 1) (j + 1) k) ++ (r :: R).drop (j + 1)) = P ++ ((k % (d + 1) : Nat) : Int) :: (ints (digs (d + 1) j (k / (d + 1))) ++ R.drop j) by simp [digs, ints]]
    simp +contextual only [w_i_RestingPlaces_2, hi, hi3, hg, hle, hu', hz, tmodN, tdivN, setRange_mid, List.append_assoc, List.singleton_append, List.set_set, hw2, wrap_succ (show d < 9223372036854775807 by omega), wrap_succ (show P.length < 9223372036854775807 by omega), decide_true, decide_false, go_sem, entry, joinEsc, if_pos, reduceIte, Nat.reduceAdd, Nat.reduceLeDiff, Nat.reduceLT, Nat.reduceEqDiff]
    exact ih

theorem set_end (G : List Blk) (x y : Blk) : (H ++ (G ++ [x])).set (H.length + G.length) y = H ++ (G ++ [y]) := by
  rw [set_newk]
  simp [List.set_append_right]

theorem three {l : List Int} (h : l.length = 3) : ∃ s0 s1 s2, l = [s0, s1, s2] := by
  match l, h with
  | [s0, s1, s2], _ => exact ⟨s0, s1, s2, rfl⟩

theorem loop_i_RestingPlaces_3 {q u d : Nat} {c : Option Nat} {ls : List Ld} {a b s : Int} {y0 y2 y3 y5 y9 y10 y11 y12 : AV} (h : cellsAt H q = some (encL ls)) (hn : ls.length ≤ 3) (hd : d ≤ 12) (hu : cellsAt H u = some [.int .i64 (d : Int), .int .i64 a, .int .i64 b, slL q ls.length c, .int .i64 s]) :
    ∀ (k i : Nat) (G : List Blk) (y6 y7 y8 y15 y16 y17 y18 y19 : AV), k + i = (d + 1) ^ ls.length → ∃ (G' : List Blk) (z6 z7 z8 z15 z16 z17 z18 z19 : AV), run T pr (.loop w_i_RestingPlaces_3) ⟨[y0, .ptr (some (u, 0)), y2, y3, .int .i64 (sumN i fun k => (restD ls a b (digs (d + 1) ls.length k)).toNat : Nat), y5, y6, y7, y8, y9, y10, y11, y12, .int .i64 ((d + 1) ^ ls.length : Nat), .int .i64 i, y15, y16, y17, y18, y19], ⟨H ++ G, e⟩⟩ =
      some (Ex.exit 2, ⟨[y0, .ptr (some (u, 0)), y2, y3, .int .i64 (restN ls a b d : Nat), y5, z6, z7, z8, y9, y10, y11, y12, .int .i64 ((d + 1) ^ ls.length : Nat), .int .i64 ((d + 1) ^ ls.length : Nat), z15, z16, z17, z18, z19], ⟨H ++ G', e⟩⟩)
  | 0, i, G, y6, y7, y8, y15, y16, y17, y18, y19, hk => by
    obtain rfl : i = (d + 1) ^ ls.length := by omega
    refine ⟨G, y6, y7, y8, .bool false, y16, y17, y18, y19, ?_⟩
    rw [run_loop]
    generalize run T pr (.loop w_i_RestingPlaces_3) = R
    simp +contextual only [w_i_RestingPlaces_3, restN, Nat.lt_irrefl, decide_false, go_sem, entry, joinEsc, if_pos, reduceIte, Nat.reduceAdd, Nat.reduceLeDiff, Nat.reduceLT, Nat.reduceEqDiff]
  | k + 1, i, G, y6, y7, y8, y15, y16, y17, y18, y19, hk => by
    have hp := pow_le hn hd
    have hi : i < (d + 1) ^ ls.length := by omega
    have hlen : (ints (digs (d + 1) ls.length i)).length = ls.length := by rw [ints, List.length_map, digs_length]
    obtain ⟨s0, s1, s2, h3⟩ := three (l := ints (digs (d + 1) ls.length i) ++ [0, 0, 0].drop ls.length) (by rw [List.length_append, hlen, List.length_drop]; simp; omega)
    have hput : putL ls [s0, s1, s2] = putL ls (ints (digs (d + 1) ls.length i)) := by rw [← h3, putL_more _ _ _ hlen.symm]
    have hr : restD ls a b (digs (d + 1) ls.length i) = decide (sideW (putL ls [s0, s1, s2]) a b = 0) := by rw [hput]; rfl
    have ub : u < H.length := cellsAt_lt hu
    obtain ⟨w6, w8, w18, hl⟩ := loop_i_RestingPlaces_2 (pr := pr) (e := e) (L := H ++ (G ++ [.cells (encI [0, 0, 0]) true])) (u := u) (sb := H.length + G.length) (y0 := y0) (y2 := y2) (y3 := y3) (y4 := .int .i64 (sumN i fun k => (restD ls a b (digs (d + 1) ls.length k)).toNat : Nat)) (y5 := y5) (y9 := y9) (y10 := y10) (y11 := y11) (y12 := y12) (y13 := .int .i64 ((d + 1) ^ ls.length : Nat)) (y14 := .int .i64 i) (y15 := .bool true) (y19 := y19) (by simp) (cells_mono hu _) (by omega) hn hd ls.length [] [0, 0, 0] i y8 y18 (by simp) rfl (by omega)
    have h0 : ((0 : Nat) : Int) = 0 := rfl
    simp only [set_end, List.nil_append, List.length_nil, h0, h3, encI, List.map_cons, List.map_nil] at hl
    have hrest := fun G' => e_i_Party_rests (pr := pr) (e := e) (c := c) (cells_mono h G') hn d a b s s0 s1 s2
    rw [← hr] at hrest
    have hsum := sumN_le (f := fun k => (restD ls a b (digs (d + 1) ls.length k)).toNat) (fun i => toNat_le _) i
    obtain ⟨G', z6, z7, z8, z15, z16, z17, z18, z19, ih⟩ := loop_i_RestingPlaces_3 (c := c) (y0 := y0) (y2 := y2) (y3 := y3) (y5 := y5) (y9 := y9) (y10 := y10) (y11 := y11) (y12 := y12) h hn hd hu k (i + 1) (G ++ [.cells [.int .i64 s0, .int .i64 s1, .int .i64 s2] true]) w6 (.ptr (some (H.length + G.length, 0))) w8 (.bool true) (.int .i64 ls.length) (.int .i64 ls.length) w18 (.bool (restD ls a b (digs (d + 1) ls.length i))) (by omega)
    refine ⟨G', z6, z7, z8, z15, z16, z17, z18, z19, ?_⟩
    rw [run_loop]
    rw [sumN] at ih
    generalize sumN i (fun k => (restD ls a b (digs (d + 1) ls.length k)).toNat) = many at ih hl hsum ⊢
    generalize run T pr (.loop w_i_RestingPlaces_3) = R at ih ⊢
    cases h4 : restD ls a b (digs (d + 1) ls.length i) <;> rw [h4] at ih hrest <;>
      simp +contextual only [w_i_RestingPlaces_3, fillParts, cells_mono hu, hi, hl, hrest, cells_end, wrap_succ (show i < 9223372036854775807 by omega), wrap_succ (show many < 9223372036854775807 by omega), decide_true, go_sem, entry, joinEsc, if_pos, reduceIte, Nat.reduceAdd, Nat.reduceLeDiff, Nat.reduceLT, Nat.reduceEqDiff] <;> exact ih

theorem restN_rev (ls : List Ld) (a b : Int) (d : Nat) : (sumN ((d + 1) ^ ls.length) fun k => (restD ls a b (digs (d + 1) ls.length k).reverse).toNat) = restN ls a b d :=
  (digs_rev ls.length (fun l => (restD ls a b l).toNat)).symm

theorem party_bounds {x a b s : Int} {ls : List Ld} (h : partyOk x a b ls s = true) : ls.length ≤ 3 ∧ 1 ≤ x ∧ x ≤ 12 := by
  unfold partyOk onOk beamOk at h
  simp at h
  omega

theorem e_s_RestingPlaces {q : Nat} {c : Option Nat} {ls : List Ld} (h : cellsAt H q = some (encL ls)) (hn : ls.length ≤ 9223372036854775806) (x a b s : Int) : call T pr f_s_RestingPlaces [ptV x a b (slL q ls.length c) s] ⟨H, e⟩ =
    some (.tup [.int .i64 (if partyOk x a b ls s then ((restN ls a b x.toNat : Nat) : Int) else 0), .bool (partyOk x a b ls s)], ⟨H, e⟩) := by
  rw [call_eq t_s_RestingPlaces]
  cases h1 : partyOk x a b ls s with
  | false => simp +contextual only [a_s_RestingPlaces, c_s_RestingPlaces, e_s_l11Party (cells_mono h _) hn, h1, Bool.false_eq_true, if_false, go_sem, entry, joinEsc, if_pos, reduceIte, Nat.reduceAdd, Nat.reduceLeDiff, Nat.reduceLT, Nat.reduceEqDiff]
  | true =>
    obtain ⟨h2, h3, h4⟩ := party_bounds h1
    obtain ⟨d, rfl⟩ : ∃ d : Nat, x = d := ⟨x.toNat, by omega⟩
    rw [Int.toNat_natCast]
    have hu : cellsAt (H ++ [Blk.cells [.int .i64 (d : Int), .int .i64 a, .int .i64 b, slL q ls.length c, .int .i64 s] true]) H.length = some [.int .i64 (d : Int), .int .i64 a, .int .i64 b, slL q ls.length c, .int .i64 s] := by rw [cellsAt_new0]; rfl
    obtain ⟨G', z7, z8, hl⟩ := loop_s_RestingPlaces (pr := pr) (e := none) (c := c) (y0 := ptV d a b (slL q ls.length c) s) (y2 := .int .i64 0) (y3 := .bool false) (y6 := .bool false) (cells_mono h _) h2 (by omega) hu ((d + 1) ^ ls.length) 0 [] .undef .undef rfl
    have h0 : ((0 : Nat) : Int) = 0 := rfl
    rw [restN_rev, List.append_nil] at hl
    simp only [sumN, h0] at hl
    simp +contextual only [a_s_RestingPlaces, c_s_RestingPlaces, e_s_l11Party (cells_mono h _) hn, h1, hl, if_true, go_sem, entry, joinEsc, if_pos, reduceIte, Nat.reduceAdd, Nat.reduceLeDiff, Nat.reduceLT, Nat.reduceEqDiff]

theorem e_i_RestingPlaces {q : Nat} {c : Option Nat} {ls : List Ld} (h : cellsAt H q = some (encL ls)) (hn : ls.length ≤ 9223372036854775806) (x a b s : Int) : call T pr f_i_RestingPlaces [ptV x a b (slL q ls.length c) s] ⟨H, e⟩ =
    some (.tup [.int .i64 (if partyOk x a b ls s then ((restN ls a b x.toNat : Nat) : Int) else 0), .bool (partyOk x a b ls s)], ⟨H, e⟩) := by
  rw [call_eq t_i_RestingPlaces]
  cases h1 : partyOk x a b ls s with
  | false => simp +contextual only [a_i_RestingPlaces, c_i_RestingPlaces, e_i_IsParty (cells_mono h _) hn, h1, Bool.false_eq_true, if_false, go_sem, entry, joinEsc, if_pos, reduceIte, Nat.reduceAdd, Nat.reduceLeDiff, Nat.reduceLT, Nat.reduceEqDiff]
  | true =>
    obtain ⟨h2, h3, h4⟩ := party_bounds h1
    obtain ⟨d, rfl⟩ : ∃ d : Nat, x = d := ⟨x.toNat, by omega⟩
    rw [Int.toNat_natCast]
    have hu : cellsAt (H ++ [Blk.cells [.int .i64 (d : Int), .int .i64 a, .int .i64 b, slL q ls.length c, .int .i64 s] true]) H.length = some [.int .i64 (d : Int), .int .i64 a, .int .i64 b, slL q ls.length c, .int .i64 s] := by rw [cellsAt_new0]; rfl
    have hp := pow_le h2 (show d ≤ 12 by omega)
    obtain ⟨z12, hl1⟩ := loop_i_RestingPlaces_1 (pr := pr) (e := none) (y0 := ptV d a b (slL q ls.length c) s) (y2 := .int .i64 0) (y3 := .bool false) (y4 := .int .i64 0) (y6 := .undef) (y7 := .undef) (y8 := .undef) (y9 := .bool false) (y13 := .undef) (y14 := .undef) (y15 := .undef) (y16 := .undef) (y17 := .undef) (y18 := .undef) (y19 := .undef) hu h2 (by omega) ls.length 0 1 .undef rfl (by omega)
    obtain ⟨G', z6, z7, z8, z15, z16, z17, z18, z19, hl⟩ := loop_i_RestingPlaces_3 (pr := pr) (e := none) (c := c) (y0 := ptV d a b (slL q ls.length c) s) (y2 := .int .i64 0) (y3 := .bool false) (y5 := .int .i64 ((d + 1) ^ ls.length : Nat)) (y9 := .bool false) (y10 := .int .i64 ls.length) (y11 := .int .i64 ls.length) (y12 := z12) (cells_mono h _) h2 (by omega) hu ((d + 1) ^ ls.length) 0 [] .undef .undef .undef .undef .undef .undef .undef .undef rfl
    have h0 : ((0 : Nat) : Int) = 0 := rfl
    have h01 : ((1 : Nat) : Int) = 1 := rfl
    rw [List.append_nil] at hl
    rw [h0, h01, Nat.one_mul] at hl1
    simp only [sumN, h0] at hl
    simp +contextual only [a_i_RestingPlaces, c_i_RestingPlaces, e_i_IsParty (cells_mono h _) hn, h1, hl1, hl, if_true, go_sem, entry, joinEsc, if_pos, reduceIte, Nat.reduceAdd, Nat.reduceLeDiff, Nat.reduceLT, Nat.reduceEqDiff]

theorem law_RestingPlaces {people : AV} {ls : List Ld} (ha : ArgL H people ls) (x a b s : Int) : ∃ m', call T pr f_l_FnExactRestingPlaces [ptV x a b people s] ⟨H, none⟩ = some (.bool true, m') := by
  refine ⟨⟨H, none⟩, ?_⟩
  have hsz : ∀ G e', call T pr f_l_szParty [ptV x a b people s, .int .i64 1048576] ⟨G, e'⟩ = some (.int .i64 (if ls.length ≤ 1048576 then 1048576 - (ls.length : Int) else -1), ⟨G, e'⟩) := by
    obtain ⟨p, sz, c, rfl, h2, h3⟩ := ha
    exact fun G e' => e_l_szParty h2 x a b s
  rw [call_eq t_l_FnExactRestingPlaces]
  by_cases hn : ls.length ≤ 1048576
  · have hneg : ¬ (1048576 - (ls.length : Int) < 0) := by omega
    have hto := fun G => e_l_toParty (pr := pr) (e := none) (ha.more G) hn x a b s
    have hn1 : ls.length ≤ 9223372036854775806 := by omega
    have hsi := fun L q c h1 => e_s_RestingPlaces (pr := pr) (H := L) (e := none) (q := q) (c := c) (ls := ls) h1 hn1 x a b s
    have hii := fun L q c h1 => e_i_RestingPlaces (pr := pr) (H := L) (e := none) (q := q) (c := c) (ls := ls) h1 hn1 x a b s
    have heq : ∀ L q1 q2 k1 k2, cellsAt L q1 = some (encL ls) → cellsAt L q2 = some (encL ls) → call T pr f_l_eqParty [ptV x a b (slL q1 ls.length k1) s, ptV x a b (slL q2 ls.length k2) s] ⟨L, none⟩ = some (.bool true, ⟨L, none⟩) :=
      fun L q1 q2 k1 k2 h1 h2 => e_l_eqParty (fun G => e_l_eqLoadS (cells_mono h1 G) (cells_mono h2 G) hn1) x a b s
    simp +contextual only [a_l_FnExactRestingPlaces, c_l_FnExactRestingPlaces, hsz, hn, hneg, hto, hsi, hii, heq, under_slice, under_sliceN, Nat.add_assoc, Nat.add_lt_add_iff_left, Nat.lt_add_right_iff_pos, decide_true, decide_false, beq_self_eq_true, go_sem, entry, joinEsc, if_pos, reduceIte, Nat.reduceAdd, Nat.reduceLeDiff, Nat.reduceLT, Nat.reduceEqDiff]
  · simp +contextual only [a_l_FnExactRestingPlaces, c_l_FnExactRestingPlaces, hsz, hn, decide_true, show ((-1 : Int) < 0) by omega, go_sem, entry, joinEsc, if_pos, reduceIte, Nat.reduceAdd, Nat.reduceLeDiff, Nat.reduceLT, Nat.reduceEqDiff]

end Go.Proofs.Ythkgpblohjpcdaa.Slim
