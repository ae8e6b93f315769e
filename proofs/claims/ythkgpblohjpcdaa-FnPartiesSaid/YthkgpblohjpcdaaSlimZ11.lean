/- The slim functions are the program's. -/
import Derived.Test.YthkgpblohjpcdaaSlimZ10
import Derived.Test.YthkgpblohjpcdaaChecked
/- The slim functions are the program's. -/
namespace Go.Proofs.Ythkgpblohjpcdaa.Slim
open Go
theorem ok_gosem_cut_init : compileFn Try.prog [] 1 [] Try.f2 = some a_gosem_cut_init := by kernel_rfl
theorem ok_l_FnExactIsParty : compileFn Try.prog [0, 1, 2, 3, 4, 5, 6, 11, 21, 26] 1 [(10, [0, 1, 2, 3, 4])] Try.f3 = some a_l_FnExactIsParty := by kernel_rfl
theorem ok_l_FnExactRestingPlaces : compileFn Try.prog [0, 1, 2, 3, 4, 5, 6, 7, 8, 13, 34, 39] 1 [(10, [0, 1, 2, 3, 4])] Try.f4 = some a_l_FnExactRestingPlaces := by kernel_rfl
theorem ok_l_FnExactSafeMoves : compileFn Try.prog [0, 1, 2, 3, 4, 5, 6, 7, 8, 9, 10, 11, 12, 13, 18, 40, 45, 61, 69, 72, 87, 92, 95] 1 [(10, [0, 1, 2, 3, 4])] Try.f5 = some a_l_FnExactSafeMoves := by kernel_rfl
theorem ok_l_FnExactMoveOne : compileFn Try.prog [0, 1, 2, 3, 4, 5, 6, 7, 8, 9, 10, 11, 12, 13, 14, 15, 20, 46, 51, 67, 75, 78, 95, 100, 103] 1 [(5, [0, 2, 1, 3, 4, 5, 6, 7, 8, 9, 10]), (7, [0, 1, 2, 3, 4, 5, 6, 7, 8, 9]), (10, [0, 1, 2, 3, 4]), (24, [0, 2, 1, 3, 4, 5, 6, 7, 8, 9, 10])] Try.f6 = some a_l_FnExactMoveOne := by kernel_rfl
theorem ok_l_FnExactCountPlaces : compileFn Try.prog [0, 1, 2, 3, 4, 5, 6, 7, 8, 13, 34, 39] 1 [(10, [0, 1, 2, 3, 4])] Try.f7 = some a_l_FnExactCountPlaces := by kernel_rfl
theorem ok_l_FnExactIsWalkOn : compileFn Try.prog [0, 1, 2, 4, 5, 6, 7, 8, 9, 10, 11, 16, 21, 47, 52, 57] 1 [(14, [0, 1, 2, 3, 4])] Try.f8 = some a_l_FnExactIsWalkOn := by kernel_rfl
theorem ok_l_FnExactFarthestOut : compileFn Try.prog [0, 1, 2, 4, 5, 6, 7, 8, 9, 10, 11, 12, 17, 47, 52] 1 [(10, [0, 1, 2, 3, 4])] Try.f9 = some a_l_FnExactFarthestOut := by kernel_rfl
theorem ok_l_FnExactMeetSteps : compileFn Try.prog [0, 1, 2, 3, 4, 5, 6, 7, 8, 9, 10, 15, 43, 48] 1 [(10, [0, 1, 2, 3, 4])] Try.f10 = some a_l_FnExactMeetSteps := by kernel_rfl
theorem ok_l_FnExactWalkTo : compileFn Try.prog [0, 1, 2, 4, 5, 6, 7, 8, 9, 10, 11, 12, 13, 14, 15, 16, 21, 26, 53, 58, 63, 82, 90, 93, 110, 115, 118] 1 [(14, [0, 1, 2, 3, 4])] Try.f11 = some a_l_FnExactWalkTo := by kernel_rfl
theorem ok_l_FnExactStepsTo : compileFn Try.prog [0, 1, 2, 4, 5, 6, 7, 8, 9, 10, 11, 14, 19, 45, 50, 55] 1 [(13, [0, 1, 2, 3, 4])] Try.f12 = some a_l_FnExactStepsTo := by kernel_rfl
theorem ok_l_FnExactFirstWalkTo : compileFn Try.prog [0, 1, 2, 4, 5, 6, 7, 8, 9, 10, 11, 12, 13, 14, 15, 16, 19, 24, 51, 56, 61, 80, 88, 91, 108, 113, 116] 1 [(13, [0, 1, 2, 3, 4])] Try.f13 = some a_l_FnExactFirstWalkTo := by kernel_rfl
theorem ok_l_FnPlanks : compileFn Try.prog [0, 2, 3, 4, 5, 6, 7, 8, 9, 10, 11, 12, 13, 14, 15, 16, 17, 18, 19, 20, 21, 22, 23, 24, 25, 26, 27, 28, 29, 30, 32, 58, 81, 113, 145, 146, 178, 179, 185, 204] 1 [] Try.f14 = some a_l_FnPlanks := by kernel_rfl
theorem ok_l_FnParties : compileFn Try.prog [0, 2, 3, 4, 5, 6, 7, 8, 9, 10, 11, 12, 13, 14, 15, 16, 17, 18, 19, 20, 21, 22, 23, 24, 25, 26, 27, 28, 29, 30, 31, 32, 33, 34, 35, 36, 37, 38, 39, 40, 41, 42, 43, 44, 46, 72, 99, 125, 150, 176, 204, 205, 209, 223, 224, 247, 253, 257, 270, 299, 301, 323, 328, 341] 1 [(35, [0, 1, 2, 3, 4, 5, 6, 7, 8, 9]), (39, [0, 1, 2, 3, 4, 5, 6, 7, 8, 9, 10, 11, 12, 13, 14, 15, 16, 17]), (47, [0, 1, 2, 3, 4, 5, 6, 7, 8, 9, 10]), (48, [0, 1, 2, 3, 4, 5, 6, 7, 8, 9, 10, 11, 12, 13]), (49, [0, 1, 2, 3, 4, 5, 6, 7, 8, 9, 10, 11, 12, 13]), (61, [0, 1, 2, 3, 4, 5, 6, 7, 8, 9, 10])] Try.f15 = some a_l_FnParties := by kernel_rfl
theorem ok_l_szParty : compileFn Try.prog [0, 1, 2, 4, 10] 1 [] Try.f16 = some a_l_szParty := by kernel_rfl
theorem ok_s_IsParty : compileFn Try.prog [0, 1, 2] 1 [] Try.f17 = some a_s_IsParty := by kernel_rfl
theorem ok_l_toParty : compileFn Try.prog [0, 1, 2, 3] 2 [] Try.f18 = some a_l_toParty := by kernel_rfl
theorem ok_i_IsParty : compileFn Try.prog [0, 1, 2] 1 [] Try.f19 = some a_i_IsParty := by kernel_rfl
theorem ok_l_eqParty : compileFn Try.prog [0, 1, 2, 3, 4, 10, 16, 21] 1 [] Try.f20 = some a_l_eqParty := by kernel_rfl
theorem ok_s_RestingPlaces : compileFn Try.prog [0, 1, 2, 3, 4, 5, 8, 12, 18] 1 [] Try.f21 = some a_s_RestingPlaces := by kernel_rfl
theorem ok_i_RestingPlaces : compileFn Try.prog [0, 1, 2, 3, 4, 5, 6, 7, 8, 11, 14, 15, 16, 24, 25, 26, 31, 32, 33, 52] 1 [] Try.f22 = some a_i_RestingPlaces := by kernel_rfl
theorem ok_s_SafeMoves : compileFn Try.prog [0, 1, 2, 3, 6] 2 [] Try.f23 = some a_s_SafeMoves := by kernel_rfl
theorem ok_i_SafeMoves : compileFn Try.prog [0, 1, 2, 3, 6] 2 [(3, [0, 1, 2, 3, 4, 5])] Try.f24 = some a_i_SafeMoves := by kernel_rfl
theorem ok_l_eqIntA2S : compileFn Try.prog [0, 1, 4, 5, 10, 14, 26] 1 [(6, [0, 1, 2, 3, 4, 5, 6, 7, 8, 9])] Try.f25 = some a_l_eqIntA2S := by kernel_rfl
theorem ok_l_markParty : compileFn Try.prog [0, 1, 2, 4] 1 [] Try.f26 = some a_l_markParty := by kernel_rfl
theorem ok_l_markIntA2S : compileFn Try.prog [0, 1, 4, 5, 6, 10, 14] 1 [] Try.f27 = some a_l_markIntA2S := by kernel_rfl
theorem ok_l_heldIntA2S : compileFn Try.prog [0, 1, 4, 5, 6, 10, 14, 24] 1 [] Try.f28 = some a_l_heldIntA2S := by kernel_rfl
theorem ok_s_MoveOne : compileFn Try.prog [0, 1, 2, 3, 4, 5, 14] 2 [] Try.f29 = some a_s_MoveOne := by kernel_rfl
theorem ok_l_toIntA2 : compileFn Try.prog [0, 1, 2, 3, 4, 6] 1 [] Try.f30 = some a_l_toIntA2 := by kernel_rfl
theorem ok_i_MoveOne : compileFn Try.prog [0, 1, 2, 3, 4, 5] 2 [] Try.f31 = some a_i_MoveOne := by kernel_rfl
theorem ok_l_heldParty : compileFn Try.prog [0, 1, 2, 4, 10] 1 [] Try.f32 = some a_l_heldParty := by kernel_rfl
theorem ok_s_CountPlaces : compileFn Try.prog [0, 1, 2, 3, 4, 5, 6, 9, 15, 22] 1 [] Try.f33 = some a_s_CountPlaces := by kernel_rfl
theorem ok_i_CountPlaces : compileFn Try.prog [0, 1, 2, 3, 6] 1 [(3, [0, 1, 2, 3, 4, 5, 6])] Try.f34 = some a_i_CountPlaces := by kernel_rfl
theorem ok_l_szIntA2S : compileFn Try.prog [0, 1, 4, 10] 1 [] Try.f35 = some a_l_szIntA2S := by kernel_rfl
theorem ok_s_IsWalkOn : compileFn Try.prog [0, 1, 2, 4, 5, 7, 10] 1 [] Try.f36 = some a_s_IsWalkOn := by kernel_rfl
theorem ok_l_toIntA2S : compileFn Try.prog [0, 2, 3, 4, 11] 2 [] Try.f37 = some a_l_toIntA2S := by kernel_rfl
theorem ok_i_IsWalkOn : compileFn Try.prog [0, 1, 2, 4, 5, 7, 10, 13] 1 [] Try.f38 = some a_i_IsWalkOn := by kernel_rfl
theorem ok_s_FarthestOut : compileFn Try.prog [0, 1, 2, 4, 5, 6, 7, 8, 9, 10, 22, 31, 38] 1 [(3, [0, 1, 2, 3, 4, 5, 6, 7])] Try.f39 = some a_s_FarthestOut := by kernel_rfl
theorem ok_i_FarthestOut : compileFn Try.prog [0, 1, 2, 4, 5, 6, 7, 8, 9, 21, 38, 40] 1 [(3, [0, 1, 2, 3, 4, 5, 6, 7, 8, 9, 10, 11, 12, 13]), (4, [0, 1, 2, 3, 4]), (7, [0, 1, 2, 3, 4, 5, 6, 7, 8, 9, 10, 11])] Try.f40 = some a_i_FarthestOut := by kernel_rfl
theorem ok_s_MeetSteps : compileFn Try.prog [0, 1, 2, 3, 4, 5, 6, 7, 8, 9, 10, 11, 14, 21, 30, 54] 1 [] Try.f41 = some a_s_MeetSteps := by kernel_rfl
theorem ok_i_MeetSteps : compileFn Try.prog [0, 1, 2, 3, 4, 5, 6, 7, 8, 9, 10, 11, 12, 15, 23, 24, 25, 30, 31, 32, 53, 58] 1 [(3, [0, 1, 2, 3, 4])] Try.f42 = some a_i_MeetSteps := by kernel_rfl
theorem ok_s_WalkTo : compileFn Try.prog [0, 1, 2, 4, 5, 8] 2 [] Try.f43 = some a_s_WalkTo := by kernel_rfl
theorem ok_i_WalkTo : compileFn Try.prog [0, 1, 2, 4, 5, 6, 7, 15, 24] 2 [] Try.f44 = some a_i_WalkTo := by kernel_rfl
theorem ok_s_StepsTo : compileFn Try.prog [0, 1, 2, 4, 5, 6, 7, 8, 11, 19] 1 [(6, [0, 2, 1, 3, 4, 5, 6])] Try.f45 = some a_s_StepsTo := by kernel_rfl
theorem ok_l_toIntS : compileFn Try.prog [0, 2, 3, 4, 11] 2 [] Try.f46 = some a_l_toIntS := by kernel_rfl
theorem ok_i_StepsTo : compileFn Try.prog [0, 1, 2, 4, 5, 6, 7, 8, 9, 17] 1 [(4, [0, 1, 4, 2, 3, 5, 6, 7, 8, 9, 10])] Try.f47 = some a_i_StepsTo := by kernel_rfl
theorem ok_l_eqIntS : compileFn Try.prog [0, 1, 4, 5, 10, 14, 25] 1 [(6, [0, 1, 2, 3, 4, 5, 6, 7, 8])] Try.f48 = some a_l_eqIntS := by kernel_rfl
theorem ok_s_FirstWalkTo : compileFn Try.prog [0, 1, 2, 4, 5, 6, 7, 8, 9, 11, 12, 13, 14, 27, 41, 60] 2 [(6, [0, 2, 1, 3, 4, 5]), (9, [0, 1, 2, 3, 4, 5, 10, 11, 6, 7, 8, 9, 12, 13, 14, 15, 16]), (12, [0, 1, 2, 3, 4, 5, 6])] Try.f49 = some a_s_FirstWalkTo := by kernel_rfl
theorem ok_i_FirstWalkTo : compileFn Try.prog [0, 1, 2, 4, 5, 6, 7, 8, 9, 10, 11, 12, 14, 15, 29, 46, 49, 54, 55, 56, 57, 71] 2 [(4, [0, 1, 3, 2, 4, 5, 6, 7]), (17, [0, 1, 4, 2, 3, 5, 6])] Try.f50 = some a_i_FirstWalkTo := by kernel_rfl
theorem ok_l_markIntS : compileFn Try.prog [0, 1, 4, 5, 9] 1 [] Try.f51 = some a_l_markIntS := by kernel_rfl
theorem ok_l_rBig : compileFn Try.prog [0, 2] 1 [] Try.f52 = some a_l_rBig := by kernel_rfl
theorem ok_s_DrawCountPlaces : compileFn Try.prog [0, 2] 2 [] Try.f53 = some a_s_DrawCountPlaces := by kernel_rfl
theorem ok_s_DrawFarthestOut : compileFn Try.prog [0, 2, 3, 4, 5] 2 [(3, [0, 1, 2, 3, 4, 5, 7, 6, 8, 9, 10, 11, 12])] Try.f54 = some a_s_DrawFarthestOut := by kernel_rfl
theorem ok_s_DrawFirstWalkTo : compileFn Try.prog [0, 2, 3] 2 [] Try.f55 = some a_s_DrawFirstWalkTo := by kernel_rfl
theorem ok_l_rCells : compileFn Try.prog [0, 1, 4, 5, 10, 14, 25] 1 [(6, [0, 1, 2, 3, 4, 5, 6, 7, 8])] Try.f56 = some a_l_rCells := by kernel_rfl
theorem ok_s_DrawMoveOne : compileFn Try.prog [0, 2, 3, 4, 5] 2 [(3, [0, 1, 2, 3, 4, 5])] Try.f57 = some a_s_DrawMoveOne := by kernel_rfl
theorem ok_l_rParty : compileFn Try.prog [0, 1, 2, 3, 4] 1 [] Try.f58 = some a_l_rParty := by kernel_rfl
theorem ok_s_DrawWalkTo : compileFn Try.prog [0, 2, 3] 2 [] Try.f59 = some a_s_DrawWalkTo := by kernel_rfl
theorem ok_l_szLoadS : compileFn Try.prog [0, 1, 4, 10] 1 [] Try.f60 = some a_l_szLoadS := by kernel_rfl
theorem ok_s_l11Party : compileFn Try.prog [0, 1, 2] 1 [] Try.f61 = some a_s_l11Party := by kernel_rfl
theorem ok_l_toBeam : compileFn Try.prog [0, 1, 2, 3] 1 [] Try.f62 = some a_l_toBeam := by kernel_rfl
theorem ok_l_toLoadS : compileFn Try.prog [0, 2, 3, 4, 11] 2 [] Try.f63 = some a_l_toLoadS := by kernel_rfl
theorem ok_i_isOn : compileFn Try.prog [0, 1, 2, 4] 1 [] Try.f64 = some a_i_isOn := by kernel_rfl
theorem ok_i_within : compileFn Try.prog [0, 1, 2, 6] 1 [] Try.f65 = some a_i_within := by kernel_rfl
theorem ok_i_Beam_rests : compileFn Try.prog [0, 1, 2, 4] 1 [] Try.f66 = some a_i_Beam_rests := by kernel_rfl
theorem ok_l_eqBeam : compileFn Try.prog [0, 1, 2, 3, 4, 9, 14, 19] 1 [] Try.f67 = some a_l_eqBeam := by kernel_rfl
theorem ok_l_eqLoadS : compileFn Try.prog [0, 1, 4, 5, 10, 14, 26] 1 [(6, [0, 1, 2, 3, 4, 5, 6, 7, 8, 9])] Try.f68 = some a_l_eqLoadS := by kernel_rfl
theorem ok_s_l11Size : compileFn Try.prog [0, 1, 2, 3, 4, 9] 1 [] Try.f69 = some a_s_l11Size := by kernel_rfl
theorem ok_s_l11Rests : compileFn Try.prog [0, 1, 2] 1 [] Try.f70 = some a_s_l11Rests := by kernel_rfl
theorem ok_s_l11At : compileFn Try.prog [0, 1, 2, 4, 5, 6, 21] 2 [(1, [0, 1, 3, 4, 6, 7, 2, 5, 8, 9, 10]), (5, [0, 1, 2, 3, 4, 5, 6, 7, 8, 9, 10, 11])] Try.f71 = some a_s_l11At := by kernel_rfl
theorem ok_i_Party_rests : compileFn Try.prog [0, 1, 2, 3, 4] 1 [(1, [0, 1, 2, 3, 4, 5, 6, 7])] Try.f72 = some a_i_Party_rests := by kernel_rfl
theorem ok_s_l11Moves : compileFn Try.prog [0, 1, 2, 3, 4, 5, 6, 12, 16, 34] 2 [(8, [0, 1, 2, 3, 4, 5, 6, 7, 8, 9, 10, 11, 12, 13, 14])] Try.f73 = some a_s_l11Moves := by kernel_rfl
theorem ok_i_Party_moves : compileFn Try.prog [0, 1, 2, 3, 4, 5, 6, 8, 9, 13, 14, 15, 29, 30, 31, 46] 2 [(5, [0, 1, 2, 3, 4, 5, 6, 7, 8, 9, 10, 11, 12, 13])] Try.f74 = some a_i_Party_moves := by kernel_rfl
theorem ok_i_Party_spots : compileFn Try.prog [0, 1, 2, 3, 4, 5, 8, 9, 10, 11] 1 [] Try.f75 = some a_i_Party_spots := by kernel_rfl
theorem ok_l_eqIntA2 : compileFn Try.prog [0, 1, 2, 3, 4, 5, 7, 16] 1 [(4, [0, 1, 2, 3, 4, 5, 6])] Try.f76 = some a_l_eqIntA2 := by kernel_rfl
theorem ok_l_markLoadS : compileFn Try.prog [0, 1, 4, 5, 9] 1 [] Try.f77 = some a_l_markLoadS := by kernel_rfl
theorem ok_s_l11Safe : compileFn Try.prog [0, 1, 2, 3, 4, 5, 22] 1 [(3, [0, 1, 2, 3, 4, 5, 6, 7, 8, 9, 10])] Try.f78 = some a_s_l11Safe := by kernel_rfl
theorem ok_s_l11Moved : compileFn Try.prog [0, 1, 2, 3, 4, 5] 2 [(1, [0, 1, 3, 4, 6, 7, 2, 5, 8, 9, 10])] Try.f79 = some a_s_l11Moved := by kernel_rfl
theorem ok_l_heldLoadS : compileFn Try.prog [0, 1, 4, 5, 9, 18, 27] 1 [] Try.f80 = some a_l_heldLoadS := by kernel_rfl
theorem ok_s_l11Spread : compileFn Try.prog [0, 1, 2, 3, 4, 5, 6, 7, 8, 9, 10, 17, 33, 47, 61] 2 [(11, [0, 1, 2, 3, 4, 5, 6, 7]), (16, [0, 1, 2, 3, 4, 5, 6, 7])] Try.f81 = some a_s_l11Spread := by kernel_rfl
theorem ok_i_Party_stepsFrom : compileFn Try.prog [0, 1, 2, 3, 4, 5, 6, 7, 9, 10, 12, 20, 28, 29, 30, 31, 47] 2 [(1, [1, 4, 0, 2, 3, 6, 5, 7]), (12, [0, 1, 2, 3, 4, 5, 6])] Try.f82 = some a_i_Party_stepsFrom := by kernel_rfl
theorem ok_s_l11Walk : compileFn Try.prog [0, 1, 2, 4, 5, 6, 7, 25, 34, 44] 2 [(1, [0, 1, 3, 4, 6, 7, 2, 5, 8, 9, 10]), (5, [0, 1, 2, 3, 4, 5, 6]), (7, [0, 1, 2, 3, 4, 5, 6])] Try.f83 = some a_s_l11Walk := by kernel_rfl
theorem ok_i_Party_walk : compileFn Try.prog [0, 1, 2, 4, 5, 6, 8, 11, 12, 13, 14, 22] 1 [(5, [0, 1, 3, 2, 4, 5])] Try.f84 = some a_i_Party_walk := by kernel_rfl
theorem ok_s_l1In : compileFn Try.prog [0, 1, 2, 6] 1 [] Try.f85 = some a_s_l1In := by kernel_rfl
theorem ok_s_l1Least : compileFn Try.prog [0, 1, 4, 7] 1 [] Try.f86 = some a_s_l1Least := by kernel_rfl
theorem ok_s_l1Most : compileFn Try.prog [0, 1, 4, 7] 1 [] Try.f87 = some a_s_l1Most := by kernel_rfl
theorem ok_s_l11Key : compileFn Try.prog [0, 1, 2, 3, 4, 9] 1 [(5, [0, 1, 2, 3, 4, 5, 6, 7, 8, 9, 10, 11, 12, 13])] Try.f88 = some a_s_l11Key := by kernel_rfl
theorem ok_i_Party_at : compileFn Try.prog [0, 1, 2, 3, 4, 5, 6, 17, 18, 19] 2 [(1, [0, 1, 2, 3, 5, 6, 4, 7, 8, 9]), (5, [0, 1, 2, 3, 4, 5, 6, 7, 8])] Try.f89 = some a_i_Party_at := by kernel_rfl
theorem ok_s_l11Placed : compileFn Try.prog [0, 1, 2, 4, 5, 6, 7, 13, 20, 31] 2 [(7, [0, 1, 2, 3, 4, 5, 6, 7, 8]), (9, [0, 1, 2, 3, 4, 5, 6, 7, 8, 9])] Try.f90 = some a_s_l11Placed := by kernel_rfl
theorem ok_i_Party_spotsOf : compileFn Try.prog [0, 1, 2, 4, 5, 6, 7, 8, 19, 22, 23, 24, 25, 34] 1 [] Try.f91 = some a_i_Party_spotsOf := by kernel_rfl
theorem ok_s_DrawIsParty : compileFn Try.prog [0, 2, 3] 2 [] Try.f92 = some a_s_DrawIsParty := by kernel_rfl
theorem ok_s_l1Cur_party : compileFn Try.prog [0, 2, 3, 4, 5, 6, 17, 41, 53, 58, 59, 65, 81, 100] 2 [(5, [0, 1, 2, 3, 4, 5, 8, 9, 6, 7, 10, 11, 12, 13, 14, 15, 16, 17, 18]), (16, [0, 1, 2, 3, 4, 5, 6, 7, 8, 9, 10, 11, 12, 13, 14]), (18, [0, 1, 2, 3, 4, 5, 6, 7, 8, 9, 10, 11, 12, 13, 14, 15, 16, 17])] Try.f93 = some a_s_l1Cur_party := by kernel_rfl
theorem ok_s_l1Cur_pick : compileFn Try.prog [0, 1, 4, 5, 7, 11] 1 [] Try.f94 = some a_s_l1Cur_pick := by kernel_rfl
theorem ok_s_DrawStepsTo : compileFn Try.prog [0, 2, 3, 4, 5] 2 [(3, [0, 1, 2, 3, 4, 5])] Try.f95 = some a_s_DrawStepsTo := by kernel_rfl
theorem ok_s_l1Cur_moveOf : compileFn Try.prog [0, 1, 3, 4, 5, 12, 17] 1 [] Try.f96 = some a_s_l1Cur_moveOf := by kernel_rfl
theorem ok_l_rRow : compileFn Try.prog [0, 1, 4, 5, 10, 14, 25] 1 [(6, [0, 1, 2, 3, 4, 5, 6, 7, 8])] Try.f97 = some a_l_rRow := by kernel_rfl
theorem ok_s_DrawIsWalkOn : compileFn Try.prog [0, 2, 3, 4, 5, 6, 7, 8, 9, 21, 37] 2 [] Try.f98 = some a_s_DrawIsWalkOn := by kernel_rfl
theorem ok_s_l6Beam : compileFn Try.prog [0, 1, 2] 1 [] Try.f99 = some a_s_l6Beam := by kernel_rfl
theorem ok_s_l6On : compileFn Try.prog [0, 1, 2, 4, 5, 13, 17, 27] 1 [(6, [0, 1, 2, 3, 4, 5, 6, 7])] Try.f100 = some a_s_l6On := by kernel_rfl
theorem ok_l_toLoad : compileFn Try.prog [0, 1, 2, 3] 1 [] Try.f101 = some a_l_toLoad := by kernel_rfl
theorem ok_i_IsBeam : compileFn Try.prog [0, 1, 2] 1 [] Try.f102 = some a_i_IsBeam := by kernel_rfl
theorem ok_i_IsRow : compileFn Try.prog [0, 2, 5] 1 [] Try.f103 = some a_i_IsRow := by kernel_rfl
theorem ok_slices_ContainsFunc_Si_Load_i_Load : compileFn Try.prog [0, 1, 4] 1 [] Try.f104 = some a_slices_ContainsFunc_Si_Load_i_Load := by kernel_rfl
theorem ok_i_isOn_1 : compileFn Try.prog [0, 1, 2, 3] 1 [] Try.f105 = some a_i_isOn_1 := by kernel_rfl
theorem ok_i_tipSide : compileFn Try.prog [0, 1, 2, 6, 7, 12] 1 [] Try.f106 = some a_i_tipSide := by kernel_rfl
theorem ok_l_eqLoad : compileFn Try.prog [0, 1, 2, 3, 4, 9, 14] 1 [] Try.f107 = some a_l_eqLoad := by kernel_rfl
theorem ok_s_l2Side : compileFn Try.prog [0, 1, 2, 6, 10, 14] 1 [] Try.f108 = some a_s_l2Side := by kernel_rfl
theorem ok_slices_Contains_S_2int__2int : compileFn Try.prog [0, 1, 3, 4] 1 [] Try.f109 = some a_slices_Contains_S_2int__2int := by kernel_rfl
theorem ok_slices_Clone_Si_Load_i_Load : compileFn Try.prog [0, 2, 4] 2 [] Try.f110 = some a_slices_Clone_Si_Load_i_Load := by kernel_rfl
theorem ok_s_l1Cur_plank : compileFn Try.prog [0, 2, 3, 4, 13, 31] 1 [(5, [0, 1, 2, 3, 4, 5, 6, 7, 8, 9, 10, 11, 12])] Try.f111 = some a_s_l1Cur_plank := by kernel_rfl
theorem ok_s_l1Cur_among : compileFn Try.prog [0, 1, 4] 1 [] Try.f112 = some a_s_l1Cur_among := by kernel_rfl
theorem ok_s_l1Cur_next : compileFn Try.prog [0, 2, 3, 13, 53] 1 [(2, [0, 1, 2, 3, 4, 5, 6, 7, 8, 9]), (3, [0, 1, 2, 3, 4, 5, 6, 7, 8, 9, 10, 11]), (6, [0, 1, 2, 3, 4, 5, 6, 7, 8, 9])] Try.f113 = some a_s_l1Cur_next := by kernel_rfl
theorem ok_s_l1Cur_targets : compileFn Try.prog [0, 1, 3, 4, 5, 6, 7, 8, 9, 10, 20, 39, 42, 49, 63, 76] 2 [(13, [0, 1, 2, 3, 4, 5, 6, 7, 8, 9])] Try.f114 = some a_s_l1Cur_targets := by kernel_rfl
theorem ok_s_l1Cur_one : compileFn Try.prog [0, 1, 4] 1 [] Try.f115 = some a_s_l1Cur_one := by kernel_rfl
theorem ok_s_l2Row : compileFn Try.prog [0, 2, 3, 11, 29] 1 [] Try.f116 = some a_s_l2Row := by kernel_rfl
theorem ok_i_IsRow_1 : compileFn Try.prog [0, 1, 2] 1 [] Try.f117 = some a_i_IsRow_1 := by kernel_rfl
theorem ok_i_isPlace : compileFn Try.prog [0, 2] 1 [] Try.f118 = some a_i_isPlace := by kernel_rfl
theorem ok_i_isWeight : compileFn Try.prog [0, 2] 1 [] Try.f119 = some a_i_isWeight := by kernel_rfl
theorem ok_slices_IndexFunc_Si_Load_i_Load : compileFn Try.prog [0, 1, 4, 5, 7, 8, 9, 16] 1 [] Try.f120 = some a_slices_IndexFunc_Si_Load_i_Load := by kernel_rfl
theorem ok_i_momentAbout : compileFn Try.prog [0, 1, 4, 5, 7, 8, 9, 10, 11] 1 [] Try.f121 = some a_i_momentAbout := by kernel_rfl
theorem ok_s_l2Moment : compileFn Try.prog [0, 1, 4, 5, 6, 10] 1 [(5, [0, 1, 2, 3, 4, 5, 6, 7, 8, 9, 10, 11, 12, 13, 14, 15])] Try.f122 = some a_s_l2Moment := by kernel_rfl
theorem ok_slices_Index_S_2int__2int : compileFn Try.prog [0, 1, 3, 4, 5, 7, 8, 9, 16] 1 [(4, [0, 1, 2, 3, 4, 5])] Try.f123 = some a_slices_Index_S_2int__2int := by kernel_rfl
theorem ok_s_l1Cur_beam : compileFn Try.prog [0, 2, 3, 4, 12, 29, 30, 36, 47] 1 [(5, [0, 1, 2, 3, 4, 5, 6, 7, 8, 9, 10, 11])] Try.f124 = some a_s_l1Cur_beam := by kernel_rfl
theorem ok_s_l2In : compileFn Try.prog [0, 2] 1 [] Try.f125 = some a_s_l2In := by kernel_rfl
theorem tabOk : TableOk Try.prog T := tableOk_of (by
  unfold tab
  exact allCons ⟨_, _, _, _, Try.func2, ok_gosem_cut_init⟩ <|
    allCons ⟨_, _, _, _, Try.func3, ok_l_FnExactIsParty⟩ <|
    allCons ⟨_, _, _, _, Try.func4, ok_l_FnExactRestingPlaces⟩ <|
    allCons ⟨_, _, _, _, Try.func5, ok_l_FnExactSafeMoves⟩ <|
    allCons ⟨_, _, _, _, Try.func6, ok_l_FnExactMoveOne⟩ <|
    allCons ⟨_, _, _, _, Try.func7, ok_l_FnExactCountPlaces⟩ <|
    allCons ⟨_, _, _, _, Try.func8, ok_l_FnExactIsWalkOn⟩ <|
    allCons ⟨_, _, _, _, Try.func9, ok_l_FnExactFarthestOut⟩ <|
    allCons ⟨_, _, _, _, Try.func10, ok_l_FnExactMeetSteps⟩ <|
    allCons ⟨_, _, _, _, Try.func11, ok_l_FnExactWalkTo⟩ <|
    allCons ⟨_, _, _, _, Try.func12, ok_l_FnExactStepsTo⟩ <|
    allCons ⟨_, _, _, _, Try.func13, ok_l_FnExactFirstWalkTo⟩ <|
    allCons ⟨_, _, _, _, Try.func14, ok_l_FnPlanks⟩ <|
    allCons ⟨_, _, _, _, Try.func15, ok_l_FnParties⟩ <|
    allCons ⟨_, _, _, _, Try.func16, ok_l_szParty⟩ <|
    allCons ⟨_, _, _, _, Try.func17, ok_s_IsParty⟩ <|
    allCons ⟨_, _, _, _, Try.func18, ok_l_toParty⟩ <|
    allCons ⟨_, _, _, _, Try.func19, ok_i_IsParty⟩ <|
    allCons ⟨_, _, _, _, Try.func20, ok_l_eqParty⟩ <|
    allCons ⟨_, _, _, _, Try.func21, ok_s_RestingPlaces⟩ <|
    allCons ⟨_, _, _, _, Try.func22, ok_i_RestingPlaces⟩ <|
    allCons ⟨_, _, _, _, Try.func23, ok_s_SafeMoves⟩ <|
    allCons ⟨_, _, _, _, Try.func24, ok_i_SafeMoves⟩ <|
    allCons ⟨_, _, _, _, Try.func25, ok_l_eqIntA2S⟩ <|
    allCons ⟨_, _, _, _, Try.func26, ok_l_markParty⟩ <|
    allCons ⟨_, _, _, _, Try.func27, ok_l_markIntA2S⟩ <|
    allCons ⟨_, _, _, _, Try.func28, ok_l_heldIntA2S⟩ <|
    allCons ⟨_, _, _, _, Try.func29, ok_s_MoveOne⟩ <|
    allCons ⟨_, _, _, _, Try.func30, ok_l_toIntA2⟩ <|
    allCons ⟨_, _, _, _, Try.func31, ok_i_MoveOne⟩ <|
    allCons ⟨_, _, _, _, Try.func32, ok_l_heldParty⟩ <|
    allCons ⟨_, _, _, _, Try.func33, ok_s_CountPlaces⟩ <|
    allCons ⟨_, _, _, _, Try.func34, ok_i_CountPlaces⟩ <|
    allCons ⟨_, _, _, _, Try.func35, ok_l_szIntA2S⟩ <|
    allCons ⟨_, _, _, _, Try.func36, ok_s_IsWalkOn⟩ <|
    allCons ⟨_, _, _, _, Try.func37, ok_l_toIntA2S⟩ <|
    allCons ⟨_, _, _, _, Try.func38, ok_i_IsWalkOn⟩ <|
    allCons ⟨_, _, _, _, Try.func39, ok_s_FarthestOut⟩ <|
    allCons ⟨_, _, _, _, Try.func40, ok_i_FarthestOut⟩ <|
    allCons ⟨_, _, _, _, Try.func41, ok_s_MeetSteps⟩ <|
    allCons ⟨_, _, _, _, Try.func42, ok_i_MeetSteps⟩ <|
    allCons ⟨_, _, _, _, Try.func43, ok_s_WalkTo⟩ <|
    allCons ⟨_, _, _, _, Try.func44, ok_i_WalkTo⟩ <|
    allCons ⟨_, _, _, _, Try.func45, ok_s_StepsTo⟩ <|
    allCons ⟨_, _, _, _, Try.func46, ok_l_toIntS⟩ <|
    allCons ⟨_, _, _, _, Try.func47, ok_i_StepsTo⟩ <|
    allCons ⟨_, _, _, _, Try.func48, ok_l_eqIntS⟩ <|
    allCons ⟨_, _, _, _, Try.func49, ok_s_FirstWalkTo⟩ <|
    allCons ⟨_, _, _, _, Try.func50, ok_i_FirstWalkTo⟩ <|
    allCons ⟨_, _, _, _, Try.func51, ok_l_markIntS⟩ <|
    allCons ⟨_, _, _, _, Try.func52, ok_l_rBig⟩ <|
    allCons ⟨_, _, _, _, Try.func53, ok_s_DrawCountPlaces⟩ <|
    allCons ⟨_, _, _, _, Try.func54, ok_s_DrawFarthestOut⟩ <|
    allCons ⟨_, _, _, _, Try.func55, ok_s_DrawFirstWalkTo⟩ <|
    allCons ⟨_, _, _, _, Try.func56, ok_l_rCells⟩ <|
    allCons ⟨_, _, _, _, Try.func57, ok_s_DrawMoveOne⟩ <|
    allCons ⟨_, _, _, _, Try.func58, ok_l_rParty⟩ <|
    allCons ⟨_, _, _, _, Try.func59, ok_s_DrawWalkTo⟩ <|
    allCons ⟨_, _, _, _, Try.func60, ok_l_szLoadS⟩ <|
    allCons ⟨_, _, _, _, Try.func61, ok_s_l11Party⟩ <|
    allCons ⟨_, _, _, _, Try.func62, ok_l_toBeam⟩ <|
    allCons ⟨_, _, _, _, Try.func63, ok_l_toLoadS⟩ <|
    allCons ⟨_, _, _, _, Try.func64, ok_i_isOn⟩ <|
    allCons ⟨_, _, _, _, Try.func65, ok_i_within⟩ <|
    allCons ⟨_, _, _, _, Try.func66, ok_i_Beam_rests⟩ <|
    allCons ⟨_, _, _, _, Try.func67, ok_l_eqBeam⟩ <|
    allCons ⟨_, _, _, _, Try.func68, ok_l_eqLoadS⟩ <|
    allCons ⟨_, _, _, _, Try.func69, ok_s_l11Size⟩ <|
    allCons ⟨_, _, _, _, Try.func70, ok_s_l11Rests⟩ <|
    allCons ⟨_, _, _, _, Try.func71, ok_s_l11At⟩ <|
    allCons ⟨_, _, _, _, Try.func72, ok_i_Party_rests⟩ <|
    allCons ⟨_, _, _, _, Try.func73, ok_s_l11Moves⟩ <|
    allCons ⟨_, _, _, _, Try.func74, ok_i_Party_moves⟩ <|
    allCons ⟨_, _, _, _, Try.func75, ok_i_Party_spots⟩ <|
    allCons ⟨_, _, _, _, Try.func76, ok_l_eqIntA2⟩ <|
    allCons ⟨_, _, _, _, Try.func77, ok_l_markLoadS⟩ <|
    allCons ⟨_, _, _, _, Try.func78, ok_s_l11Safe⟩ <|
    allCons ⟨_, _, _, _, Try.func79, ok_s_l11Moved⟩ <|
    allCons ⟨_, _, _, _, Try.func80, ok_l_heldLoadS⟩ <|
    allCons ⟨_, _, _, _, Try.func81, ok_s_l11Spread⟩ <|
    allCons ⟨_, _, _, _, Try.func82, ok_i_Party_stepsFrom⟩ <|
    allCons ⟨_, _, _, _, Try.func83, ok_s_l11Walk⟩ <|
    allCons ⟨_, _, _, _, Try.func84, ok_i_Party_walk⟩ <|
    allCons ⟨_, _, _, _, Try.func85, ok_s_l1In⟩ <|
    allCons ⟨_, _, _, _, Try.func86, ok_s_l1Least⟩ <|
    allCons ⟨_, _, _, _, Try.func87, ok_s_l1Most⟩ <|
    allCons ⟨_, _, _, _, Try.func88, ok_s_l11Key⟩ <|
    allCons ⟨_, _, _, _, Try.func89, ok_i_Party_at⟩ <|
    allCons ⟨_, _, _, _, Try.func90, ok_s_l11Placed⟩ <|
    allCons ⟨_, _, _, _, Try.func91, ok_i_Party_spotsOf⟩ <|
    allCons ⟨_, _, _, _, Try.func92, ok_s_DrawIsParty⟩ <|
    allCons ⟨_, _, _, _, Try.func93, ok_s_l1Cur_party⟩ <|
    allCons ⟨_, _, _, _, Try.func94, ok_s_l1Cur_pick⟩ <|
    allCons ⟨_, _, _, _, Try.func95, ok_s_DrawStepsTo⟩ <|
    allCons ⟨_, _, _, _, Try.func96, ok_s_l1Cur_moveOf⟩ <|
    allCons ⟨_, _, _, _, Try.func97, ok_l_rRow⟩ <|
    allCons ⟨_, _, _, _, Try.func98, ok_s_DrawIsWalkOn⟩ <|
    allCons ⟨_, _, _, _, Try.func99, ok_s_l6Beam⟩ <|
    allCons ⟨_, _, _, _, Try.func100, ok_s_l6On⟩ <|
    allCons ⟨_, _, _, _, Try.func101, ok_l_toLoad⟩ <|
    allCons ⟨_, _, _, _, Try.func102, ok_i_IsBeam⟩ <|
    allCons ⟨_, _, _, _, Try.func103, ok_i_IsRow⟩ <|
    allCons ⟨_, _, _, _, Try.func104, ok_slices_ContainsFunc_Si_Load_i_Load⟩ <|
    allCons ⟨_, _, _, _, Try.func105, ok_i_isOn_1⟩ <|
    allCons ⟨_, _, _, _, Try.func106, ok_i_tipSide⟩ <|
    allCons ⟨_, _, _, _, Try.func107, ok_l_eqLoad⟩ <|
    allCons ⟨_, _, _, _, Try.func108, ok_s_l2Side⟩ <|
    allCons ⟨_, _, _, _, Try.func109, ok_slices_Contains_S_2int__2int⟩ <|
    allCons ⟨_, _, _, _, Try.func110, ok_slices_Clone_Si_Load_i_Load⟩ <|
    allCons ⟨_, _, _, _, Try.func111, ok_s_l1Cur_plank⟩ <|
    allCons ⟨_, _, _, _, Try.func112, ok_s_l1Cur_among⟩ <|
    allCons ⟨_, _, _, _, Try.func113, ok_s_l1Cur_next⟩ <|
    allCons ⟨_, _, _, _, Try.func114, ok_s_l1Cur_targets⟩ <|
    allCons ⟨_, _, _, _, Try.func115, ok_s_l1Cur_one⟩ <|
    allCons ⟨_, _, _, _, Try.func116, ok_s_l2Row⟩ <|
    allCons ⟨_, _, _, _, Try.func117, ok_i_IsRow_1⟩ <|
    allCons ⟨_, _, _, _, Try.func118, ok_i_isPlace⟩ <|
    allCons ⟨_, _, _, _, Try.func119, ok_i_isWeight⟩ <|
    allCons ⟨_, _, _, _, Try.func120, ok_slices_IndexFunc_Si_Load_i_Load⟩ <|
    allCons ⟨_, _, _, _, Try.func121, ok_i_momentAbout⟩ <|
    allCons ⟨_, _, _, _, Try.func122, ok_s_l2Moment⟩ <|
    allCons ⟨_, _, _, _, Try.func123, ok_slices_Index_S_2int__2int⟩ <|
    allCons ⟨_, _, _, _, Try.func124, ok_s_l1Cur_beam⟩ <|
    allCons ⟨_, _, _, _, Try.func125, ok_s_l2In⟩ <|
    allNil)
end Go.Proofs.Ythkgpblohjpcdaa.Slim

/- The slim machine: the rules by which simp walks. -/
namespace Go.Proofs.Ythkgpblohjpcdaa.Slim
open Go
set_option linter.unusedVariables false
set_option linter.unusedSimpArgs false

section
variable {C : FuncId → List AV → Mem → Option (AV × Mem)} {tm loc : List AV} {m : Mem} {g : X → AV} {H : List Blk} {e : Option Nat}

theorem aops_nil : aops C tm [] loc m = some (loc, m) := Eq.trans rfl rfl

def opThen {β : Type} (r : Option (AV × Mem)) (f : AV → Mem → Option β) : Option β :=
  match r with
  | some (v, m) => f v m
  | none => none
theorem opThen_some {β : Type} (v : AV) (m : Mem) (f : AV → Mem → Option β) : opThen (some (v, m)) f = f v m := Eq.trans rfl rfl
theorem opThen_none {β : Type} (f : AV → Mem → Option β) : opThen none f = none := Eq.trans rfl rfl
theorem opThen_ite {β : Type} (c : Prop) [Decidable c] (a b : Option (AV × Mem)) (f : AV → Mem → Option β) : opThen (if c then a else b) f = if c then opThen a f else opThen b f := by split <;> rfl
@[congr] theorem opThen_congr {β : Type} {r r' : Option (AV × Mem)} {f : AV → Mem → Option β} (h : r = r') : opThen r f = opThen r' f := by rw [h]

def guardP {β : Type} (p : Prop) [Decidable p] (r : Option (AV × Mem)) (m : Mem) (f : AV → Mem → Option β) : Option β := if p then opThen r f else f (.tup []) m
def guardThen {β : Type} (c : Option Bool) (r : Option (AV × Mem)) (m : Mem) (f : AV → Mem → Option β) : Option β :=
  match c with
  | none => none
  | some c => guardP (c = true) r m f
theorem guardThen_some {β : Type} (c : Bool) (r : Option (AV × Mem)) (m : Mem) (f : AV → Mem → Option β) : guardThen (some c) r m f = guardP (c = true) r m f := Eq.trans rfl rfl
theorem guardThen_ite {β : Type} (p : Prop) [Decidable p] (a b : Option Bool) (r : Option (AV × Mem)) (m : Mem) (f : AV → Mem → Option β) :
    guardThen (if p then a else b) r m f = if p then guardThen a r m f else guardThen b r m f := by split <;> rfl
theorem guardP_true {β : Type} (r : Option (AV × Mem)) (m : Mem) (f : AV → Mem → Option β) : guardP True r m f = opThen r f := by simp [guardP]
theorem guardP_false {β : Type} (r : Option (AV × Mem)) (m : Mem) (f : AV → Mem → Option β) : guardP False r m f = f (.tup []) m := by simp [guardP]
theorem guardP_some {β : Type} (p : Prop) [Decidable p] (v : AV) (m : Mem) (f : AV → Mem → Option β) : guardP p (some (v, m)) m f = f (if p then v else .tup []) m := by
  by_cases h : p <;> simp [guardP, h, opThen]
theorem guardP_ite {β : Type} (p : Prop) [Decidable p] (q : Prop) [Decidable q] (v : AV) (m : Mem) (f : AV → Mem → Option β) :
    guardP p (if q then some (v, m) else none) m f = if p → q then f (if p then v else .tup []) m else none := by
  by_cases h : p <;> by_cases h2 : q <;> simp [guardP, opThen, h, h2]
@[congr] theorem guardP_congr {β : Type} {p q : Prop} {s : Decidable p} [Decidable q] {r r' : Option (AV × Mem)} {m : Mem} {f : AV → Mem → Option β} (h : p = q) (h2 : q → r = r') : guardP p r m f = guardP q r' m f := by
  subst h
  unfold guardP
  by_cases hp : p
  · rw [if_pos hp, if_pos hp, h2 hp]
  · rw [if_neg hp, if_neg hp]
@[congr] theorem guardThen_congr {β : Type} {c c' : Option Bool} {r : Option (AV × Mem)} {m : Mem} {f : AV → Mem → Option β} (h : c = c') : guardThen c r m f = guardThen c' r m f := by rw [h]

def guardOf (v : AV) (b : Bool) : Option Bool :=
  match v with
  | .bool c => some (c == b)
  | .tup [] => some false
  | _ => none
theorem guardOf_true (c : Bool) : guardOf (.bool c) true = some c := by cases c <;> rfl
theorem guardOf_false (c : Bool) : guardOf (.bool c) false = some (!c) := by cases c <;> rfl
theorem guardOf_tup (b : Bool) : guardOf (.tup []) b = some false := Eq.trans rfl rfl
theorem guardOf_ite (c : Prop) [Decidable c] (x y : AV) (b : Bool) : guardOf (if c then x else y) b = if c then guardOf x b else guardOf y b := by split <;> rfl

theorem aops_cons (op : AO) (rest : List AOper) : aops C tm (⟨op, none⟩ :: rest) loc m = opThen (aop C (get tm loc) m op) fun v m' => aops C tm rest (loc ++ [v]) m' := by
  rw [aops]
  simp only [wanted]
  cases aop C (get tm loc) m op <;> rfl

theorem aops_guard (op : AO) (x : X) (b : Bool) (rest : List AOper) :
    aops C tm (⟨op, some (x, b)⟩ :: rest) loc m = guardThen (guardOf (get tm loc x) b) (aop C (get tm loc) m op) m fun v m' => aops C tm rest (loc ++ [v]) m' := by
  rw [aops]
  have h : wanted (get tm loc) (some (x, b)) = guardOf (get tm loc x) b := rfl
  rw [h]
  cases guardOf (get tm loc x) b with
  | none => rfl
  | some c => cases c with
    | false => rfl
    | true => simp only [guardThen, guardP, if_true]; cases aop C (get tm loc) m op <;> rfl

theorem dops_nil : dops C tm [] loc m = some (loc, m) := Eq.trans rfl rfl

theorem dops_cons (op : AO) (rest : List DE) : dops C tm (⟨op, none, []⟩ :: rest) loc m = opThen (aop C (get tm loc) m op) fun v m' => dops C tm rest (loc ++ [v]) m' := by
  rw [dops]
  simp only [wanted]
  cases aop C (get tm loc) m op <;> simp [opThen, toldAnew]

theorem dops_again (op : AO) (q : Nat × AOper) (qs : List (Nat × AOper)) (rest : List DE) : dops C tm (⟨op, none, q :: qs⟩ :: rest) loc m =
    opThen (aop C (get tm loc) m op) fun v m' => if toldAnew (get tm (loc ++ [v])) loc m'.H (q :: qs) = true then dops C tm rest (loc ++ [v]) m' else none := by
  rw [dops]
  simp only [wanted]
  cases aop C (get tm loc) m op <;> simp [opThen]

theorem dops_guard (op : AO) (x : X) (b : Bool) (rest : List DE) :
    dops C tm (⟨op, some (x, b), []⟩ :: rest) loc m = guardThen (guardOf (get tm loc x) b) (aop C (get tm loc) m op) m fun v m' => dops C tm rest (loc ++ [v]) m' := by
  rw [dops]
  have h : wanted (get tm loc) (some (x, b)) = guardOf (get tm loc x) b := rfl
  rw [h]
  cases guardOf (get tm loc x) b with
  | none => rfl
  | some c => cases c with
    | false => simp [guardThen, guardP, toldAnew]
    | true => simp only [guardThen, guardP, if_true]; cases aop C (get tm loc) m op <;> simp [opThen, toldAnew]

theorem dops_guard_again (op : AO) (x : X) (b : Bool) (q : Nat × AOper) (qs : List (Nat × AOper)) (rest : List DE) :
    dops C tm (⟨op, some (x, b), q :: qs⟩ :: rest) loc m = guardThen (guardOf (get tm loc x) b) (aop C (get tm loc) m op) m fun v m' =>
      if toldAnew (get tm (loc ++ [v])) loc m'.H (q :: qs) = true then dops C tm rest (loc ++ [v]) m' else none := by
  rw [dops]
  have h : wanted (get tm loc) (some (x, b)) = guardOf (get tm loc x) b := rfl
  rw [h]
  cases guardOf (get tm loc x) b with
  | none => rfl
  | some c => cases c with
    | false => rfl
    | true => simp only [guardThen, guardP, if_true]; cases aop C (get tm loc) m op <;> rfl

theorem toldAnew_nil (L : List Blk) : toldAnew g loc L [] = true := Eq.trans rfl rfl
theorem toldAnew_cons (L : List Blk) (j : Nat) (op : AO) (qs : List (Nat × AOper)) : (toldAnew g loc L ((j, ⟨op, none⟩) :: qs) = true) ↔ (memop g L op = some ((loc[j]?).getD .undef) ∧ toldAnew g loc L qs = true) := by
  simp [toldAnew, wanted]
theorem toldAnew_guard (L : List Blk) (j : Nat) (op : AO) (x : X) (b : Bool) (qs : List (Nat × AOper)) : (toldAnew g loc L ((j, ⟨op, some (x, b)⟩) :: qs) = true) ↔ ((guardOf (g x) b = some false ∨ memop g L op = some ((loc[j]?).getD .undef)) ∧ toldAnew g loc L qs = true) := by
  simp only [toldAnew, Bool.and_eq_true, Bool.or_eq_true, decide_eq_true_eq]
  rfl
theorem memop_load (L : List Blk) (a : Bool) (sz : Nat) (x : X) : memop g L (.load a sz x) = loadAt L a sz (g x) := Eq.trans rfl rfl

theorem get_t (s : Nat) : get tm loc (.t s) = (tm[s]?).getD .undef := Eq.trans rfl rfl
theorem get_l (s : Nat) : get tm loc (.l s) = (loc[s]?).getD .undef := Eq.trans rfl rfl
theorem get_c (v : AV) : get tm loc (.c v) = v := Eq.trans rfl rfl

def valOf (m : Mem) (r : Option AV) : Option (AV × Mem) :=
  match r with
  | some v => some (v, m)
  | none => none
theorem valOf_some (v : AV) : valOf m (some v) = some (v, m) := Eq.trans rfl rfl
theorem valOf_none : valOf m none = none := Eq.trans rfl rfl
theorem valOf_ite (c : Prop) [Decidable c] (a b : Option AV) : valOf m (if c then a else b) = if c then valOf m a else valOf m b := by split <;> rfl

theorem aop_of_light {op : AO} (h : op.kind = 0) : aop C g m op = valOf m (light g op) := by
  unfold aop
  cases e : light g op with
  | some v => rfl
  | none => simp only []; rw [memop_none (by omega), making_none (by omega), heavy_none (by omega)]; rfl

theorem aop_of_memop {op : AO} (h : op.kind = 1) : aop C g m op = valOf m (memop g m.H op) := by
  unfold aop
  rw [light_none (by omega)]
  simp only []
  cases e : memop g m.H op with
  | some v => rfl
  | none => simp only []; rw [making_none (by omega), heavy_none (by omega)]; rfl

theorem aop_of_heavy {op : AO} (h : op.kind = 3) : aop C g m op = heavy C g m op := by
  unfold aop
  rw [light_none (by omega), memop_none (by omega), making_none (by omega)]

theorem aop_of_making {op : AO} (h : op.kind = 2) : aop C g m op = match making g op with | some (cs, v) => some (v m.H.length, newBlk m cs) | none => none := by
  unfold aop
  rw [light_none (by omega), memop_none (by omega)]
  simp only []
  cases making g op with
  | some p => rfl
  | none => simp only []; exact heavy_none (by omega)

theorem aop_mv (x : X) : aop C g m (.mv x) = some (g x, m) := Eq.trans rfl rfl
theorem aop_bin (c : Nat) (o : BinOp) (x y : X) : aop C g m (.bin c o x y) = valOf m (binop c o (g x) (g y)) := aop_of_light rfl

def pickV (c a b : AV) : Option AV :=
  match c with
  | .bool true => some a
  | .bool false => some b
  | _ => none
theorem pickV_bool (c : Bool) (a b : AV) : pickV (.bool c) a b = some (if c = true then a else b) := by cases c <;> rfl
theorem aop_pick (c a b : X) : aop C g m (.pick c a b) = valOf m (pickV (g c) (g a) (g b)) := aop_of_light rfl
theorem aop_un (o : UnOp) (x : X) : aop C g m (.un o x) = valOf m (unop o (g x)) := aop_of_light rfl
theorem aop_makeFunc (f : FuncId) (a b : List X) : aop C g m (.makeFunc f a b) = some (.fn f (a.map g) (b.map g), m) := Eq.trans rfl rfl

def convV (k : IntKind) (v : AV) : Option AV :=
  match v with
  | .int _ n => some (.int k (k.wrap n))
  | _ => none
theorem convV_int (k k' : IntKind) (n : Int) : convV k (.int k' n) = some (.int k (k.wrap n)) := Eq.trans rfl rfl
theorem aop_conv (k : IntKind) (x : X) : aop C g m (.conv k x) = valOf m (convV k (g x)) := aop_of_light rfl

def eqCellsV (ks : List Nat) (neg : Bool) (a b : AV) : Option AV :=
  match a, b with
  | .agg xs, .agg ys => (eqList ks xs ys).map fun b => .bool (if neg then !b else b)
  | _, _ => none
theorem eqCellsV_agg (ks : List Nat) (neg : Bool) (xs ys : List AV) : eqCellsV ks neg (.agg xs) (.agg ys) = (eqList ks xs ys).map fun b => .bool (if neg then !b else b) := Eq.trans rfl rfl
theorem aop_eqCells (ks : List Nat) (neg : Bool) (x y : X) : aop C g m (.eqCells ks neg x y) = valOf m (eqCellsV ks neg (g x) (g y)) := aop_of_light rfl

def fieldAddrV (off : Nat) (v : AV) : Option AV :=
  match v with
  | .ptr (some (b, o)) => some (.ptr (some (b, o + off)))
  | _ => none
theorem fieldAddrV_ptr (off b o : Nat) : fieldAddrV off (.ptr (some (b, o))) = some (.ptr (some (b, o + off))) := Eq.trans rfl rfl
theorem aop_fieldAddr (off : Nat) (x : X) : aop C g m (.fieldAddr off x) = valOf m (fieldAddrV off (g x)) := aop_of_light rfl

def fieldV (agg : Bool) (off sz : Nat) (v : AV) : Option AV :=
  match v with
  | .agg cs => part agg cs off sz
  | _ => none
theorem fieldV_agg (agg : Bool) (off sz : Nat) (cs : List AV) : fieldV agg off sz (.agg cs) = part agg cs off sz := Eq.trans rfl rfl
theorem aop_field (agg : Bool) (off sz : Nat) (x : X) : aop C g m (.field agg off sz x) = valOf m (fieldV agg off sz (g x)) := aop_of_light rfl

def indexAddrSV (sz : Nat) (v i : AV) : Option AV :=
  match v, i with
  | .slice (some (b, o)) sz' n _, .int _ i => if 0 ≤ i ∧ i < n ∧ sz' = sz then some (.ptr (some (b, o + i.toNat * sz))) else none
  | _, _ => none
theorem indexAddrSV_slice (sz b o sz' n : Nat) (c : Option Nat) (k : IntKind) (i : Int) : indexAddrSV sz (.slice (some (b, o)) sz' n c) (.int k i) = if 0 ≤ i ∧ i < n ∧ sz' = sz then some (.ptr (some (b, o + i.toNat * sz))) else none := Eq.trans rfl rfl
theorem aop_indexAddrS (sz : Nat) (x i : X) : aop C g m (.indexAddrS sz x i) = valOf m (indexAddrSV sz (g x) (g i)) := aop_of_light rfl

def indexAddrAV (n sz : Nat) (v i : AV) : Option AV :=
  match v, i with
  | .ptr (some (b, o)), .int _ i => if 0 ≤ i ∧ i < n then some (.ptr (some (b, o + i.toNat * sz))) else none
  | _, _ => none
theorem indexAddrAV_ptr (n sz b o : Nat) (k : IntKind) (i : Int) : indexAddrAV n sz (.ptr (some (b, o))) (.int k i) = if 0 ≤ i ∧ i < n then some (.ptr (some (b, o + i.toNat * sz))) else none := Eq.trans rfl rfl
theorem aop_indexAddrA (n sz : Nat) (x i : X) : aop C g m (.indexAddrA n sz x i) = valOf m (indexAddrAV n sz (g x) (g i)) := aop_of_light rfl

def indexAV (agg : Bool) (n sz : Nat) (v i : AV) : Option AV :=
  match v, i with
  | .agg cs, .int _ i => if 0 ≤ i ∧ i < n then part agg cs (i.toNat * sz) sz else none
  | _, _ => none
theorem indexAV_agg (agg : Bool) (n sz : Nat) (cs : List AV) (k : IntKind) (i : Int) : indexAV agg n sz (.agg cs) (.int k i) = if 0 ≤ i ∧ i < n then part agg cs (i.toNat * sz) sz else none := Eq.trans rfl rfl
theorem aop_indexA (agg : Bool) (n sz : Nat) (x i : X) : aop C g m (.indexA agg n sz x i) = valOf m (indexAV agg n sz (g x) (g i)) := aop_of_light rfl

def indexSV (v i : AV) : Option AV :=
  match v, i with
  | .str s, .int _ i => if 0 ≤ i then (s[i.toNat]?).map fun b => .int .u8 b.toNat else none
  | _, _ => none
theorem indexSV_str (s : ByteArray) (k : IntKind) (i : Int) : indexSV (.str s) (.int k i) = if 0 ≤ i then (s[i.toNat]?).map fun b => .int .u8 b.toNat else none := Eq.trans rfl rfl
theorem aop_indexS (x i : X) : aop C g m (.indexS x i) = valOf m (indexSV (g x) (g i)) := aop_of_light rfl

def extractV (i : Nat) (v : AV) : Option AV :=
  match v with
  | .tup vs => vs[i]?
  | _ => none
theorem extractV_tup (i : Nat) (vs : List AV) : extractV i (.tup vs) = vs[i]? := Eq.trans rfl rfl
theorem aop_extract (i : Nat) (x : X) : aop C g m (.extract i x) = valOf m (extractV i (g x)) := aop_of_light rfl

def lenV (v : AV) : Option AV :=
  match v with
  | .slice _ _ n _ => some (.int .i64 n)
  | _ => none
theorem lenV_slice (p : Option (Nat × Nat)) (sz n : Nat) (c : Option Nat) : lenV (.slice p sz n c) = some (.int .i64 n) := Eq.trans rfl rfl
theorem aop_len (x : X) : aop C g m (.len x) = valOf m (lenV (g x)) := aop_of_light rfl

def lenStrV (v : AV) : Option AV :=
  match v with
  | .str s => some (.int .i64 s.size)
  | _ => none
theorem lenStrV_str (s : ByteArray) : lenStrV (.str s) = some (.int .i64 s.size) := Eq.trans rfl rfl
theorem aop_lenStr (x : X) : aop C g m (.lenStr x) = valOf m (lenStrV (g x)) := aop_of_light rfl
theorem aop_lenA (n : Nat) : aop C g m (.lenA n) = some (.int .i64 n, m) := Eq.trans rfl rfl

def max2V (a b : AV) : Option AV :=
  match a, b with
  | .int k a, .int k' b => if k = k' then some (.int k (if b > a then b else a)) else none
  | _, _ => none
theorem max2V_int (k : IntKind) (a b : Int) : max2V (.int k a) (.int k b) = some (.int k (if b > a then b else a)) := by simp [max2V]
theorem aop_max2 (x y : X) : aop C g m (.max2 x y) = valOf m (max2V (g x) (g y)) := aop_of_light rfl
def min2V (a b : AV) : Option AV :=
  match a, b with
  | .int k a, .int k' b => if k = k' then some (.int k (if b < a then b else a)) else none
  | _, _ => none
theorem min2V_int (k : IntKind) (a b : Int) : min2V (.int k a) (.int k b) = some (.int k (if b < a then b else a)) := by simp [min2V]
theorem aop_min2 (x y : X) : aop C g m (.min2 x y) = valOf m (min2V (g x) (g y)) := aop_of_light rfl

theorem aop_build (zero : List AV) (parts : List (Nat × Nat × X)) : aop C g m (.build zero parts) = valOf m ((fillParts g zero parts).map .agg) := aop_of_light rfl
theorem aop_load (a : Bool) (sz : Nat) (x : X) : aop C g m (.load a sz x) = valOf m (loadAt m.H a sz (g x)) := aop_of_memop rfl
theorem aop_alloc (zero : List AV) : aop C g ⟨H, e⟩ (.alloc zero) = some (.ptr (some (H.length, 0)), ⟨H ++ [.cells zero true], e⟩) := Eq.trans rfl rfl

def boxV (H : List Blk) (e : Option Nat) (cs : Option (List AV)) : Option (AV × Mem) :=
  match cs with
  | some cs => some (.ptr (some (H.length, 0)), ⟨H ++ [.cells cs true], e⟩)
  | none => none
theorem boxV_some (cs : List AV) : boxV H e (some cs) = some (.ptr (some (H.length, 0)), ⟨H ++ [.cells cs true], e⟩) := Eq.trans rfl rfl
theorem aop_box (x : X) : aop C g ⟨H, e⟩ (.box x) = boxV H e (cellsOf (g x)) := by
  rw [aop_of_making rfl]
  have h : making g (.box x) = (cellsOf (g x)).map fun cs => (cs, fun b => .ptr (some (b, 0))) := rfl
  rw [h]
  cases cellsOf (g x) <;> rfl

def buildSliceV (H : List Blk) (e : Option Nat) (sz len : Nat) (cs : Option (List AV)) : Option (AV × Mem) :=
  match cs with
  | some cs => some (.slice (some (H.length, 0)) sz len (some len), ⟨H ++ [.cells cs true], e⟩)
  | none => none
theorem buildSliceV_some (sz len : Nat) (cs : List AV) : buildSliceV H e sz len (some cs) = some (.slice (some (H.length, 0)) sz len (some len), ⟨H ++ [.cells cs true], e⟩) := Eq.trans rfl rfl
theorem aop_buildSlice (sz len : Nat) (zero : List AV) (parts : List (Nat × Nat × X)) : aop C g ⟨H, e⟩ (.buildSlice sz len zero parts) = buildSliceV H e sz len (fillParts g zero parts) := by
  rw [aop_of_making rfl]
  have h : making g (.buildSlice sz len zero parts) = (fillParts g zero parts).map fun cs => (cs, fun b => .slice (some (b, 0)) sz len (some len)) := rfl
  rw [h]
  cases fillParts g zero parts <;> rfl

def storeV (H : List Blk) (e : Option Nat) (sz : Nat) (a x : AV) : Option (AV × Mem) :=
  match a, cellsOf x with
  | .ptr (some (b, o)), some new => match H[b]? with
    | some (.cells cs true) =>
      if new.length = sz ∧ 0 < sz ∧ o + sz ≤ cs.length then
        some (.tup [], ⟨H.set b (.cells (setRange cs o new) true), if (new.all fun v => v.under (b + 1)) then e else minEsc e b⟩)
      else none
    | _ => none
  | _, _ => none
theorem aop_store (sz : Nat) (a x : X) : aop C g ⟨H, e⟩ (.store sz a x) = storeV H e sz (g a) (g x) := by
  rw [aop_of_heavy rfl]; rfl

def callV (C : FuncId → List AV → Mem → Option (AV × Mem)) (f : AV) (args : List AV) (m : Mem) : Option (AV × Mem) :=
  match f with
  | .fn f first captured => C f (first ++ args ++ captured) m
  | _ => none
theorem callV_fn (f : FuncId) (first captured args : List AV) : callV C (.fn f first captured) args m = C f (first ++ args ++ captured) m := Eq.trans rfl rfl
theorem aop_call (f : X) (args : List X) : aop C g m (.call f args) = callV C (g f) (args.map g) m := by
  rw [aop_of_heavy rfl]
  rfl

def makeSliceV (H : List Blk) (e : Option Nat) (sz bytes : Nat) (zero : List AV) (len cap : AV) : Option (AV × Mem) :=
  match len, cap with
  | .int .i64 l, .int .i64 c => if 0 ≤ l ∧ l = c ∧ l * bytes ≤ maxBytes then
      some (.slice (some (H.length, 0)) sz l.toNat (some l.toNat), ⟨H ++ [.cells (zeros l.toNat zero) true], e⟩) else none
  | _, _ => none
theorem makeSliceV_int (sz bytes : Nat) (zero : List AV) (l c : Int) : makeSliceV H e sz bytes zero (.int .i64 l) (.int .i64 c) = if 0 ≤ l ∧ l = c ∧ l * bytes ≤ maxBytes then
      some (.slice (some (H.length, 0)) sz l.toNat (some l.toNat), ⟨H ++ [.cells (zeros l.toNat zero) true], e⟩) else none := rfl
theorem aop_makeSlice (sz bytes : Nat) (zero : List AV) (len cap : X) : aop C g ⟨H, e⟩ (.makeSlice sz bytes zero len cap) = makeSliceV H e sz bytes zero (g len) (g cap) := by
  rw [aop_of_heavy rfl]; rfl

def appendV (H : List Blk) (e : Option Nat) (str : Bool) (sz bytes : Nat) (s x : AV) : Option (AV × Mem) :=
  match s with
  | .slice none _ _ _ => match srcCells str H x with
    | some (n, cs) => if n = 0 then some (nilSlice, ⟨H, e⟩)
        else if n * bytes ≤ maxBytes ∧ cs.length = n * sz then some (.slice (some (H.length, 0)) sz n none, ⟨H ++ [.cells cs true], e⟩) else none
    | none => none
  | .slice (some (b, o)) sz' n cap => match H[b]?, srcCells str H x with
    | some (.cells old wr), some (k, cs) =>
      if sz' = sz ∧ (n + k) * bytes ≤ maxBytes ∧ cs.length = k * sz ∧ o + n * sz ≤ old.length then
        if cap = some 0 ∧ 0 < k then some (.slice (some (H.length, 0)) sz (n + k) none, ⟨H ++ [.cells cs true], e⟩)
        else if wr then some (.slice (some (H.length, 0)) sz (n + k) none, ⟨H.set b .dead ++ [.cells ((old.drop o).take (n * sz) ++ cs) true], e⟩)
        else none
      else none
    | _, _ => none
  | _ => none
theorem aop_append (str : Bool) (sz bytes : Nat) (s x : X) : aop C g ⟨H, e⟩ (.append str sz bytes s x) = appendV H e str sz bytes (g s) (g x) := by
  rw [aop_of_heavy rfl]; rfl

theorem binop_add (k : IntKind) (a b : Int) : binop 0 .add (.int k a) (.int k b) = some (.int k (k.wrap (a + b))) := by simp [binop, intOp]
theorem binop_sub (k : IntKind) (a b : Int) : binop 0 .sub (.int k a) (.int k b) = some (.int k (k.wrap (a - b))) := by simp [binop, intOp]
theorem binop_mul (k : IntKind) (a b : Int) : binop 0 .mul (.int k a) (.int k b) = some (.int k (k.wrap (a * b))) := by simp [binop, intOp]
theorem binop_quo (k : IntKind) (a b : Int) : binop 0 .quo (.int k a) (.int k b) = if b = 0 then none else some (.int k (k.wrap (a.tdiv b))) := by simp [binop, intOp]
theorem binop_rem (k : IntKind) (a b : Int) : binop 0 .rem (.int k a) (.int k b) = if b = 0 then none else some (.int k (a.tmod b)) := by simp [binop, intOp]
theorem binop_eql (k : IntKind) (a b : Int) : binop 0 .eql (.int k a) (.int k b) = some (.bool (decide (a = b))) := by simp [binop, intOp]
theorem binop_neq (k : IntKind) (a b : Int) : binop 0 .neq (.int k a) (.int k b) = some (.bool (!decide (a = b))) := by simp [binop, intOp]
theorem binop_lss (k : IntKind) (a b : Int) : binop 0 .lss (.int k a) (.int k b) = some (.bool (decide (a < b))) := by simp [binop, intOp]
theorem binop_leq (k : IntKind) (a b : Int) : binop 0 .leq (.int k a) (.int k b) = some (.bool (decide (a ≤ b))) := by simp [binop, intOp]
theorem binop_gtr (k : IntKind) (a b : Int) : binop 0 .gtr (.int k a) (.int k b) = some (.bool (decide (b < a))) := by simp [binop, intOp]
theorem binop_geq (k : IntKind) (a b : Int) : binop 0 .geq (.int k a) (.int k b) = some (.bool (decide (b ≤ a))) := by simp [binop, intOp]
def shlI (k : IntKind) (a b : Int) : Int := k.wrap (a * 2 ^ (min b.toNat k.bits))
def shrI (k : IntKind) (a b : Int) : Int := a.fdiv (2 ^ (min b.toNat k.bits))
def andI (k : IntKind) (a b : Int) : Int := k.wrap (BitVec.ofInt k.bits a &&& BitVec.ofInt k.bits b).toNat
def orI (k : IntKind) (a b : Int) : Int := k.wrap (BitVec.ofInt k.bits a ||| BitVec.ofInt k.bits b).toNat
def xorI (k : IntKind) (a b : Int) : Int := k.wrap (BitVec.ofInt k.bits a ^^^ BitVec.ofInt k.bits b).toNat
def andNotI (k : IntKind) (a b : Int) : Int := k.wrap (BitVec.ofInt k.bits a &&& ~~~BitVec.ofInt k.bits b).toNat
theorem binop_shl (k k' : IntKind) (a b : Int) : binop 0 .shl (.int k a) (.int k' b) = if b < 0 then none else some (.int k (shlI k a b)) := by simp [binop, intOp, shlI]
theorem binop_shr (k k' : IntKind) (a b : Int) : binop 0 .shr (.int k a) (.int k' b) = if b < 0 then none else some (.int k (shrI k a b)) := by simp [binop, intOp, shrI]
theorem binop_band (k : IntKind) (a b : Int) : binop 0 .and (.int k a) (.int k b) = some (.int k (andI k a b)) := by simp [binop, intOp, andI]
theorem binop_bor (k : IntKind) (a b : Int) : binop 0 .or (.int k a) (.int k b) = some (.int k (orI k a b)) := by simp [binop, intOp, orI]
theorem binop_bxor (k : IntKind) (a b : Int) : binop 0 .xor (.int k a) (.int k b) = some (.int k (xorI k a b)) := by simp [binop, intOp, xorI]
theorem binop_bandnot (k : IntKind) (a b : Int) : binop 0 .andNot (.int k a) (.int k b) = some (.int k (andNotI k a b)) := by simp [binop, intOp, andNotI]
theorem binop_beql (a b : Bool) : binop 2 .eql (.bool a) (.bool b) = some (.bool (a == b)) := Eq.trans rfl rfl
theorem binop_bneq (a b : Bool) : binop 2 .neq (.bool a) (.bool b) = some (.bool (!(a == b))) := Eq.trans rfl rfl
theorem binop_seql (a b : ByteArray) : binop 1 .eql (.str a) (.str b) = some (.bool (decide (a = b))) := Eq.trans rfl rfl
theorem binop_sneq (a b : ByteArray) : binop 1 .neq (.str a) (.str b) = some (.bool (!decide (a = b))) := Eq.trans rfl rfl
theorem unop_neg (k : IntKind) (n : Int) : unop .neg (.int k n) = some (.int k (k.wrap (0 - n))) := Eq.trans rfl rfl
theorem unop_not (b : Bool) : unop .not (.bool b) = some (.bool !b) := Eq.trans rfl rfl

theorem setOuts_nil : setOuts tm loc [] = tm := Eq.trans rfl rfl
theorem setOuts_cons (s j : Nat) (rest : List (Nat × Nat)) : setOuts tm loc ((s, j) :: rest) = setOuts (tm.set s ((loc[j]?).getD .undef)) loc rest := Eq.trans rfl rfl

/-! memory -/
theorem cellsAt_new0 (l : List Blk) : cellsAt (H ++ l) H.length = cellsAt l 0 := by simp [cellsAt, List.getElem?_append_right]
theorem cellsAt_newk (l : List Blk) (k : Nat) : cellsAt (H ++ l) (H.length + k) = cellsAt l k := by simp [cellsAt, List.getElem?_append_right]
theorem cellsAt_cons0 (cs : List AV) (wr : Bool) (l : List Blk) : cellsAt (.cells cs wr :: l) 0 = some cs := Eq.trans rfl rfl
theorem cellsAt_consk (b : Blk) (l : List Blk) (k : Nat) : cellsAt (b :: l) (k + 1) = cellsAt l k := Eq.trans rfl rfl
theorem cellsAt_old {b : Nat} {cs : List AV} (l : List Blk) (h : cellsAt H b = some cs) : cellsAt (H ++ l) b = some cs := by
  unfold cellsAt at *
  cases hb : H[b]? with
  | none => rw [hb] at h; cases h
  | some x =>
    have hlt := (List.getElem?_eq_some_iff.mp hb).1
    rw [List.getElem?_append_left hlt, hb]
    rw [hb] at h
    exact h

def partOf (agg : Bool) (cs : Option (List AV)) (o sz : Nat) : Option AV :=
  match cs with
  | some cs => part agg cs o sz
  | none => none
theorem partOf_some (agg : Bool) (cs : List AV) (o sz : Nat) : partOf agg (some cs) o sz = part agg cs o sz := Eq.trans rfl rfl
theorem loadAt_ptr (agg : Bool) (sz b o : Nat) (L : List Blk) : loadAt L agg sz (.ptr (some (b, o))) = partOf agg (cellsAt L b) o sz := by
  have h : loadAt L agg sz (.ptr (some (b, o))) = match cellsAt L b with
    | none => none
    | some cs => if agg then (if o + sz ≤ cs.length then some (.agg ((cs.drop o).take sz)) else none) else cs[o]? := rfl
  rw [h]
  cases cellsAt L b <;> rfl
theorem part_false (cs : List AV) (o sz : Nat) : part false cs o sz = cs[o]? := Eq.trans rfl rfl
theorem part_true (cs : List AV) (o sz : Nat) : part true cs o sz = if o + sz ≤ cs.length then some (.agg ((cs.drop o).take sz)) else none := Eq.trans rfl rfl
theorem part_f0 (c : AV) (cs : List AV) (sz : Nat) : part false (c :: cs) 0 sz = some c := Eq.trans rfl rfl
theorem part_fk (c : AV) (cs : List AV) (k sz : Nat) : part false (c :: cs) (k + 1) sz = part false cs k sz := Eq.trans rfl rfl
theorem part_t0 (c : AV) (cs : List AV) (sz : Nat) : part true (c :: cs) 0 sz = if sz ≤ cs.length + 1 then some (.agg ((c :: cs).take sz)) else none := by
  rw [part_true]; simp
theorem part_tk (c : AV) (cs : List AV) (k sz : Nat) : part true (c :: cs) (k + 1) sz = part true cs k sz := by
  rw [part_true, part_true]
  have : (k + 1 + sz ≤ (c :: cs).length) ↔ (k + sz ≤ cs.length) := by simp; omega
  simp only [this, List.drop_succ_cons]

theorem cellsOf_agg (cs : List AV) : cellsOf (.agg cs) = some cs := Eq.trans rfl rfl
theorem cellsOf_int (k : IntKind) (n : Int) : cellsOf (.int k n) = some [.int k n] := Eq.trans rfl rfl
theorem cellsOf_bool (b : Bool) : cellsOf (.bool b) = some [.bool b] := Eq.trans rfl rfl
theorem cellsOf_str (s : ByteArray) : cellsOf (.str s) = some [.str s] := Eq.trans rfl rfl
theorem cellsOf_ptr (p : Option (Nat × Nat)) : cellsOf (.ptr p) = some [.ptr p] := Eq.trans rfl rfl
theorem cellsOf_slice (p : Option (Nat × Nat)) (sz n : Nat) (c : Option Nat) : cellsOf (.slice p sz n c) = some [.slice p sz n c] := Eq.trans rfl rfl
theorem cellsOf_fn (f : FuncId) (a b : List AV) : cellsOf (.fn f a b) = some [.fn f a b] := Eq.trans rfl rfl

/-! two ways that meet again -/
theorem merge_normal (c : Prop) [Decidable c] (t t' : List AV) (m : Mem) : (if c then some (Ex.normal, (⟨t, m⟩ : St)) else some (Ex.normal, ⟨t', m⟩)) = some (Ex.normal, ⟨if c then t else t', m⟩) := by split <;> rfl
theorem merge_cons (c : Prop) [Decidable c] (a b : AV) (az bs : List AV) : (if c then a :: az else b :: bs) = (if c then a else b) :: (if c then az else bs) := by split <;> rfl
theorem merge_bool (c : Prop) [Decidable c] (a b : Bool) : (if c then AV.bool a else AV.bool b) = AV.bool (if c then a else b) := by split <;> rfl
theorem merge_int (c : Prop) [Decidable c] (k : IntKind) (a b : Int) : (if c then AV.int k a else AV.int k b) = AV.int k (if c then a else b) := by split <;> rfl

/-! the end of a call -/
theorem finRun_eq (F : AFun) (m : Mem) (st : St) : finRun F m st = match resultList st.tm st.m.H F.results with
  | some vs => finish F.mode m.H.length m.esc (tupled vs) st.m
  | none => none := rfl
theorem resultList_nil (L : List Blk) : resultList tm L [] = some [] := Eq.trans rfl rfl
def consV (a : Option AV) (az : Option (List AV)) : Option (List AV) :=
  match a, az with
  | some v, some vs => some (v :: vs)
  | _, _ => none
theorem consV_some (v : AV) (vs : List AV) : consV (some v) (some vs) = some (v :: vs) := Eq.trans rfl rfl
theorem resultList_tmp (L : List Blk) (s : Nat) (rs : List AR) : resultList tm L (.tmp s :: rs) = consV (some ((tm[s]?).getD .undef)) (resultList tm L rs) := by
  rw [resultList]; cases resultList tm L rs <;> rfl
theorem resultList_cell (L : List Blk) (s : Nat) (agg : Bool) (sz : Nat) (rs : List AR) : resultList tm L (.cell s agg sz :: rs) = consV (loadAt L agg sz ((tm[s]?).getD .undef)) (resultList tm L rs) := by
  rw [resultList]; cases resultList tm L rs <;> simp only [resultOf] <;> cases loadAt L agg sz ((tm[s]?).getD .undef) <;> rfl

def finV (F : AFun) (m : Mem) (vs : Option (List AV)) (m' : Mem) : Option (AV × Mem) :=
  match vs with
  | some vs => finish F.mode m.H.length m.esc (tupled vs) m'
  | none => none
theorem finRun_finV (F : AFun) (m : Mem) (st : St) : finRun F m st = finV F m (resultList st.tm st.m.H F.results) st.m := Eq.trans rfl rfl
theorem finV_some (F : AFun) (m : Mem) (vs : List AV) (m' : Mem) : finV F m (some vs) m' = finish F.mode m.H.length m.esc (tupled vs) m' := Eq.trans rfl rfl
theorem finish_zero (v : AV) (lim : Nat) (e0 e1 : Option Nat) (L : List Blk) : finish 0 lim e0 v ⟨L, e1⟩ = some (v, ⟨L, joinEsc e0 e1⟩) := Eq.trans rfl rfl
theorem finish_one (v : AV) (e0 : Option Nat) (l : List Blk) (h : v.under H.length = true) : finish 1 H.length e0 v ⟨H ++ l, none⟩ = some (v, ⟨H, e0⟩) := by
  simp [finish, h, clean]
theorem finish_one' (v : AV) (e0 : Option Nat) (h : v.under H.length = true) : finish 1 H.length e0 v ⟨H, none⟩ = some (v, ⟨H, e0⟩) := by
  simp [finish, h, clean]
theorem finish_two_slice (sz n : Nat) (c : Option Nat) (cs : List AV) (wr : Bool) (e0 : Option Nat) (h : (cs.all fun c => c.under H.length) = true) :
    finish 2 H.length e0 (.slice (some (H.length, 0)) sz n c) ⟨H ++ [.cells cs wr], none⟩ = some (.slice (some (H.length, 0)) sz n c, ⟨H ++ [.cells cs wr], e0⟩) := by
  have hr : dedup (AV.roots H.length (.slice (some (H.length, 0)) sz n c)) = [H.length] := by simp [AV.roots, dedup]
  unfold finish
  simp only [hr]
  have h2 : ([H.length].all fun b => flatBlk H.length (H ++ [Blk.cells cs wr])[b]?) = true := by
    simp [flatBlk, List.getElem?_append_right]
    simpa using h
  simp only [clean, h2, and_self, if_true]
  simp [AV.rename, renum, List.getElem?_append_right]
theorem finish_two_at {G : List Blk} {j sz n o : Nat} {c : Option Nat} {cs : List AV} {wr : Bool} (e0 : Option Nat) (hG : G[j]? = some (.cells cs wr)) (h : (cs.all fun c => c.under H.length) = true) :
    finish 2 H.length e0 (.slice (some (H.length + j, o)) sz n c) ⟨H ++ G, none⟩ = some (.slice (some (H.length, o)) sz n c, ⟨H ++ [.cells cs wr], e0⟩) := by
  have hlt : ¬ H.length + j < H.length := by omega
  have hr : dedup (AV.roots H.length (.slice (some (H.length + j, o)) sz n c)) = [H.length + j] := by
    unfold AV.roots
    rw [if_neg hlt]
    rfl
  have hb : (H ++ G)[H.length + j]? = some (.cells cs wr) := by rw [List.getElem?_append_right (by omega)]; simpa using hG
  unfold finish
  simp only [hr]
  have h2 : ([H.length + j].all fun b => flatBlk H.length (H ++ G)[b]?) = true := by
    simp only [List.all_cons, List.all_nil, Bool.and_true, hb, flatBlk]
    exact h
  simp only [clean, h2, and_self, if_true]
  simp [AV.rename, renum, hb, hlt]
theorem tupled_one (v : AV) : tupled [v] = v := Eq.trans rfl rfl
theorem tupled_nil : tupled [] = .tup [] := Eq.trans rfl rfl
theorem tupled_two (a b : AV) (vs : List AV) : tupled (a :: b :: vs) = .tup (a :: b :: vs) := Eq.trans rfl rfl
theorem under_int (n : Nat) (k : IntKind) (x : Int) : (AV.int k x).under n = true := by simp [AV.under]
theorem under_bool (n : Nat) (x : Bool) : (AV.bool x).under n = true := by simp [AV.under]
theorem under_str (n : Nat) (x : ByteArray) : (AV.str x).under n = true := by simp [AV.under]
theorem under_agg (n : Nat) (x : List AV) : (AV.agg x).under n = AV.under.go n x := by simp [AV.under]
theorem under_tup (n : Nat) (x : List AV) : (AV.tup x).under n = AV.under.go n x := by simp [AV.under]
theorem under_cons (n : Nat) (a : AV) (x : List AV) : AV.under.go n (a :: x) = (a.under n && AV.under.go n x) := Eq.trans rfl rfl
theorem under_nil (n : Nat) : AV.under.go n [] = true := Eq.trans rfl rfl

theorem blkAt_new0 (l : List Blk) : (H ++ l)[H.length]? = l[0]? := by simp [List.getElem?_append_right]
theorem blkAt_newk (l : List Blk) (k : Nat) : (H ++ l)[H.length + k]? = l[k]? := by simp [List.getElem?_append_right]
theorem set_new0 (l : List Blk) (b : Blk) : (H ++ l).set H.length b = H ++ l.set 0 b := by simp [List.set_append_right]
theorem set_newk (l : List Blk) (b : Blk) (k : Nat) : (H ++ l).set (H.length + k) b = H ++ l.set k b := by simp [List.set_append_right]

def storeAt (H : List Blk) (e : Option Nat) (b : Nat) (blk : Option Blk) (sz o : Nat) (new : Option (List AV)) : Option (AV × Mem) :=
  match new, blk with
  | some new, some (Blk.cells cs true) => if new.length = sz ∧ 0 < sz ∧ o + sz ≤ cs.length then
        some (.tup [], ⟨H.set b (.cells (setRange cs o new) true), if (new.all fun v => v.under (b + 1)) then e else minEsc e b⟩) else none
  | _, _ => none
theorem storeV_ptr (L : List Blk) (sz b o : Nat) (x : AV) : storeV L e sz (.ptr (some (b, o))) x = storeAt L e b L[b]? sz o (cellsOf x) := by
  unfold storeV storeAt
  cases cellsOf x with
  | none => rfl
  | some new =>
    simp only []
    cases L[b]? with
    | none => rfl
    | some B => cases B with
      | dead => rfl
      | mp es => rfl
      | cells cs wr => cases wr <;> rfl
theorem storeAt_cells (L : List Blk) (b : Nat) (cs new : List AV) (sz o : Nat) : storeAt L e b (some (.cells cs true)) sz o (some new) =
    if new.length = sz ∧ 0 < sz ∧ o + sz ≤ cs.length then some (.tup [], ⟨L.set b (.cells (setRange cs o new) true), if (new.all fun v => v.under (b + 1)) then e else minEsc e b⟩) else none := Eq.trans rfl rfl
theorem setRange_0 (c : AV) (cs : List AV) (x : AV) (xs : List AV) : setRange (c :: cs) 0 (x :: xs) = x :: setRange cs 0 xs := by simp [setRange]
theorem setRange_k (c : AV) (cs : List AV) (k : Nat) (xs : List AV) : setRange (c :: cs) (k + 1) xs = c :: setRange cs k xs := by
  simp [setRange, Nat.add_right_comm]
theorem setRange_nil (cs : List AV) : setRange cs 0 [] = cs := by simp [setRange]
theorem all_cons (p : AV → Bool) (c : AV) (cs : List AV) : (c :: cs).all p = (p c && cs.all p) := rfl
theorem all_nil (p : AV → Bool) : ([] : List AV).all p = true := Eq.trans rfl rfl

theorem wrap64 {x : Int} (h1 : -9223372036854775808 ≤ x) (h2 : x ≤ 9223372036854775807) : IntKind.i64.wrap x = x := by
  have : IntKind.i64.wrap x = x := by
    unfold IntKind.wrap
    simp [IntKind.signed, IntKind.bits]
    omega
  exact this

/-! maps -/
def mapAt (H : List Blk) (b : Nat) : Option (List (List Int × Int)) :=
  match H[b]? with
  | some (.mp es) => some es
  | _ => none
def getV (ok : Bool) (es : Option (List (List Int × Int))) (z : Option (List Int)) : Option AV :=
  match es, z with
  | some es, some z => some (if ok then .tup [.int .i64 ((mget es z).getD 0), .bool (mget es z).isSome] else .int .i64 ((mget es z).getD 0))
  | _, _ => none
theorem getV_some (ok : Bool) (es : List (List Int × Int)) (z : List Int) : getV ok (some es) (some z) = some (if ok then .tup [.int .i64 ((mget es z).getD 0), .bool (mget es z).isSome] else .int .i64 ((mget es z).getD 0)) := Eq.trans rfl rfl
def getMapV (H : List Blk) (ok : Bool) (v k : AV) : Option AV :=
  match v with
  | .map (some b) => getV ok (mapAt H b) (keyZ k)
  | _ => none
theorem getMapV_map (L : List Blk) (ok : Bool) (b : Nat) (k : AV) : getMapV L ok (.map (some b)) k = getV ok (mapAt L b) (keyZ k) := Eq.trans rfl rfl
theorem memop_getMap (L : List Blk) (ok : Bool) (x k : X) : memop g L (.getMap ok x k) = getMapV L ok (g x) (g k) := by
  simp only [memop, getMapV, mapAt]
  generalize g x = v
  generalize keyZ (g k) = z
  cases v with
  | map p =>
    cases p with
    | none => rfl
    | some b =>
      cases z with
      | none => simp only [getV]; cases L[b]? with
        | none => rfl
        | some B => cases B <;> rfl
      | some z => simp only []; cases L[b]? with
        | none => rfl
        | some B => cases B <;> rfl
  | _ => rfl
def lenMapV (H : List Blk) (v : AV) : Option AV :=
  match v with
  | .map (some b) => (mapAt H b).map fun es => .int .i64 es.length
  | _ => none
theorem lenMapV_map (L : List Blk) (b : Nat) : lenMapV L (.map (some b)) = (mapAt L b).map fun es => .int .i64 es.length := Eq.trans rfl rfl
theorem memop_lenMap (L : List Blk) (x : X) : memop g L (.lenMap x) = lenMapV L (g x) := by
  simp only [memop, lenMapV, mapAt]
  generalize g x = v
  cases v with
  | map p =>
    cases p with
    | none => rfl
    | some b => simp only []; cases L[b]? with
      | none => rfl
      | some B => cases B <;> rfl
  | _ => rfl
def putV (H : List Blk) (e : Option Nat) (b : Nat) (es : Option (List (List Int × Int))) (z : Option (List Int)) (v : AV) : Option (AV × Mem) :=
  match es, z, v with
  | some es, some z, .int .i64 n => some (.tup [], ⟨H.set b (.mp (mput es z n)), e⟩)
  | _, _, _ => none
theorem putV_some (L : List Blk) (b : Nat) (es : List (List Int × Int)) (z : List Int) (n : Int) : putV L e b (some es) (some z) (.int .i64 n) = some (.tup [], ⟨L.set b (.mp (mput es z n)), e⟩) := Eq.trans rfl rfl
def putMapV (H : List Blk) (e : Option Nat) (x k v : AV) : Option (AV × Mem) :=
  match x with
  | .map (some b) => putV H e b (mapAt H b) (keyZ k) v
  | _ => none
theorem putMapV_map (L : List Blk) (b : Nat) (k v : AV) : putMapV L e (.map (some b)) k v = putV L e b (mapAt L b) (keyZ k) v := Eq.trans rfl rfl
theorem heavy_putMap (x k v : X) : heavy C g ⟨H, e⟩ (.putMap x k v) = putMapV H e (g x) (g k) (g v) := by
  simp only [heavy, putMapV, mapAt]
  generalize g x = a
  generalize keyZ (g k) = z
  generalize g v = y
  cases a with
  | map p =>
    cases p with
    | none => rfl
    | some b =>
      simp only [putV]
      cases z with
      | none => simp only []; cases H[b]? with
        | none => rfl
        | some B => cases B <;> rfl
      | some z =>
        cases y with
        | int kk n => cases kk with
          | i64 => simp only []; cases H[b]? with
            | none => rfl
            | some B => cases B <;> rfl
          | _ => simp only []; cases H[b]? with
            | none => rfl
            | some B => cases B <;> rfl
        | _ => simp only []; cases H[b]? with
          | none => rfl
          | some B => cases B <;> rfl
  | _ => rfl
theorem aop_newMap : aop C g ⟨H, e⟩ .newMap = some (.map (some H.length), ⟨H ++ [.mp []], e⟩) := by
  rw [aop_of_heavy rfl]; rfl
theorem aop_getMap (ok : Bool) (x k : X) : aop C g m (.getMap ok x k) = valOf m (getMapV m.H ok (g x) (g k)) := by
  rw [aop_of_memop rfl, memop_getMap]
theorem aop_lenMap (x : X) : aop C g m (.lenMap x) = valOf m (lenMapV m.H (g x)) := by
  rw [aop_of_memop rfl, memop_lenMap]
theorem aop_putMap (x k v : X) : aop C g ⟨H, e⟩ (.putMap x k v) = putMapV H e (g x) (g k) (g v) := by
  rw [aop_of_heavy rfl, heavy_putMap]
theorem keyZ_three {a b c : Int} (ha : in64 a = true) (hb : in64 b = true) (hc : in64 c = true) : keyZ (.agg [.int .i64 a, .int .i64 b, .int .i64 c]) = some [a, b, c] := by
  simp [keyZ, intsL, ha, hb, hc]
theorem mapAt_of {L : List Blk} {b : Nat} {es : List (List Int × Int)} (h : L[b]? = some (.mp es)) : mapAt L b = some es := by
  unfold mapAt; rw [h]
theorem mapAt_new0 (l : List Blk) : mapAt (H ++ l) H.length = mapAt l 0 := by simp [mapAt, List.getElem?_append_right]
theorem mapAt_newk (l : List Blk) (k : Nat) : mapAt (H ++ l) (H.length + k) = mapAt l k := by simp [mapAt, List.getElem?_append_right]
theorem mapAt_cons0 (es : List (List Int × Int)) (l : List Blk) : mapAt (.mp es :: l) 0 = some es := Eq.trans rfl rfl
theorem mapAt_consk (b : Blk) (l : List Blk) (k : Nat) : mapAt (b :: l) (k + 1) = mapAt l k := Eq.trans rfl rfl
end
attribute [go_sem] aop_newMap aop_getMap getMapV_map getV_some aop_lenMap lenMapV_map aop_putMap putMapV_map putV_some memop_getMap memop_lenMap mapAt_new0 mapAt_newk mapAt_cons0 mapAt_consk
attribute [go_sem] Nat.mul_one
attribute [go_sem] run_seq run_cond run_block run_region run_draw run_skip run_exit run_ret thenRun_normal thenRun_ret thenRun_exit thenRun_none thenRun_ite inBlock_normal inBlock_ret inBlock_exit inBlock_none inBlock_ite condOf_bool pickRun_some outRun_some outRun_none outRun_ite endCall_normal endCall_ret endCall_exit endCall_none endCall_ite aops_nil aops_cons aops_guard opThen_some opThen_none opThen_ite guardP_true guardP_false guardP_some guardP_ite guardThen_some guardThen_ite guardOf_true guardOf_false guardOf_tup dops_nil dops_cons dops_again dops_guard dops_guard_again toldAnew_nil toldAnew_cons toldAnew_guard memop_load get_t get_l get_c valOf_some valOf_none valOf_ite aop_mv aop_bin pickV_bool aop_pick aop_un aop_makeFunc convV_int aop_conv eqCellsV_agg aop_eqCells fieldAddrV_ptr aop_fieldAddr fieldV_agg aop_field indexAddrSV_slice aop_indexAddrS indexAddrAV_ptr aop_indexAddrA indexAV_agg aop_indexA indexSV_str aop_indexS extractV_tup aop_extract lenV_slice aop_len lenStrV_str aop_lenStr aop_lenA max2V_int aop_max2 min2V_int aop_min2 aop_build aop_load aop_alloc boxV_some aop_box buildSliceV_some aop_buildSlice aop_store callV_fn aop_call makeSliceV_int aop_makeSlice aop_append binop_add binop_sub binop_mul binop_quo binop_rem binop_eql binop_neq binop_lss binop_leq binop_gtr binop_geq binop_shl binop_shr binop_band binop_bor binop_bxor binop_bandnot binop_beql binop_bneq binop_seql binop_sneq unop_neg unop_not setOuts_nil setOuts_cons cellsAt_new0 cellsAt_newk cellsAt_cons0 cellsAt_consk partOf_some loadAt_ptr part_f0 part_fk part_t0 part_tk blkAt_new0 blkAt_newk set_new0 set_newk storeV_ptr storeAt_cells setRange_0 setRange_k setRange_nil all_cons all_nil cellsOf_agg cellsOf_int cellsOf_bool cellsOf_str cellsOf_ptr cellsOf_slice cellsOf_fn merge_normal merge_cons merge_bool merge_int resultList_nil consV_some resultList_tmp resultList_cell finRun_finV finV_some finish_zero finish_one finish_one' finish_two_slice tupled_one tupled_nil tupled_two under_int under_bool under_str under_agg under_tup under_cons under_nil List.map_cons List.map_nil List.getElem?_cons_zero List.getElem?_cons_succ List.getElem?_nil Option.getD_some Option.getD_none List.nil_append List.cons_append List.append_nil List.append_assoc List.set_cons_zero List.set_cons_succ List.length_cons List.length_nil List.length_append Nat.zero_add Nat.add_zero List.take_succ_cons List.take_zero List.drop_succ_cons List.drop_zero if_true if_false Bool.not_true Bool.not_false Bool.true_eq_false Bool.false_and Bool.and_false Bool.or_true Bool.or_false Bool.true_or Bool.false_or Nat.lt_add_one Nat.succ_pos Bool.if_false_right Bool.if_true_left Bool.if_true_right Bool.if_false_left Bool.decide_eq_true Int.toNat_natCast Int.natCast_nonneg Int.ofNat_lt ite_self Bool.true_and Bool.and_true Bool.false_eq_true Bool.not_eq_true' decide_eq_true_eq true_and and_true Option.map_some Option.map_none

end Go.Proofs.Ythkgpblohjpcdaa.Slim

/- Rows of loads: how they lie in memory, and the laws' own small functions. -/
namespace Go.Proofs.Ythkgpblohjpcdaa.Slim
open Go
set_option linter.unusedSimpArgs false
set_option linter.unusedVariables false

abbrev Ld := Int × Int
def encL : List Ld → List AV
  | [] => []
  | l :: ls => .int .i64 l.1 :: .int .i64 l.2 :: encL ls

theorem encL_length : ∀ ls : List Ld, (encL ls).length = ls.length * 2
  | [] => rfl
  | l :: ls => by simp [encL, encL_length ls]; omega

theorem encL_append : ∀ a b : List Ld, encL (a ++ b) = encL a ++ encL b
  | [], b => rfl
  | l :: a, b => by simp [encL, encL_append a b]

theorem part_encL {ls : List Ld} {i : Nat} {l : Ld} (h : ls[i]? = some l) : part true (encL ls) (i * 2) 2 = some (.agg [.int .i64 l.1, .int .i64 l.2]) := by
  induction ls generalizing i with
  | nil => simp at h
  | cons a ls ih =>
    cases i with
    | zero => simp at h; subst h; simp [encL, part]
    | succ i =>
      simp at h
      rw [show (i + 1) * 2 = i * 2 + 1 + 1 by omega, encL, part_tk, part_tk]
      exact ih h
theorem part_encL0 {ls : List Ld} {i : Nat} {l : Ld} (sz : Nat) (h : ls[i]? = some l) : part false (encL ls) (i * 2) sz = some (.int .i64 l.1) := by
  induction ls generalizing i with
  | nil => simp at h
  | cons a ls ih =>
    cases i with
    | zero => simp at h; subst h; simp [encL, part]
    | succ i =>
      simp at h
      rw [show (i + 1) * 2 = i * 2 + 1 + 1 by omega, encL, part_fk, part_fk]
      exact ih h
theorem part_encL1 {ls : List Ld} {i : Nat} {l : Ld} (sz : Nat) (h : ls[i]? = some l) : part false (encL ls) (i * 2 + 1) sz = some (.int .i64 l.2) := by
  induction ls generalizing i with
  | nil => simp at h
  | cons a ls ih =>
    cases i with
    | zero => simp at h; subst h; simp [encL, part]
    | succ i =>
      simp at h
      rw [show (i + 1) * 2 + 1 = i * 2 + 1 + 1 + 1 by omega, encL, part_fk, part_fk]
      exact ih h

abbrev slL (b n : Nat) (c : Option Nat) : AV := .slice (some (b, 0)) 2 n c

theorem cells_mono {H : List Blk} {b : Nat} {cs : List AV} (h : cellsAt H b = some cs) (G : List Blk) : cellsAt (H ++ G) b = some cs := cellsAt_old G h

theorem wrap_succ {i : Nat} (h : i < 9223372036854775807) : IntKind.i64.wrap ((i : Int) + 1) = ((i + 1 : Nat) : Int) := by
  rw [wrap64 (by omega) (by omega)]; omega

variable {pr : Prims} {H : List Blk} {e : Option Nat}

end Go.Proofs.Ythkgpblohjpcdaa.Slim

/- The reference's and the program's small functions on rows. -/
namespace Go.Proofs.Ythkgpblohjpcdaa.Slim
open Go
set_option linter.unusedSimpArgs false
set_option linter.unusedVariables false

variable {pr : Prims} {H : List Blk} {e : Option Nat}

theorem e_i_within (x a b : Int) : call T pr f_i_within [.int .i64 x, .int .i64 a, .int .i64 b] ⟨H, e⟩ = some (.bool (decide (a ≤ x) && decide (x ≤ b)), ⟨H, e⟩) := by
  rw [call_eq t_i_within]
  simp +contextual only [a_i_within, c_i_within, go_sem, entry, joinEsc, if_pos, reduceIte, Nat.reduceAdd, Nat.reduceLeDiff, Nat.reduceLT, Nat.reduceEqDiff]

theorem e_s_l1In (x a b : Int) : call T pr f_s_l1In [.int .i64 x, .int .i64 a, .int .i64 b] ⟨H, e⟩ = some (.bool (decide (a ≤ x) && decide (x ≤ b)), ⟨H, e⟩) := by
  rw [call_eq t_s_l1In]
  simp +contextual only [a_s_l1In, c_s_l1In, go_sem, entry, joinEsc, if_pos, reduceIte, Nat.reduceAdd, Nat.reduceLeDiff, Nat.reduceLT, Nat.reduceEqDiff]

theorem e_s_l2In (x : Int) : call T pr f_s_l2In [.int .i64 x] ⟨H, e⟩ = some (.bool (decide (0 ≤ x) && decide (x ≤ 60)), ⟨H, e⟩) := by
  rw [call_eq t_s_l2In]
  simp +contextual only [a_s_l2In, c_s_l2In, e_s_l1In, go_sem, entry, joinEsc, if_pos, reduceIte, Nat.reduceAdd, Nat.reduceLeDiff, Nat.reduceLT, Nat.reduceEqDiff]

theorem e_i_isPlace (x : Int) : call T pr f_i_isPlace [.int .i64 x] ⟨H, e⟩ = some (.bool (decide (0 ≤ x) && decide (x ≤ 60)), ⟨H, e⟩) := by
  rw [call_eq t_i_isPlace]
  simp +contextual only [a_i_isPlace, c_i_isPlace, e_i_within, go_sem, entry, joinEsc, if_pos, reduceIte, Nat.reduceAdd, Nat.reduceLeDiff, Nat.reduceLT, Nat.reduceEqDiff]

theorem e_i_isWeight (x : Int) : call T pr f_i_isWeight [.int .i64 x] ⟨H, e⟩ = some (.bool (decide (1 ≤ x) && decide (x ≤ 99)), ⟨H, e⟩) := by
  rw [call_eq t_i_isWeight]
  simp +contextual only [a_i_isWeight, c_i_isWeight, e_i_within, go_sem, entry, joinEsc, if_pos, reduceIte, Nat.reduceAdd, Nat.reduceLeDiff, Nat.reduceLT, Nat.reduceEqDiff]

def okL (l : Ld) : Bool := (decide (0 ≤ l.1) && decide (l.1 ≤ 60)) && (decide (1 ≤ l.2) && decide (l.2 ≤ 99))
def rowOk (ls : List Ld) : Bool := decide (ls.length ≤ 12) && ls.all okL

theorem e_i_IsRow_1 (x y : Int) : call T pr f_i_IsRow_1 [.agg [.int .i64 x, .int .i64 y]] ⟨H, e⟩ = some (.bool (!okL (x, y)), ⟨H, e⟩) := by
  rw [call_eq t_i_IsRow_1]
  simp +contextual only [a_i_IsRow_1, c_i_IsRow_1, e_i_isPlace, e_i_isWeight, go_sem, entry, joinEsc, if_pos, reduceIte, Nat.reduceAdd, Nat.reduceLeDiff, Nat.reduceLT, Nat.reduceEqDiff]
  unfold okL
  by_cases h1 : (decide (0 ≤ x) && decide (x ≤ 60)) = true <;> simp [h1, finish_one, finish_one', under_bool]

theorem loop_s_l2Row {b : Nat} {c : Option Nat} {ls : List Ld} (h : cellsAt H b = some (encL ls)) :
    ∀ (k i : Nat) (y3 y4 : AV), k + i = 13 → ∃ z2 z3 z4, run T pr (.loop w_s_l2Row_1) ⟨[slL b ls.length c, .bool false, .int .i64 i, y3, y4], ⟨H, e⟩⟩ =
      some (if ((ls.drop i).take k).all okL = true then Ex.exit 0 else Ex.ret, ⟨[slL b ls.length c, .bool false, z2, z3, z4], ⟨H, e⟩⟩)
  | 0, i, y3, y4, hk => by
    have hi : i = 13 := by omega
    subst hi
    refine ⟨.int .i64 13, .bool false, y4, ?_⟩
    rw [run_loop]
    generalize run T pr (.loop w_s_l2Row_1) = R
    have h12 : ¬ ((13 : Nat) : Int) ≤ 12 := by omega
    simp +contextual only [w_s_l2Row_1, List.take_zero, List.all_nil, h12, decide_false, go_sem, entry, joinEsc, if_pos, reduceIte, Nat.reduceAdd, Nat.reduceLeDiff, Nat.reduceLT, Nat.reduceEqDiff]
    rfl
  | k + 1, i, y3, y4, hk => by
    by_cases hi : i < ls.length
    · have hl : ls[i]? = some ls[i] := List.getElem?_eq_getElem hi
      have h12 : ((i : Nat) : Int) ≤ 12 := by omega
      obtain ⟨z2, z3, z4, ih⟩ := loop_s_l2Row (c := c) h k (i + 1) (.bool true) (.bool false) (by omega)
      rw [List.drop_eq_getElem_cons hi, List.take_succ_cons, List.all_cons]
      have hok : okL ls[i] = ((decide (0 ≤ ls[i].1) && decide (ls[i].1 ≤ 60)) && (decide (1 ≤ ls[i].2) && decide (ls[i].2 ≤ 99))) := rfl
      rw [hok, run_loop]
      generalize run T pr (.loop w_s_l2Row_1) = R at ih ⊢
      cases h1 : (decide (0 ≤ ls[i].1) && decide (ls[i].1 ≤ 60)) with
      | false =>
        refine ⟨.int .i64 i, .bool true, .bool true, ?_⟩
        simp +contextual only [w_s_l2Row_1, h, hi, hl, h1, h12, part_encL0 _ hl, part_encL1 _ hl, e_s_l2In, e_s_l1In, decide_true, go_sem, entry, joinEsc, if_pos, reduceIte, Nat.reduceAdd, Nat.reduceLeDiff, Nat.reduceLT, Nat.reduceEqDiff]
      | true =>
        cases h2 : (decide (1 ≤ ls[i].2) && decide (ls[i].2 ≤ 99)) with
        | false =>
          refine ⟨.int .i64 i, .bool true, .bool true, ?_⟩
          simp +contextual only [w_s_l2Row_1, h, hi, hl, h1, h2, h12, part_encL0 _ hl, part_encL1 _ hl, e_s_l2In, e_s_l1In, decide_true, go_sem, entry, joinEsc, if_pos, reduceIte, Nat.reduceAdd, Nat.reduceLeDiff, Nat.reduceLT, Nat.reduceEqDiff]
        | true =>
          refine ⟨z2, z3, z4, ?_⟩
          simp +contextual only [w_s_l2Row_1, h, hi, hl, h1, h2, h12, part_encL0 _ hl, part_encL1 _ hl, e_s_l2In, e_s_l1In, wrap_succ (show i < 9223372036854775807 by omega), decide_true, go_sem, entry, joinEsc, if_pos, reduceIte, Nat.reduceAdd, Nat.reduceLeDiff, Nat.reduceLT, Nat.reduceEqDiff]
          exact ih
    · refine ⟨.int .i64 i, .bool false, y4, ?_⟩
      rw [run_loop]
      generalize run T pr (.loop w_s_l2Row_1) = R
      have hd : ls.drop i = [] := List.drop_eq_nil_of_le (by omega)
      simp +contextual only [w_s_l2Row_1, hd, List.take_nil, List.all_nil, hi, decide_false, go_sem, entry, joinEsc, if_pos, reduceIte, Nat.reduceAdd, Nat.reduceLeDiff, Nat.reduceLT, Nat.reduceEqDiff]

theorem e_s_l2Row {b : Nat} {c : Option Nat} {ls : List Ld} (h : cellsAt H b = some (encL ls)) : call T pr f_s_l2Row [slL b ls.length c] ⟨H, e⟩ = some (.bool (rowOk ls), ⟨H, e⟩) := by
  obtain ⟨z2, z3, z4, hl⟩ := loop_s_l2Row (pr := pr) (e := none) (c := c) h 13 0 .undef .undef rfl
  rw [call_eq t_s_l2Row]
  have h0 : ((0 : Nat) : Int) = 0 := rfl
  rw [h0] at hl
  simp +contextual only [a_s_l2Row, c_s_l2Row, hl, List.drop_zero, go_sem, entry, joinEsc, if_pos, reduceIte, Nat.reduceAdd, Nat.reduceLeDiff, Nat.reduceLT, Nat.reduceEqDiff]
  have hr : rowOk ls = (decide (ls.length ≤ 12) && (ls.take 13).all okL) := by
    unfold rowOk
    by_cases h12 : ls.length ≤ 12
    · rw [List.take_of_length_le (by omega)]
    · simp [h12]
  rw [hr]
  have hi : ((ls.length : Nat) : Int) ≤ 12 ↔ ls.length ≤ 12 := by omega
  cases h3 : (ls.take 13).all okL <;> simp +contextual only [hi, go_sem, entry, joinEsc, if_pos, reduceIte, Nat.reduceAdd, Nat.reduceLeDiff, Nat.reduceLT, Nat.reduceEqDiff] <;> simp [finish_one']

end Go.Proofs.Ythkgpblohjpcdaa.Slim

/- Copies of rows, searches in rows, and moments. -/
namespace Go.Proofs.Ythkgpblohjpcdaa.Slim
open Go
set_option linter.unusedSimpArgs false
set_option linter.unusedVariables false

variable {pr : Prims} {H : List Blk} {e : Option Nat}

theorem under_encL (n : Nat) : ∀ ls : List Ld, ((encL ls).all fun c => c.under n) = true
  | [] => rfl
  | l :: ls => by simp [encL, AV.under, under_encL n ls]

def ArgL (H : List Blk) (av : AV) (ls : List Ld) : Prop :=
  ∃ p sz c, av = .slice p sz ls.length c ∧ ls.length ≤ maxLen ∧ (ls ≠ [] → sz = 2 ∧ ∃ b, p = some (b, 0) ∧ cellsAt H b = some (encL ls))

end Go.Proofs.Ythkgpblohjpcdaa.Slim

/- Searches in rows, and moments. -/
namespace Go.Proofs.Ythkgpblohjpcdaa.Slim
open Go
set_option linter.unusedSimpArgs false
set_option linter.unusedVariables false

variable {pr : Prims} {H : List Blk} {e : Option Nat}

theorem loop_IndexFunc {b : Nat} {c : Option Nat} {ls : List Ld} {g : FuncId} {first cap : List AV} {p : Ld → Bool} {r : AV} (h : cellsAt H b = some (encL ls)) (hn : ls.length ≤ 9223372036854775806)
    (hf : ∀ l ∈ ls, call T pr g (first ++ AV.agg [.int .i64 l.1, .int .i64 l.2] :: cap) ⟨H, e⟩ = some (.bool (p l), ⟨H, e⟩)) :
    ∀ (k i : Nat) (y3 y6 y7 : AV), k + i = ls.length → ∃ (j : Nat) (z3 z5 z6 z7 : AV), run T pr (.loop w_slices_IndexFunc_Si_Load_i_Load_1) ⟨[slL b ls.length c, .fn g first cap, r, y3, .int .i64 ls.length, .int .i64 i, y6, y7], ⟨H, e⟩⟩ =
      some (if (ls.drop i).any p = true then Ex.ret else Ex.exit 0, ⟨[slL b ls.length c, .fn g first cap, if (ls.drop i).any p = true then .int .i64 j else r, z3, .int .i64 ls.length, z5, z6, z7], ⟨H, e⟩⟩)
  | 0, i, y3, y6, y7, hk => by
    have hi : i = ls.length := by omega
    subst hi
    refine ⟨0, y3, .int .i64 ls.length, .bool false, y7, ?_⟩
    rw [run_loop]
    generalize run T pr (.loop w_slices_IndexFunc_Si_Load_i_Load_1) = R
    simp +contextual only [w_slices_IndexFunc_Si_Load_i_Load_1, Nat.lt_irrefl, decide_false, List.drop_length, List.any_nil, go_sem, entry, joinEsc, if_pos, reduceIte, Nat.reduceAdd, Nat.reduceLeDiff, Nat.reduceLT, Nat.reduceEqDiff]
  | k + 1, i, y3, y6, y7, hk => by
    have hi : i < ls.length := by omega
    have hl : ls[i]? = some ls[i] := List.getElem?_eq_getElem hi
    have hc := hf ls[i] (List.getElem_mem hi)
    rw [run_loop, List.drop_eq_getElem_cons hi, List.any_cons]
    obtain ⟨j, z3, z5, z6, z7, ih⟩ := loop_IndexFunc (c := c) (r := r) h hn hf k (i + 1) (.int .i64 i) (.bool true) (.bool false) (by omega)
    generalize run T pr (.loop w_slices_IndexFunc_Si_Load_i_Load_1) = R at ih ⊢
    cases hp : p ls[i] with
    | true =>
      refine ⟨i, .int .i64 i, .int .i64 i, .bool true, .bool true, ?_⟩
      rw [hp] at hc
      simp +contextual only [w_slices_IndexFunc_Si_Load_i_Load_1, h, hi, hl, part_encL hl, hc, decide_true, go_sem, entry, joinEsc, if_pos, reduceIte, Nat.reduceAdd, Nat.reduceLeDiff, Nat.reduceLT, Nat.reduceEqDiff]
    | false =>
      refine ⟨j, z3, z5, z6, z7, ?_⟩
      rw [hp] at hc
      simp +contextual only [w_slices_IndexFunc_Si_Load_i_Load_1, h, hi, hl, part_encL hl, hc, wrap_succ (show i < 9223372036854775807 by omega), decide_true, go_sem, entry, joinEsc, if_pos, reduceIte, Nat.reduceAdd, Nat.reduceLeDiff, Nat.reduceLT, Nat.reduceEqDiff]
      exact ih

theorem e_IndexFunc {b : Nat} {c : Option Nat} {ls : List Ld} {g : FuncId} {first cap : List AV} {p : Ld → Bool} (h : cellsAt H b = some (encL ls)) (hn : ls.length ≤ 9223372036854775806)
    (hf : ∀ l ∈ ls, call T pr g (first ++ AV.agg [.int .i64 l.1, .int .i64 l.2] :: cap) ⟨H, none⟩ = some (.bool (p l), ⟨H, none⟩)) :
    ∃ j : Nat, call T pr f_slices_IndexFunc_Si_Load_i_Load [slL b ls.length c, .fn g first cap] ⟨H, e⟩ = some (.int .i64 (if ls.any p = true then j else -1), ⟨H, e⟩) := by
  obtain ⟨j, z3, z5, z6, z7, hl⟩ := loop_IndexFunc (pr := pr) (e := none) (c := c) (r := .int .i64 0) h hn hf ls.length 0 .undef .undef .undef rfl
  refine ⟨j, ?_⟩
  have h0 : ((0 : Nat) : Int) = 0 := rfl
  rw [h0] at hl
  rw [call_eq t_slices_IndexFunc_Si_Load_i_Load]
  simp +contextual only [a_slices_IndexFunc_Si_Load_i_Load, c_slices_IndexFunc_Si_Load_i_Load, hl, go_sem, entry, joinEsc, if_pos, reduceIte, Nat.reduceAdd, Nat.reduceLeDiff, Nat.reduceLT, Nat.reduceEqDiff]
  cases hp : ls.any p <;> simp +contextual only [go_sem, entry, joinEsc, if_pos, reduceIte, Nat.reduceAdd, Nat.reduceLeDiff, Nat.reduceLT, Nat.reduceEqDiff]

theorem e_ContainsFunc {b : Nat} {c : Option Nat} {ls : List Ld} {g : FuncId} {first cap : List AV} {p : Ld → Bool} (h : cellsAt H b = some (encL ls)) (hn : ls.length ≤ 9223372036854775806)
    (hf : ∀ l ∈ ls, call T pr g (first ++ AV.agg [.int .i64 l.1, .int .i64 l.2] :: cap) ⟨H, none⟩ = some (.bool (p l), ⟨H, none⟩)) :
    call T pr f_slices_ContainsFunc_Si_Load_i_Load [slL b ls.length c, .fn g first cap] ⟨H, e⟩ = some (.bool (ls.any p), ⟨H, e⟩) := by
  obtain ⟨j, hl⟩ := e_IndexFunc (pr := pr) (e := none) (c := c) h hn hf
  rw [call_eq t_slices_ContainsFunc_Si_Load_i_Load]
  simp +contextual only [a_slices_ContainsFunc_Si_Load_i_Load, c_slices_ContainsFunc_Si_Load_i_Load, hl, go_sem, entry, joinEsc, if_pos, reduceIte, Nat.reduceAdd, Nat.reduceLeDiff, Nat.reduceLT, Nat.reduceEqDiff]
  cases hp : ls.any p <;> simp +contextual [finish_one', under_bool]

theorem e_i_IsRow {b : Nat} {c : Option Nat} {ls : List Ld} (h : cellsAt H b = some (encL ls)) : call T pr f_i_IsRow [slL b ls.length c] ⟨H, e⟩ = some (.bool (rowOk ls), ⟨H, e⟩) := by
  rw [call_eq t_i_IsRow]
  have hi : (12 : Int) < ((ls.length : Nat) : Int) ↔ 12 < ls.length := by omega
  by_cases h12 : ls.length ≤ 12
  · have hc := e_ContainsFunc (pr := pr) (e := none) (c := c) (g := f_i_IsRow_1) (first := []) (cap := []) (p := fun l => !okL l) h (by omega) (fun l _ => e_i_IsRow_1 l.1 l.2)
    have h12' : ¬ 12 < ls.length := by omega
    have hr : rowOk ls = !(ls.any fun l => !okL l) := by
      unfold rowOk
      rw [List.any_eq_not_all_not]
      simp [h12]
    rw [hr]
    simp +contextual only [a_i_IsRow, c_i_IsRow, hc, hi, h12', decide_false, go_sem, entry, joinEsc, if_pos, reduceIte, Nat.reduceAdd, Nat.reduceLeDiff, Nat.reduceLT, Nat.reduceEqDiff]
  · have h12' : 12 < ls.length := by omega
    have hr : rowOk ls = false := by unfold rowOk; simp [h12]
    rw [hr]
    simp +contextual only [a_i_IsRow, c_i_IsRow, hi, h12', decide_true, go_sem, entry, joinEsc, if_pos, reduceIte, Nat.reduceAdd, Nat.reduceLeDiff, Nat.reduceLT, Nat.reduceEqDiff]

def momStep (p : Int) (a : Int) (l : Ld) : Int := IntKind.i64.wrap (a + IntKind.i64.wrap (l.2 * IntKind.i64.wrap (l.1 - p)))
def momW (ls : List Ld) (p : Int) : Int := ls.foldl (momStep p) 0

theorem loop_i_momentAbout {b : Nat} {c : Option Nat} {ls : List Ld} {p : Int} {r : AV} (h : cellsAt H b = some (encL ls)) (hn : ls.length ≤ 9223372036854775806) :
    ∀ (k i : Nat) (a : Int) (G : List Blk) (y4 y8 : AV), k + i = ls.length → ∃ (G' : List Blk) (z4 z8 : AV), run T pr (.loop w_i_momentAbout_1) ⟨[slL b ls.length c, .int .i64 p, r, .int .i64 a, y4, slL b ls.length c, .int .i64 ls.length, .int .i64 i, y8], ⟨H ++ G, e⟩⟩ =
      some (Ex.exit 0, ⟨[slL b ls.length c, .int .i64 p, r, .int .i64 ((ls.drop i).foldl (momStep p) a), z4, slL b ls.length c, .int .i64 ls.length, .int .i64 ls.length, z8], ⟨H ++ G', e⟩⟩)
  | 0, i, a, G, y4, y8, hk => by
    have hi : i = ls.length := by omega
    subst hi
    refine ⟨G, y4, .bool false, ?_⟩
    rw [run_loop]
    generalize run T pr (.loop w_i_momentAbout_1) = R
    simp +contextual only [w_i_momentAbout_1, Nat.lt_irrefl, decide_false, List.drop_length, List.foldl_nil, go_sem, entry, joinEsc, if_pos, reduceIte, Nat.reduceAdd, Nat.reduceLeDiff, Nat.reduceLT, Nat.reduceEqDiff]
  | k + 1, i, a, G, y4, y8, hk => by
    have hi : i < ls.length := by omega
    have hl : ls[i]? = some ls[i] := List.getElem?_eq_getElem hi
    rw [run_loop, List.drop_eq_getElem_cons hi, List.foldl_cons]
    obtain ⟨G', z4, z8, ih⟩ := loop_i_momentAbout (c := c) (p := p) (r := r) h hn k (i + 1) (momStep p a ls[i]) (G ++ [.cells [.int .i64 ls[i].1, .int .i64 ls[i].2] true]) (.ptr (some (H.length + G.length, 0))) (.bool true) (by omega)
    refine ⟨G', z4, z8, ?_⟩
    generalize run T pr (.loop w_i_momentAbout_1) = R at ih ⊢
    simp +contextual only [w_i_momentAbout_1, cells_mono h, hi, hl, part_encL hl, wrap_succ (show i < 9223372036854775807 by omega), decide_true, go_sem, entry, joinEsc, if_pos, reduceIte, Nat.reduceAdd, Nat.reduceLeDiff, Nat.reduceLT, Nat.reduceEqDiff]
    exact ih

theorem e_i_momentAbout {b : Nat} {c : Option Nat} {ls : List Ld} (h : cellsAt H b = some (encL ls)) (hn : ls.length ≤ 9223372036854775806) (p : Int) : call T pr f_i_momentAbout [slL b ls.length c, .int .i64 p] ⟨H, e⟩ = some (.int .i64 (momW ls p), ⟨H, e⟩) := by
  obtain ⟨G', z4, z8, hl⟩ := loop_i_momentAbout (pr := pr) (e := none) (c := c) (p := p) (r := .int .i64 0) h hn ls.length 0 0 [] .undef .undef rfl
  have h0 : ((0 : Nat) : Int) = 0 := rfl
  rw [h0, List.append_nil, List.drop_zero] at hl
  rw [call_eq t_i_momentAbout]
  simp +contextual only [a_i_momentAbout, c_i_momentAbout, hl, go_sem, entry, joinEsc, if_pos, reduceIte, Nat.reduceAdd, Nat.reduceLeDiff, Nat.reduceLT, Nat.reduceEqDiff]
  rfl

theorem loop_s_l2Moment {b : Nat} {c : Option Nat} {ls : List Ld} {p : Int} {r : AV} (h : cellsAt H b = some (encL ls)) (hn : ls.length ≤ 9223372036854775806) :
    ∀ (k i : Nat) (a : Int) (y5 : AV), k + i = ls.length → ∃ (z5 : AV), run T pr (.loop w_s_l2Moment_1) ⟨[slL b ls.length c, .int .i64 p, r, .int .i64 a, .int .i64 i, y5], ⟨H, e⟩⟩ =
      some (Ex.exit 0, ⟨[slL b ls.length c, .int .i64 p, r, .int .i64 ((ls.drop i).foldl (momStep p) a), .int .i64 ls.length, z5], ⟨H, e⟩⟩)
  | 0, i, a, y5, hk => by
    have hi : i = ls.length := by omega
    subst hi
    refine ⟨.bool false, ?_⟩
    rw [run_loop]
    generalize run T pr (.loop w_s_l2Moment_1) = R
    simp +contextual only [w_s_l2Moment_1, Nat.lt_irrefl, decide_false, List.drop_length, List.foldl_nil, go_sem, entry, joinEsc, if_pos, reduceIte, Nat.reduceAdd, Nat.reduceLeDiff, Nat.reduceLT, Nat.reduceEqDiff]
  | k + 1, i, a, y5, hk => by
    have hi : i < ls.length := by omega
    have hl : ls[i]? = some ls[i] := List.getElem?_eq_getElem hi
    rw [run_loop, List.drop_eq_getElem_cons hi, List.foldl_cons]
    obtain ⟨z5, ih⟩ := loop_s_l2Moment (c := c) (p := p) (r := r) h hn k (i + 1) (momStep p a ls[i]) (.bool true) (by omega)
    refine ⟨z5, ?_⟩
    generalize run T pr (.loop w_s_l2Moment_1) = R at ih ⊢
    simp +contextual only [w_s_l2Moment_1, h, hi, hl, part_encL0 _ hl, part_encL1 _ hl, wrap_succ (show i < 9223372036854775807 by omega), decide_true, go_sem, entry, joinEsc, if_pos, reduceIte, Nat.reduceAdd, Nat.reduceLeDiff, Nat.reduceLT, Nat.reduceEqDiff]
    exact ih

theorem e_s_l2Moment {b : Nat} {c : Option Nat} {ls : List Ld} (h : cellsAt H b = some (encL ls)) (hn : ls.length ≤ 9223372036854775806) (p : Int) : call T pr f_s_l2Moment [slL b ls.length c, .int .i64 p] ⟨H, e⟩ = some (.int .i64 (momW ls p), ⟨H, e⟩) := by
  obtain ⟨z5, hl⟩ := loop_s_l2Moment (pr := pr) (e := none) (c := c) (p := p) (r := .int .i64 0) h hn ls.length 0 0 .undef rfl
  have h0 : ((0 : Nat) : Int) = 0 := rfl
  rw [h0, List.drop_zero] at hl
  rw [call_eq t_s_l2Moment]
  simp +contextual only [a_s_l2Moment, c_s_l2Moment, hl, go_sem, entry, joinEsc, if_pos, reduceIte, Nat.reduceAdd, Nat.reduceLeDiff, Nat.reduceLT, Nat.reduceEqDiff]
  rfl

def sideW (ls : List Ld) (a b : Int) : Int := if momW ls a < 0 then -1 else if 0 < momW ls b then 1 else 0

theorem e_s_l2Side {b : Nat} {c : Option Nat} {ls : List Ld} (h : cellsAt H b = some (encL ls)) (hn : ls.length ≤ 9223372036854775806) (p q : Int) : call T pr f_s_l2Side [slL b ls.length c, .int .i64 p, .int .i64 q] ⟨H, e⟩ = some (.int .i64 (sideW ls p q), ⟨H, e⟩) := by
  rw [call_eq t_s_l2Side]
  simp +contextual only [a_s_l2Side, c_s_l2Side, e_s_l2Moment h hn, go_sem, entry, joinEsc, if_pos, reduceIte, Nat.reduceAdd, Nat.reduceLeDiff, Nat.reduceLT, Nat.reduceEqDiff]
  unfold sideW
  split
  · rfl
  · split <;> rfl

theorem e_i_tipSide {b : Nat} {c : Option Nat} {ls : List Ld} (h : cellsAt H b = some (encL ls)) (hn : ls.length ≤ 9223372036854775806) (p q : Int) : call T pr f_i_tipSide [slL b ls.length c, .int .i64 p, .int .i64 q] ⟨H, e⟩ = some (.int .i64 (sideW ls p q), ⟨H, e⟩) := by
  rw [call_eq t_i_tipSide]
  simp +contextual only [a_i_tipSide, c_i_tipSide, e_i_momentAbout h hn, go_sem, entry, joinEsc, if_pos, reduceIte, Nat.reduceAdd, Nat.reduceLeDiff, Nat.reduceLT, Nat.reduceEqDiff]
  unfold sideW
  split
  · rfl
  · split <;> rfl

end Go.Proofs.Ythkgpblohjpcdaa.Slim

/- Beams: what rests on them. -/
namespace Go.Proofs.Ythkgpblohjpcdaa.Slim
open Go
set_option linter.unusedSimpArgs false
set_option linter.unusedVariables false

variable {pr : Prims} {H : List Blk} {e : Option Nat}

def beamOk (x a b : Int) : Bool := decide (1 ≤ x ∧ x ≤ 60 ∧ 0 ≤ a ∧ a < b ∧ b ≤ x)
abbrev bmV (x a b : Int) : AV := .agg [.int .i64 x, .int .i64 a, .int .i64 b]

theorem e_i_IsBeam (x a b : Int) : call T pr f_i_IsBeam [bmV x a b] ⟨H, e⟩ = some (.bool (beamOk x a b), ⟨H, e⟩) := by
  rw [call_eq t_i_IsBeam]
  simp +contextual only [a_i_IsBeam, c_i_IsBeam, e_i_within, go_sem, entry, joinEsc, if_pos, reduceIte, Nat.reduceAdd, Nat.reduceLeDiff, Nat.reduceLT, Nat.reduceEqDiff]
  congr 3
  simp only [beamOk, Bool.decide_and, Bool.and_assoc]

theorem e_s_l6Beam (x a b : Int) : call T pr f_s_l6Beam [bmV x a b] ⟨H, e⟩ = some (.bool (beamOk x a b), ⟨H, e⟩) := by
  rw [call_eq t_s_l6Beam]
  simp +contextual only [a_s_l6Beam, c_s_l6Beam, e_s_l1In, go_sem, entry, joinEsc, if_pos, reduceIte, Nat.reduceAdd, Nat.reduceLeDiff, Nat.reduceLT, Nat.reduceEqDiff]
  congr 3
  have key : ∀ p q : Bool, p = q ↔ (p = true ↔ q = true) := fun p q => by cases p <;> cases q <;> simp
  rw [key]
  simp only [beamOk, Bool.and_eq_true, decide_eq_true_eq]
  constructor
  · rintro ⟨⟨⟨h1, h2⟩, h3, h4⟩, h5, h6⟩
    rw [wrap64 (by omega) (by omega)] at h4
    rw [wrap64 (by omega) (by omega)] at h5
    omega
  · rintro ⟨h1, h2, h3, h4, h5⟩
    rw [wrap64 (by omega) (by omega), wrap64 (by omega) (by omega)]
    omega

theorem e_i_isOn_1 {q : Nat} {x a b : Int} (h : cellsAt H q = some [.int .i64 x, .int .i64 a, .int .i64 b]) (y z : Int) : call T pr f_i_isOn_1 [.agg [.int .i64 y, .int .i64 z], .ptr (some (q, 0))] ⟨H, e⟩ = some (.bool (decide (x < y)), ⟨H, e⟩) := by
  rw [call_eq t_i_isOn_1]
  simp +contextual only [a_i_isOn_1, c_i_isOn_1, h, cells_mono h, go_sem, entry, joinEsc, if_pos, reduceIte, Nat.reduceAdd, Nat.reduceLeDiff, Nat.reduceLT, Nat.reduceEqDiff]

def onOk (x a b : Int) (ls : List Ld) : Bool := beamOk x a b && rowOk ls && !(ls.any fun l => decide (x < l.1))

theorem e_i_isOn {q : Nat} {c : Option Nat} {ls : List Ld} (h : cellsAt H q = some (encL ls)) (hn : ls.length ≤ 9223372036854775806) (x a b : Int) : call T pr f_i_isOn [bmV x a b, slL q ls.length c] ⟨H, e⟩ = some (.bool (onOk x a b ls), ⟨H, e⟩) := by
  rw [call_eq t_i_isOn]
  have hb : cellsAt (H ++ [Blk.cells [.int .i64 x, .int .i64 a, .int .i64 b] true]) H.length = some [.int .i64 x, .int .i64 a, .int .i64 b] := by simp [cellsAt, List.getElem?_append_right]
  have hc := e_ContainsFunc (pr := pr) (e := none) (c := c) (g := f_i_isOn_1) (first := []) (cap := [.ptr (some (H.length, 0))]) (p := fun l => decide (x < l.1)) (cells_mono h [Blk.cells [.int .i64 x, .int .i64 a, .int .i64 b] true]) hn (fun l _ => e_i_isOn_1 hb l.1 l.2)
  simp +contextual only [a_i_isOn, c_i_isOn, e_i_IsBeam, e_i_IsRow (cells_mono h _), hc, go_sem, entry, joinEsc, if_pos, reduceIte, Nat.reduceAdd, Nat.reduceLeDiff, Nat.reduceLT, Nat.reduceEqDiff]
  rfl

theorem loop_s_l6On {q : Nat} {c : Option Nat} {ls : List Ld} {bv : AV} {u : Nat} {x a b : Int} {y5 : AV} (h : cellsAt H q = some (encL ls)) (hu : cellsAt H u = some [.int .i64 x, .int .i64 a, .int .i64 b]) (hn : ls.length ≤ 9223372036854775806) :
    ∀ (k i : Nat) (y6 y7 : AV), k + i = ls.length → ∃ (z4 z6 z7 : AV), run T pr (.loop w_s_l6On_1) ⟨[bv, slL q ls.length c, .ptr (some (u, 0)), .bool false, .int .i64 i, y5, y6, y7], ⟨H, e⟩⟩ =
      some (if (ls.drop i).any (fun l => decide (x < l.1)) = true then Ex.ret else Ex.exit 0, ⟨[bv, slL q ls.length c, .ptr (some (u, 0)), .bool false, z4, y5, z6, z7], ⟨H, e⟩⟩)
  | 0, i, y6, y7, hk => by
    have hi : i = ls.length := by omega
    subst hi
    refine ⟨.int .i64 ls.length, .bool false, y7, ?_⟩
    rw [run_loop]
    generalize run T pr (.loop w_s_l6On_1) = R
    simp +contextual only [w_s_l6On_1, Nat.lt_irrefl, decide_false, List.drop_length, List.any_nil, go_sem, entry, joinEsc, if_pos, reduceIte, Nat.reduceAdd, Nat.reduceLeDiff, Nat.reduceLT, Nat.reduceEqDiff]
  | k + 1, i, y6, y7, hk => by
    have hi : i < ls.length := by omega
    have hl : ls[i]? = some ls[i] := List.getElem?_eq_getElem hi
    rw [run_loop, List.drop_eq_getElem_cons hi, List.any_cons]
    obtain ⟨z4, z6, z7, ih⟩ := loop_s_l6On (c := c) (bv := bv) (y5 := y5) h hu hn k (i + 1) (.bool true) (.bool false) (by omega)
    generalize run T pr (.loop w_s_l6On_1) = R at ih ⊢
    cases hp : decide (x < ls[i].1) with
    | true =>
      refine ⟨.int .i64 i, .bool true, .bool true, ?_⟩
      simp +contextual only [w_s_l6On_1, h, hu, hi, hl, part_encL0 _ hl, hp, decide_true, go_sem, entry, joinEsc, if_pos, reduceIte, Nat.reduceAdd, Nat.reduceLeDiff, Nat.reduceLT, Nat.reduceEqDiff]
    | false =>
      refine ⟨z4, z6, z7, ?_⟩
      simp +contextual only [w_s_l6On_1, h, hu, hi, hl, part_encL0 _ hl, hp, wrap_succ (show i < 9223372036854775807 by omega), decide_true, go_sem, entry, joinEsc, if_pos, reduceIte, Nat.reduceAdd, Nat.reduceLeDiff, Nat.reduceLT, Nat.reduceEqDiff]
      exact ih

theorem e_s_l6On {q : Nat} {c : Option Nat} {ls : List Ld} (h : cellsAt H q = some (encL ls)) (hn : ls.length ≤ 9223372036854775806) (x a b : Int) : call T pr f_s_l6On [bmV x a b, slL q ls.length c] ⟨H, e⟩ = some (.bool (onOk x a b ls), ⟨H, e⟩) := by
  rw [call_eq t_s_l6On]
  have hb : cellsAt (H ++ [Blk.cells [.int .i64 x, .int .i64 a, .int .i64 b] true]) H.length = some [.int .i64 x, .int .i64 a, .int .i64 b] := by simp [cellsAt, List.getElem?_append_right]
  unfold onOk
  cases h1 : beamOk x a b with
  | false => simp +contextual only [a_s_l6On, c_s_l6On, e_s_l6Beam, h1, go_sem, entry, joinEsc, if_pos, reduceIte, Nat.reduceAdd, Nat.reduceLeDiff, Nat.reduceLT, Nat.reduceEqDiff]
  | true =>
    cases h2 : rowOk ls with
    | false => simp +contextual only [a_s_l6On, c_s_l6On, e_s_l6Beam, e_s_l2Row (cells_mono h _), h1, h2, go_sem, entry, joinEsc, if_pos, reduceIte, Nat.reduceAdd, Nat.reduceLeDiff, Nat.reduceLT, Nat.reduceEqDiff]
    | true =>
      obtain ⟨z4, z6, z7, hl⟩ := loop_s_l6On (pr := pr) (e := none) (c := c) (bv := bmV x a b) (y5 := .bool false) (cells_mono h [Blk.cells [.int .i64 x, .int .i64 a, .int .i64 b] true]) hb hn ls.length 0 .undef .undef rfl
      have h0 : ((0 : Nat) : Int) = 0 := rfl
      rw [h0, List.drop_zero] at hl
      cases h3 : ls.any (fun l => decide (x < l.1)) <;> rw [h3] at hl <;> simp +contextual only [a_s_l6On, c_s_l6On, e_s_l6Beam, e_s_l2Row (cells_mono h _), h1, h2, hl, go_sem, entry, joinEsc, if_pos, reduceIte, Nat.reduceAdd, Nat.reduceLeDiff, Nat.reduceLT, Nat.reduceEqDiff] <;> trace_state

end Go.Proofs.Ythkgpblohjpcdaa.Slim

/- RestsOn, and its law. -/
namespace Go.Proofs.Ythkgpblohjpcdaa.Slim
open Go
set_option linter.unusedSimpArgs false
set_option linter.unusedVariables false

variable {pr : Prims} {H : List Blk} {e : Option Nat}

theorem ArgL.more {av : AV} {ls : List Ld} (h : ArgL H av ls) (G : List Blk) : ArgL (H ++ G) av ls := by
  obtain ⟨p, sz, c, h1, h2, h3⟩ := h
  refine ⟨p, sz, c, h1, h2, fun hne => ?_⟩
  obtain ⟨h4, b, h5, h6⟩ := h3 hne
  exact ⟨h4, b, h5, cells_mono h6 G⟩

theorem e_i_Beam_rests {q : Nat} {c : Option Nat} {ls : List Ld} (h : cellsAt H q = some (encL ls)) (hn : ls.length ≤ 9223372036854775806) (x a b : Int) : call T pr f_i_Beam_rests [bmV x a b, slL q ls.length c] ⟨H, e⟩ =
    some (.bool (decide (sideW ls a b = 0)), ⟨H, e⟩) := by
  rw [call_eq t_i_Beam_rests]
  simp +contextual only [a_i_Beam_rests, c_i_Beam_rests, e_i_tipSide (cells_mono h _) hn, go_sem, entry, joinEsc, if_pos, reduceIte, Nat.reduceAdd, Nat.reduceLeDiff, Nat.reduceLT, Nat.reduceEqDiff]

end Go.Proofs.Ythkgpblohjpcdaa.Slim

/- Rows that grow. -/
namespace Go.Proofs.Ythkgpblohjpcdaa.Slim
open Go
set_option linter.unusedSimpArgs false
set_option linter.unusedVariables false

variable {pr : Prims} {H : List Blk} {e : Option Nat}

def killIf (cap : Option Nat) (j : Nat) (G : List Blk) : List Blk := if cap = some 0 then G else G.set j .dead
theorem killIf_length (cap : Option Nat) (j : Nat) (G : List Blk) : (killIf cap j G).length = G.length := by unfold killIf; split <;> simp

theorem appendV_more {G : List Blk} {j k n sz bytes : Nat} {cs new : List AV} {cap : Option Nat} {str : Bool} {x : AV} (hb : G[j]? = some (.cells cs true)) (hx : srcCells str (H ++ G) x = some (k, new)) (hk : 0 < k)
    (hcs : cs.length = n * sz) (hnew : new.length = k * sz) (hmax : (n + k) * bytes ≤ maxBytes) (hcap : cap = some 0 → n = 0) :
    appendV (H ++ G) e str sz bytes (.slice (some (H.length + j, 0)) sz n cap) x = some (.slice (some (H.length + G.length, 0)) sz (n + k) none, ⟨H ++ (killIf cap j G ++ [.cells (cs ++ new) true]), e⟩) := by
  unfold appendV
  simp only [blkAt_newk, hb, hx]
  rw [if_pos ⟨trivial, hmax, hnew, by omega⟩]
  unfold killIf
  by_cases hc : cap = some 0
  · have hn := hcap hc
    subst hn
    have : cs = [] := by simpa using hcs
    subst this
    rw [if_pos ⟨hc, hk⟩, if_pos hc]
    simp
  · rw [if_neg (fun h => hc h.1), if_pos trivial, if_neg hc]
    have h1 : List.take (n * sz) (List.drop 0 cs) = cs := by rw [List.drop_zero, ← hcs, List.take_length]
    rw [h1, set_newk]
    simp

theorem srcCells_new (L : List Blk) (n sz : Nat) (cap : Option Nat) (cs : List AV) (b : Nat) (h : cellsAt L b = some cs) (hl : cs.length = n * sz) : srcCells false L (.slice (some (b, 0)) sz n cap) = some (n, cs) := by
  unfold srcCells
  simp only [Bool.false_eq_true, if_false, h]
  rw [if_pos (by omega), List.drop_zero, ← hl, List.take_length]

theorem append_ld {G : List Blk} {j : Nat} {o : List Ld} {cap : Option Nat} (hG : G[j]? = some (.cells (encL o) true)) (hcap : cap = some 0 → o = []) (hmb : (o.length + 1) * 16 ≤ maxBytes) (a b : Int) :
    appendV (H ++ (G ++ [.cells [.int .i64 a, .int .i64 b] true])) e false 2 16 (slL (H.length + j) o.length cap) (.slice (some (H.length + G.length, 0)) 2 1 (some 1)) =
      some (slL (H.length + (G.length + 1)) (o.length + 1) none, ⟨H ++ (killIf cap j (G ++ [.cells [.int .i64 a, .int .i64 b] true]) ++ [.cells (encL o ++ [.int .i64 a, .int .i64 b]) true]), e⟩) := by
  have hj : j < G.length := (List.getElem?_eq_some_iff.mp hG).1
  rw [appendV_more (k := 1) (cs := encL o) (new := [.int .i64 a, .int .i64 b]) (by rw [List.getElem?_append_left hj]; exact hG)
    (srcCells_new _ 1 2 _ _ _ (by rw [cellsAt_newk, cellsAt_new0, cellsAt_cons0]) rfl) (by omega) (encL_length o) rfl hmb (fun h => by rw [hcap h]; rfl)]
  simp

end Go.Proofs.Ythkgpblohjpcdaa.Slim

/- Convoys. -/
namespace Go.Proofs.Ythkgpblohjpcdaa.Slim
open Go
set_option linter.unusedSimpArgs false
set_option linter.unusedVariables false

variable {pr : Prims} {H : List Blk} {e : Option Nat}

end Go.Proofs.Ythkgpblohjpcdaa.Slim

/- Convoys, told whole; crossing. -/
namespace Go.Proofs.Ythkgpblohjpcdaa.Slim
open Go
set_option linter.unusedSimpArgs false
set_option linter.unusedVariables false

variable {pr : Prims} {H : List Blk} {e : Option Nat}

end Go.Proofs.Ythkgpblohjpcdaa.Slim

/- Slices of numbers. -/
namespace Go.Proofs.Ythkgpblohjpcdaa.Slim

open Go

set_option linter.unusedSimpArgs false

set_option linter.unusedVariables false

variable {pr : Prims} {H : List Blk} {e : Option Nat}

abbrev encI (ls : List Int) : List AV := ls.map (AV.int .i64)

abbrev slI (b n : Nat) (c : Option Nat) : AV := .slice (some (b, 0)) 1 n c

theorem part_encI {ls : List Int} {i : Nat} {x : Int} (sz : Nat) (h : ls[i]? = some x) : part false (encI ls) i sz = some (.int .i64 x) := by
  rw [part_false, List.getElem?_map, h]; rfl

theorem under_encI (n : Nat) : ∀ ls : List Int, ((encI ls).all fun c => c.under n) = true
  | [] => rfl
  | l :: ls => by simp [encI, AV.under]

theorem setRange_encI {X : List Int} {i : Nat} {a : Int} (h : i < X.length) : setRange (encI X) i [.int .i64 a] = encI (X.set i a) := by
  induction X generalizing i with
  | nil => simp at h
  | cons x X ih =>
    cases i with
    | zero => simp [encI, setRange]
    | succ i =>
      have := ih (i := i) (by simpa using h)
      simp only [encI, List.map_cons, List.set_cons_succ] at *
      rw [setRange_k, this]

def ArgI (H : List Blk) (av : AV) (ls : List Int) : Prop :=
  ∃ p sz c, av = .slice p sz ls.length c ∧ ls.length ≤ maxLen ∧ (ls ≠ [] → sz = 1 ∧ ∃ b, p = some (b, 0) ∧ cellsAt H b = some (encI ls))

theorem ArgI.more {av : AV} {ls : List Int} (h : ArgI H av ls) (G : List Blk) : ArgI (H ++ G) av ls := by
  obtain ⟨p, sz, c, h1, h2, h3⟩ := h
  refine ⟨p, sz, c, h1, h2, fun hne => ?_⟩
  obtain ⟨h4, b, h5, h6⟩ := h3 hne
  exact ⟨h4, b, h5, cells_mono h6 G⟩

end Go.Proofs.Ythkgpblohjpcdaa.Slim

/- Rafts: what is valid, and the reserves. -/
namespace Go.Proofs.Ythkgpblohjpcdaa.Slim

open Go

set_option linter.unusedSimpArgs false

set_option linter.unusedVariables false

variable {pr : Prims} {H : List Blk} {e : Option Nat}

end Go.Proofs.Ythkgpblohjpcdaa.Slim

/- Rafts: the reserves. -/
namespace Go.Proofs.Ythkgpblohjpcdaa.Slim

open Go

set_option linter.unusedSimpArgs false

set_option linter.unusedVariables false

variable {pr : Prims} {H : List Blk} {e : Option Nat}

abbrev wr (x : Int) : Int := IntKind.i64.wrap x

end Go.Proofs.Ythkgpblohjpcdaa.Slim

/- Rafts: safe sets. -/
namespace Go.Proofs.Ythkgpblohjpcdaa.Slim

open Go

set_option linter.unusedSimpArgs false

set_option linter.unusedVariables false

variable {pr : Prims} {H : List Blk} {e : Option Nat}

end Go.Proofs.Ythkgpblohjpcdaa.Slim

/- Orders of a cargo. -/
namespace Go.Proofs.Ythkgpblohjpcdaa.Slim

open Go

set_option linter.unusedSimpArgs false

set_option linter.unusedVariables false

variable {pr : Prims} {H : List Blk} {e : Option Nat}

theorem length_le_of_sub {r : List Int} : ∀ {l : List Int}, r.Nodup → (∀ x ∈ r, x ∈ l) → r.length ≤ l.length := by
  induction r with
  | nil => intro l _ _; exact Nat.zero_le _
  | cons a r ih =>
    intro l hn hs
    have ha := hs a (by simp)
    obtain ⟨h1, h2⟩ := List.nodup_cons.mp hn
    have h3 := ih (l := l.erase a) h2 (fun x hx => by
      have hne : x ≠ a := fun e => h1 (e ▸ hx)
      exact (List.mem_erase_of_ne hne).mpr (hs x (by simp [hx])))
    have h4 := List.length_erase_of_mem ha
    have h5 := List.length_pos_of_mem ha
    simp only [List.length_cons]
    omega

def nums (n : Nat) : List Int := (List.range n).map fun (i : Nat) => (i : Int)

theorem nums_length (n : Nat) : (nums n).length = n := by simp [nums]

theorem mem_nums {n : Nat} {x : Int} : x ∈ nums n ↔ 0 ≤ x ∧ x < n := by
  unfold nums
  rw [List.mem_map]
  constructor
  · rintro ⟨i, hi, rfl⟩
    rw [List.mem_range] at hi
    omega
  · rintro ⟨h1, h2⟩
    exact ⟨x.toNat, by rw [List.mem_range]; omega, by omega⟩

end Go.Proofs.Ythkgpblohjpcdaa.Slim

/- Rafts: in how many ways the rest can be loaded, on both sides. -/
namespace Go.Proofs.Ythkgpblohjpcdaa.Slim

open Go

set_option linter.unusedSimpArgs false

set_option linter.unusedVariables false

variable {pr : Prims} {H : List Blk} {e : Option Nat}

end Go.Proofs.Ythkgpblohjpcdaa.Slim

/- Rafts: what the ways tell; the next steps. -/
namespace Go.Proofs.Ythkgpblohjpcdaa.Slim

open Go

set_option linter.unusedSimpArgs false

set_option linter.unusedVariables false

variable {pr : Prims} {H : List Blk} {e : Option Nat}

theorem encI_append (a b : List Int) : encI (a ++ b) = encI a ++ encI b := by simp [encI]

end Go.Proofs.Ythkgpblohjpcdaa.Slim

/- Marks on memory that is told apart; results of two. -/
namespace Go.Proofs.Ythkgpblohjpcdaa.Slim

open Go

set_option linter.unusedSimpArgs false

set_option linter.unusedVariables false

variable {pr : Prims} {H : List Blk} {e : Option Nat}

theorem finish_two_sb {G : List Blk} {j sz n o : Nat} {c : Option Nat} {cs : List AV} {wr : Bool} (x : Bool) (e0 : Option Nat) (hG : G[j]? = some (.cells cs wr)) (h : (cs.all fun c => c.under H.length) = true) :
    finish 2 H.length e0 (.tup [.slice (some (H.length + j, o)) sz n c, .bool x]) ⟨H ++ G, none⟩ = some (.tup [.slice (some (H.length, o)) sz n c, .bool x], ⟨H ++ [.cells cs wr], e0⟩) := by
  have hlt : ¬ H.length + j < H.length := by omega
  have hr : dedup (AV.roots H.length (.tup [.slice (some (H.length + j, o)) sz n c, .bool x])) = [H.length + j] := by
    unfold AV.roots AV.roots.go AV.roots.go AV.roots.go AV.roots
    rw [if_neg hlt]
    rfl
  have hb : (H ++ G)[H.length + j]? = some (.cells cs wr) := by rw [List.getElem?_append_right (by omega)]; simpa using hG
  unfold finish
  simp only [hr]
  have h2 : ([H.length + j].all fun b => flatBlk H.length (H ++ G)[b]?) = true := by
    simp only [List.all_cons, List.all_nil, Bool.and_true, hb, flatBlk]
    exact h
  simp only [clean, h2, and_self, if_true]
  simp [AV.rename, AV.rename.go, renum, hb, hlt]

theorem finish_two_nb {G : List Blk} {sz n : Nat} {c : Option Nat} (x : Bool) (e0 : Option Nat) :
    finish 2 H.length e0 (.tup [.slice none sz n c, .bool x]) ⟨H ++ G, none⟩ = some (.tup [.slice none sz n c, .bool x], ⟨H, e0⟩) := by
  have hr : dedup (AV.roots H.length (.tup [.slice none sz n c, .bool x])) = [] := rfl
  unfold finish
  simp only [hr]
  simp [AV.rename, AV.rename.go, clean]

theorem setRange_mid (P R : List Int) (r a : Int) : setRange (encI (P ++ r :: R)) P.length [.int .i64 a] = encI ((P ++ [a]) ++ R) := by
  rw [setRange_encI (by simp)]
  simp

theorem setRange_midL0 (P R : List Ld) (r : Ld) (a : Int) : setRange (encL (P ++ r :: R)) (P.length * 2) [.int .i64 a] = encL (P ++ (a, r.2) :: R) := by
  induction P with
  | nil => simp [encL, setRange]
  | cons p P ih =>
    simp only [encL, List.cons_append, List.length_cons, Nat.add_mul, Nat.one_mul] at *
    rw [setRange_k, setRange_k, ih]

end Go.Proofs.Ythkgpblohjpcdaa.Slim

/- Rafts: the first safe order, on both sides. -/
namespace Go.Proofs.Ythkgpblohjpcdaa.Slim

open Go

set_option linter.unusedSimpArgs false

set_option linter.unusedVariables false

variable {pr : Prims} {H : List Blk} {e : Option Nat}

end Go.Proofs.Ythkgpblohjpcdaa.Slim

/- Rafts: from which sets all can be taken, on both sides. -/
namespace Go.Proofs.Ythkgpblohjpcdaa.Slim

open Go

set_option linter.unusedSimpArgs false

set_option linter.unusedVariables false

variable {pr : Prims} {H : List Blk} {e : Option Nat}

end Go.Proofs.Ythkgpblohjpcdaa.Slim

/- Stages of a chain: what is valid, copies, marks. -/
namespace Go.Proofs.Ythkgpblohjpcdaa.Slim

open Go

set_option linter.unusedSimpArgs false

set_option linter.unusedVariables false

variable {pr : Prims} {H : List Blk} {e : Option Nat}

abbrev Sg := Int × Int × Int

def encS : List Sg → List AV
  | [] => []
  | s :: ss => .int .i64 s.1 :: .int .i64 s.2.1 :: .int .i64 s.2.2 :: encS ss

def ArgS (H : List Blk) (av : AV) (ss : List Sg) : Prop :=
  ∃ p sz c, av = .slice p sz ss.length c ∧ ss.length ≤ maxLen ∧ (ss ≠ [] → sz = 3 ∧ ∃ b, p = some (b, 0) ∧ cellsAt H b = some (encS ss))

theorem ArgS.more {av : AV} {ss : List Sg} (h : ArgS H av ss) (G : List Blk) : ArgS (H ++ G) av ss := by
  obtain ⟨p, sz, c, h1, h2, h3⟩ := h
  refine ⟨p, sz, c, h1, h2, fun hne => ?_⟩
  obtain ⟨h4, b, h5, h6⟩ := h3 hne
  exact ⟨h4, b, h5, cells_mono h6 G⟩

end Go.Proofs.Ythkgpblohjpcdaa.Slim

/- Stands: what is valid, copies, new ones; their laws. -/
namespace Go.Proofs.Ythkgpblohjpcdaa.Slim

open Go

set_option linter.unusedSimpArgs false

set_option linter.unusedVariables false

variable {pr : Prims} {H : List Blk} {e : Option Nat}

theorem clean_minEsc (lim b : Nat) (e : Option Nat) : clean lim (minEsc e b) = (clean lim e && decide (lim ≤ b)) := by
  cases e with
  | none => simp [clean, minEsc]
  | some x => simp [clean, minEsc, Nat.le_min]

theorem clean_none (lim : Nat) : clean lim none = true := Eq.trans rfl rfl

theorem under_slice (n b o sz k : Nat) (c : Option Nat) : (AV.slice (some (b, o)) sz k c).under n = decide (b < n) := by simp [AV.under]

theorem under_sliceN (n sz k : Nat) (c : Option Nat) : (AV.slice none sz k c).under n = true := by simp [AV.under]

end Go.Proofs.Ythkgpblohjpcdaa.Slim

/- Fractions, the gain of a chain, and the pull of a row; the law. -/
namespace Go.Proofs.Ythkgpblohjpcdaa.Slim

open Go

set_option linter.unusedSimpArgs false

set_option linter.unusedVariables false

variable {pr : Prims} {H : List Blk} {e : Option Nat}

theorem wrapN {x : Nat} (h : x ≤ 9223372036854775807) : IntKind.i64.wrap (x : Int) = (x : Int) := wrap64 (by omega) (by omega)

theorem e_s_l1Most (a b : Int) : call T pr f_s_l1Most [.int .i64 a, .int .i64 b] ⟨H, e⟩ = some (.int .i64 (if b < a then a else b), ⟨H, e⟩) := by
  rw [call_eq t_s_l1Most]
  by_cases h : b < a <;> simp +contextual only [a_s_l1Most, c_s_l1Most, h, decide_true, decide_false, go_sem, entry, joinEsc, if_pos, reduceIte, Nat.reduceAdd, Nat.reduceLeDiff, Nat.reduceLT, Nat.reduceEqDiff]

end Go.Proofs.Ythkgpblohjpcdaa.Slim

/- Marks on stands, copies of stands. -/
namespace Go.Proofs.Ythkgpblohjpcdaa.Slim

open Go

set_option linter.unusedSimpArgs false

set_option linter.unusedVariables false

variable {pr : Prims} {H : List Blk} {e : Option Nat}

theorem binop_nil (p : Nat × Nat) (sz n : Nat) (c : Option Nat) : binop 3 .eql (.slice (some p) sz n c) (.slice none 0 0 none) = some (.bool false) := Eq.trans rfl rfl

def kill0 (n b : Nat) (L : List Blk) : List Blk := if n = 0 then L.set b .dead else L

theorem kill0_new (n k : Nat) (l : List Blk) : kill0 n (H.length + k) (H ++ l) = H ++ kill0 n k l := by
  unfold kill0
  split
  · rw [set_newk]
  · rfl

theorem kill0_new0 (n : Nat) (l : List Blk) : kill0 n H.length (H ++ l) = H ++ kill0 n 0 l := kill0_new n 0 l

theorem kill0_cons (n k : Nat) (x : Blk) (l : List Blk) : kill0 n (k + 1) (x :: l) = x :: kill0 n k l := by
  unfold kill0
  split <;> rfl

theorem kill0_0 (n : Nat) (x : Blk) (l : List Blk) : kill0 n 0 (x :: l) = (if n = 0 then Blk.dead else x) :: l := by
  unfold kill0
  split <;> rfl

theorem append_all {L : List Blk} {b q n sz bytes : Nat} {c : Option Nat} {cs : List AV} (hb : L[b]? = some (.cells [] true)) (hq : cellsAt L q = some cs) (hl : cs.length = n * sz) (hm : n * bytes ≤ maxBytes) :
    appendV L e false sz bytes (.slice (some (b, 0)) sz 0 (some 0)) (.slice (some (q, 0)) sz n c) = some (.slice (some (L.length, 0)) sz n none, ⟨kill0 n b L ++ [.cells cs true], e⟩) := by
  unfold appendV
  have hs := srcCells_new L n sz c cs q hq hl
  simp only [hb, hs]
  rw [if_pos (by simp [hm, hl])]
  unfold kill0
  by_cases hn : n = 0
  · subst hn
    have : cs = [] := by simpa using hl
    subst this
    simp
  · rw [if_pos ⟨trivial, by omega⟩, if_neg hn]
    simp

theorem e_Clone_Load {q : Nat} {c : Option Nat} {ls : List Ld} (h : cellsAt H q = some (encL ls)) (hn : ls.length ≤ 1048576) : call T pr f_slices_Clone_Si_Load_i_Load [slL q ls.length c] ⟨H, e⟩ = some (slL H.length ls.length none, ⟨H ++ [.cells (encL ls) true], e⟩) := by
  have ha := fun L b e' (hb : L[b]? = some (.cells [] true)) hq => append_all (e := e') (L := L) (b := b) (q := q) (n := ls.length) (sz := 2) (bytes := 16) (c := c) (cs := encL ls) hb hq (encL_length ls) (by unfold maxBytes; omega)
  have hf : ∀ (B : Blk) (e0 : Option Nat), finish 2 H.length e0 (slL (H.length + 1) ls.length none) ⟨H ++ [B, .cells (encL ls) true], none⟩ = some (slL H.length ls.length none, ⟨H ++ [.cells (encL ls) true], e0⟩) :=
    fun B e0 => finish_two_at e0 rfl (under_encL _ _)
  rw [call_eq t_slices_Clone_Si_Load_i_Load]
  simp +contextual only [a_slices_Clone_Si_Load_i_Load, c_slices_Clone_Si_Load_i_Load, binop_nil, fillParts, ha, cells_mono h, kill0_new0, kill0_0, hf, go_sem, entry, joinEsc, if_pos, reduceIte, Nat.reduceAdd, Nat.reduceLeDiff, Nat.reduceLT, Nat.reduceEqDiff]

theorem cellsAt_lt {L : List Blk} {w : Nat} {cs : List AV} (h : cellsAt L w = some cs) : w < L.length := by
  unfold cellsAt at h
  cases hb : L[w]? with
  | none => rw [hb] at h; cases h
  | some x => exact (List.getElem?_eq_some_iff.mp hb).1

end Go.Proofs.Ythkgpblohjpcdaa.Slim

/- Parties: what is valid, copies; the first law. -/
namespace Go.Proofs.Ythkgpblohjpcdaa.Slim

open Go

set_option linter.unusedSimpArgs false

set_option linter.unusedVariables false

variable {pr : Prims} {H : List Blk} {e : Option Nat}

abbrev ptV (x a b : Int) (people : AV) (s : Int) : AV := .agg [.int .i64 x, .int .i64 a, .int .i64 b, people, .int .i64 s]

theorem finish_party {G : List Blk} {j n : Nat} {c : Option Nat} {cs : List AV} {wr : Bool} (x a b s : Int) (e0 e1 : Option Nat) (hc : clean H.length e1 = true) (h1 : G[j]? = some (.cells cs wr)) (u1 : (cs.all fun c => c.under H.length) = true) :
    finish 2 H.length e0 (ptV x a b (slL (H.length + j) n c) s) ⟨H ++ G, e1⟩ = some (ptV x a b (slL H.length n c) s, ⟨H ++ [.cells cs wr], e0⟩) := by
  have hlt1 : ¬ H.length + j < H.length := by omega
  have hr : dedup (AV.roots H.length (ptV x a b (slL (H.length + j) n c) s)) = [H.length + j] := by
    simp only [AV.roots, AV.roots.go, if_neg hlt1, List.nil_append, List.cons_append, List.append_nil]
    rfl
  have hb1 : (H ++ G)[H.length + j]? = some (.cells cs wr) := by rw [List.getElem?_append_right (by omega)]; simpa using h1
  unfold finish
  simp only [hr]
  have h3 : ([H.length + j].all fun b => flatBlk H.length (H ++ G)[b]?) = true := by
    simp only [List.all_cons, List.all_nil, Bool.and_true, hb1, flatBlk, u1]
  simp only [hc, h3, and_self, if_true]
  simp [AV.rename, AV.rename.go, renum, hb1, hlt1]

theorem finish_partyB {G : List Blk} {j n : Nat} {c : Option Nat} {cs : List AV} {wr : Bool} (x a b s : Int) (y : Bool) (e0 e1 : Option Nat) (hc : clean H.length e1 = true) (h1 : G[j]? = some (.cells cs wr)) (u1 : (cs.all fun c => c.under H.length) = true) :
    finish 2 H.length e0 (.tup [ptV x a b (slL (H.length + j) n c) s, .bool y]) ⟨H ++ G, e1⟩ = some (.tup [ptV x a b (slL H.length n c) s, .bool y], ⟨H ++ [.cells cs wr], e0⟩) := by
  have hlt1 : ¬ H.length + j < H.length := by omega
  have hr : dedup (AV.roots H.length (.tup [ptV x a b (slL (H.length + j) n c) s, .bool y])) = [H.length + j] := by
    simp only [AV.roots, AV.roots.go, if_neg hlt1, List.nil_append, List.cons_append, List.append_nil]
    rfl
  have hb1 : (H ++ G)[H.length + j]? = some (.cells cs wr) := by rw [List.getElem?_append_right (by omega)]; simpa using h1
  unfold finish
  simp only [hr]
  have h3 : ([H.length + j].all fun b => flatBlk H.length (H ++ G)[b]?) = true := by
    simp only [List.all_cons, List.all_nil, Bool.and_true, hb1, flatBlk, u1]
  simp only [hc, h3, and_self, if_true]
  simp [AV.rename, AV.rename.go, renum, hb1, hlt1]

theorem finish_partyN {G : List Blk} {s1 n1 : Nat} {c1 : Option Nat} (x a b s : Int) (y : Bool) (e0 e1 : Option Nat) (hc : clean H.length e1 = true) :
    finish 2 H.length e0 (.tup [ptV x a b (.slice none s1 n1 c1) s, .bool y]) ⟨H ++ G, e1⟩ = some (.tup [ptV x a b (.slice none s1 n1 c1) s, .bool y], ⟨H, e0⟩) := by
  have hr : dedup (AV.roots H.length (.tup [ptV x a b (.slice none s1 n1 c1) s, .bool y])) = [] := rfl
  unfold finish
  simp only [hr]
  simp [AV.rename, AV.rename.go, hc]

def partyOk (x a b : Int) (ls : List Ld) (s : Int) : Bool := onOk x a b ls && (decide (x ≤ 12) && ((decide (1 ≤ ls.length) && decide (ls.length ≤ 3)) && (decide (sideW ls a b = 0) && (decide (1 ≤ s) && decide (s ≤ 4)))))

theorem e_i_IsParty {q : Nat} {c : Option Nat} {ls : List Ld} (h : cellsAt H q = some (encL ls)) (hn : ls.length ≤ 9223372036854775806) (x a b s : Int) : call T pr f_i_IsParty [ptV x a b (slL q ls.length c) s] ⟨H, e⟩ = some (.bool (partyOk x a b ls s), ⟨H, e⟩) := by
  rw [call_eq t_i_IsParty]
  have hi : (decide ((1 : Int) ≤ (ls.length : Int)) && decide ((ls.length : Int) ≤ 3)) = (decide (1 ≤ ls.length) && decide (ls.length ≤ 3)) := by
    rw [decide_eq_decide.mpr (show (1 : Int) ≤ (ls.length : Int) ↔ 1 ≤ ls.length by omega), decide_eq_decide.mpr (show (ls.length : Int) ≤ 3 ↔ ls.length ≤ 3 by omega)]
  unfold partyOk
  cases h1 : onOk x a b ls with
  | false => simp +contextual only [a_i_IsParty, c_i_IsParty, e_i_isOn (cells_mono h _) hn, h1, go_sem, entry, joinEsc, if_pos, reduceIte, Nat.reduceAdd, Nat.reduceLeDiff, Nat.reduceLT, Nat.reduceEqDiff]
  | true =>
    cases h2 : decide (x ≤ 12) with
    | false => simp +contextual only [a_i_IsParty, c_i_IsParty, e_i_isOn (cells_mono h _) hn, h1, h2, go_sem, entry, joinEsc, if_pos, reduceIte, Nat.reduceAdd, Nat.reduceLeDiff, Nat.reduceLT, Nat.reduceEqDiff]
    | true =>
      rw [← hi]
      cases h3 : (decide ((1 : Int) ≤ (ls.length : Int)) && decide ((ls.length : Int) ≤ 3)) with
      | false => simp +contextual only [a_i_IsParty, c_i_IsParty, e_i_isOn (cells_mono h _) hn, e_i_within, h1, h2, h3, go_sem, entry, joinEsc, if_pos, reduceIte, Nat.reduceAdd, Nat.reduceLeDiff, Nat.reduceLT, Nat.reduceEqDiff]
      | true =>
        cases h4 : decide (sideW ls a b = 0) with
        | false => simp +contextual only [a_i_IsParty, c_i_IsParty, e_i_isOn (cells_mono h _) hn, e_i_within, e_i_Beam_rests (cells_mono h _) hn, h1, h2, h3, h4, go_sem, entry, joinEsc, if_pos, reduceIte, Nat.reduceAdd, Nat.reduceLeDiff, Nat.reduceLT, Nat.reduceEqDiff]
        | true => simp +contextual only [a_i_IsParty, c_i_IsParty, e_i_isOn (cells_mono h _) hn, e_i_within, e_i_Beam_rests (cells_mono h _) hn, h1, h2, h3, h4, go_sem, entry, joinEsc, if_pos, reduceIte, Nat.reduceAdd, Nat.reduceLeDiff, Nat.reduceLT, Nat.reduceEqDiff]

theorem e_s_l11Rests {q : Nat} {c : Option Nat} {ls : List Ld} (h : cellsAt H q = some (encL ls)) (hn : ls.length ≤ 9223372036854775806) (x a b s : Int) : call T pr f_s_l11Rests [ptV x a b (slL q ls.length c) s] ⟨H, e⟩ = some (.bool (decide (sideW ls a b = 0)), ⟨H, e⟩) := by
  rw [call_eq t_s_l11Rests]
  simp +contextual only [a_s_l11Rests, c_s_l11Rests, e_s_l2Side (cells_mono h _) hn, go_sem, entry, joinEsc, if_pos, reduceIte, Nat.reduceAdd, Nat.reduceLeDiff, Nat.reduceLT, Nat.reduceEqDiff]

theorem e_s_l11Party {q : Nat} {c : Option Nat} {ls : List Ld} (h : cellsAt H q = some (encL ls)) (hn : ls.length ≤ 9223372036854775806) (x a b s : Int) : call T pr f_s_l11Party [ptV x a b (slL q ls.length c) s] ⟨H, e⟩ = some (.bool (partyOk x a b ls s), ⟨H, e⟩) := by
  rw [call_eq t_s_l11Party]
  have hi : (decide ((1 : Int) ≤ (ls.length : Int)) && decide ((ls.length : Int) ≤ 3)) = (decide (1 ≤ ls.length) && decide (ls.length ≤ 3)) := by
    rw [decide_eq_decide.mpr (show (1 : Int) ≤ (ls.length : Int) ↔ 1 ≤ ls.length by omega), decide_eq_decide.mpr (show (ls.length : Int) ≤ 3 ↔ ls.length ≤ 3 by omega)]
  have hr := fun G => e_s_l11Rests (pr := pr) (e := none) (c := c) (cells_mono h G) hn x a b s
  unfold partyOk
  cases h0 : beamOk x a b with
  | false =>
    have h1 : onOk x a b ls = false := by unfold onOk; rw [h0]; rfl
    rw [h1]
    simp +contextual only [a_s_l11Party, c_s_l11Party, e_s_l6Beam, h0, go_sem, entry, joinEsc, if_pos, reduceIte, Nat.reduceAdd, Nat.reduceLeDiff, Nat.reduceLT, Nat.reduceEqDiff]
  | true =>
    cases h2 : decide (x ≤ 12) with
    | false => simp +contextual only [a_s_l11Party, c_s_l11Party, e_s_l6Beam, h0, h2, Bool.and_false, go_sem, entry, joinEsc, if_pos, reduceIte, Nat.reduceAdd, Nat.reduceLeDiff, Nat.reduceLT, Nat.reduceEqDiff]
    | true =>
      rw [← hi]
      cases h3 : (decide ((1 : Int) ≤ (ls.length : Int)) && decide ((ls.length : Int) ≤ 3)) with
      | false => simp +contextual only [a_s_l11Party, c_s_l11Party, e_s_l6Beam, e_s_l1In, h0, h2, h3, Bool.and_false, go_sem, entry, joinEsc, if_pos, reduceIte, Nat.reduceAdd, Nat.reduceLeDiff, Nat.reduceLT, Nat.reduceEqDiff]
      | true =>
        cases h1 : onOk x a b ls with
        | false => simp +contextual only [a_s_l11Party, c_s_l11Party, e_s_l6Beam, e_s_l1In, e_s_l6On (cells_mono h _) hn, h0, h1, h2, h3, go_sem, entry, joinEsc, if_pos, reduceIte, Nat.reduceAdd, Nat.reduceLeDiff, Nat.reduceLT, Nat.reduceEqDiff]
        | true =>
          cases h5 : (decide (1 ≤ s) && decide (s ≤ 4)) with
          | false => simp +contextual only [a_s_l11Party, c_s_l11Party, e_s_l6Beam, e_s_l1In, e_s_l6On (cells_mono h _) hn, h0, h1, h2, h3, h5, go_sem, entry, joinEsc, if_pos, reduceIte, Nat.reduceAdd, Nat.reduceLeDiff, Nat.reduceLT, Nat.reduceEqDiff]
          | true => simp +contextual only [a_s_l11Party, c_s_l11Party, e_s_l6Beam, e_s_l1In, e_s_l6On (cells_mono h _) hn, hr, h0, h1, h2, h3, h5, go_sem, entry, joinEsc, if_pos, reduceIte, Nat.reduceAdd, Nat.reduceLeDiff, Nat.reduceLT, Nat.reduceEqDiff]

end Go.Proofs.Ythkgpblohjpcdaa.Slim

/- People at other places. -/
namespace Go.Proofs.Ythkgpblohjpcdaa.Slim

open Go

set_option linter.unusedSimpArgs false

set_option linter.unusedVariables false

variable {pr : Prims} {H : List Blk} {e : Option Nat}

def putL : List Ld → List Int → List Ld
  | [], _ => []
  | l :: ls, ss => (ss.headD 0, l.2) :: putL ls ss.tail

theorem putL_length : ∀ (ls : List Ld) (ss : List Int), (putL ls ss).length = ls.length
  | [], _ => rfl
  | l :: ls, ss => by simp [putL, putL_length ls]

theorem drop_head (ss : List Int) (i : Nat) (h : i < ss.length) : ss[i]? = some ((ss.drop i).headD 0) ∧ (ss.drop i).tail = ss.drop (i + 1) := by
  rw [List.drop_eq_getElem_cons h]
  exact ⟨List.getElem?_eq_getElem h, rfl⟩

theorem cellsAt_set_ne {L : List Blk} {b u : Nat} {x : Blk} {cs : List AV} (h : cellsAt L u = some cs) (hne : b ≠ u) : cellsAt (L.set b x) u = some cs := by
  unfold cellsAt at *
  rw [List.getElem?_set_ne hne]
  exact h

theorem cellsAt_get {L : List Blk} {j : Nat} {cs : List AV} {w : Bool} (h : L[j]? = some (.cells cs w)) : cellsAt L j = some cs := by
  unfold cellsAt
  rw [h]

theorem loop_i_Party_at {L : List Blk} {b u o pb rb n : Nat} {x a a2 s : Int} {c : Option Nat} {ss : List Int} {y0 y1 : AV} (hb : b < L.length) (hu : cellsAt L u = some (encI ss)) (hss : ss.length = 3) (ho : cellsAt L o = some [.int .i64 x, .int .i64 a, .int .i64 a2, slL b n c, .int .i64 s]) (hn : n ≤ 3) (hne : b ≠ u) (hne2 : b ≠ o) :
    ∀ (R P : List Ld) (y6 y9 : AV), P.length + R.length = n → ∃ z6 z9, run T pr (.loop w_i_Party_at_1) ⟨[y0, y1, .ptr (some (pb, 0)), .ptr (some (u, 0)), .ptr (some (rb, 0)), .ptr (some (o, 0)), y6, .int .i64 n, .int .i64 P.length, y9], ⟨L.set b (.cells (encL (P ++ R)) true), e⟩⟩ =
      some (Ex.exit 0, ⟨[y0, y1, .ptr (some (pb, 0)), .ptr (some (u, 0)), .ptr (some (rb, 0)), .ptr (some (o, 0)), z6, .int .i64 n, .int .i64 n, z9], ⟨L.set b (.cells (encL (P ++ putL R (ss.drop P.length))) true), e⟩⟩)
  | [], P, y6, y9, hP => by
    refine ⟨y6, .bool false, ?_⟩
    obtain rfl : n = P.length := by simp at hP; omega
    rw [run_loop]
    generalize run T pr (.loop w_i_Party_at_1) = R'
    simp +contextual only [w_i_Party_at_1, Nat.lt_irrefl, decide_false, putL, go_sem, entry, joinEsc, if_pos, reduceIte, Nat.reduceAdd, Nat.reduceLeDiff, Nat.reduceLT, Nat.reduceEqDiff]
  | l :: R, P, y6, y9, hP => by
    simp only [List.length_cons] at hP
    have hi : P.length < n := by omega
    obtain ⟨hs1, hs2⟩ := drop_head ss P.length (by omega)
    obtain ⟨z6, z9, ih⟩ := loop_i_Party_at (c := c) (pb := pb) (rb := rb) (y0 := y0) (y1 := y1) hb hu hss ho hn hne hne2 R (P ++ [((ss.drop P.length).headD 0, l.2)]) (.int .i64 P.length) (.bool true) (by simp; omega)
    refine ⟨z6, z9, ?_⟩
    rw [run_loop]
    generalize run T pr (.loop w_i_Party_at_1) = R' at ih ⊢
    have hg : ∀ y : Ld, (L.set b (.cells (encL (P ++ y :: R)) true))[b]? = some (.cells (encL (P ++ y :: R)) true) := fun y => List.getElem?_set_self hb
    have hle : ∀ y : Ld, P.length * 2 + 1 ≤ (encL (P ++ y :: R)).length := by intro y; rw [encL_length]; simp; omega
    have hle2 : ∀ y : Ld, P.length * 2 + 2 ≤ (encL (P ++ y :: R)).length := by intro y; rw [encL_length]; simp; omega
    have hu' := fun y => cellsAt_set_ne (x := y) hu hne
    have ho' := fun y => cellsAt_set_ne (x := y) ho hne2
    have hi3 : P.length < 3 := by omega
    simp only [List.append_assoc, List.singleton_append, List.length_append, List.length_cons, List.length_nil, Nat.zero_add] at ih
    simp +contextual only [w_i_Party_at_1, hi, hi3, hg, hle, hle2, hu', ho', part_encI _ hs1, setRange_midL0, List.set_set, putL, hs2, wrap_succ (show P.length < 9223372036854775807 by omega), decide_true, go_sem, entry, joinEsc, if_pos, reduceIte, Nat.reduceAdd, Nat.reduceLeDiff, Nat.reduceLT, Nat.reduceEqDiff]
    exact ih

abbrev spV (s0 s1 s2 : Int) : AV := .agg [.int .i64 s0, .int .i64 s1, .int .i64 s2]

theorem e_i_Party_at {q : Nat} {c : Option Nat} {ls : List Ld} (h : cellsAt H q = some (encL ls)) (hn : ls.length ≤ 3) (x a b s s0 s1 s2 : Int) : call T pr f_i_Party_at [ptV x a b (slL q ls.length c) s, spV s0 s1 s2] ⟨H, e⟩ =
    some (ptV x a b (slL H.length ls.length none) s, ⟨H ++ [.cells (encL (putL ls [s0, s1, s2])) true], e⟩) := by
  have hf : ∀ (B0 B1 B2 B4 : Blk) (e0 e1 : Option Nat), clean H.length e1 = true → finish 2 H.length e0 (ptV x a b (slL (H.length + 3) ls.length none) s) ⟨H ++ [B0, B1, B2, .cells (encL (putL ls [s0, s1, s2])) true, B4], e1⟩ = some (ptV x a b (slL H.length ls.length none) s, ⟨H ++ [.cells (encL (putL ls [s0, s1, s2])) true], e0⟩) :=
    fun B0 B1 B2 B4 e0 e1 hc => finish_party x a b s e0 e1 hc rfl (under_encL _ _)
  obtain ⟨z6, z9, hl⟩ := loop_i_Party_at (pr := pr) (e := none) (L := H ++ [.cells [.int .i64 x, .int .i64 a, .int .i64 b, slL q ls.length c, .int .i64 s] true, .cells (encI [s0, s1, s2]) true, .cells [.int .i64 0, .int .i64 0, .int .i64 0, .slice none 0 0 none, .int .i64 0] true, .cells (encL ls) true, .cells [.int .i64 x, .int .i64 a, .int .i64 b, slL (H.length + 3) ls.length none, .int .i64 s] true])
    (b := H.length + 3) (u := H.length + 1) (o := H.length + 4) (pb := H.length) (rb := H.length + 2) (x := x) (a := a) (a2 := b) (s := s) (c := none) (ss := [s0, s1, s2]) (y0 := ptV x a b (slL q ls.length c) s) (y1 := spV s0 s1 s2) (by simp) (by rw [cellsAt_newk]; rfl) rfl (by rw [cellsAt_newk]; rfl) hn (by omega) (by omega) ls [] .undef .undef (by simp)
  have h0 : ((0 : Nat) : Int) = 0 := rfl
  simp only [set_newk, List.set_cons_succ, List.set_cons_zero, List.nil_append, List.length_nil, List.drop_zero, encI, List.map_cons, List.map_nil, h0] at hl
  rw [call_eq t_i_Party_at]
  simp +contextual only [a_i_Party_at, c_i_Party_at, fillParts, hl, hf, e_Clone_Load (cells_mono h _) (Nat.le_trans hn (by omega)), under_slice, Nat.add_assoc, Nat.add_lt_add_iff_left, Nat.lt_irrefl, decide_false, clean_minEsc, clean_none, Nat.le_add_right, Nat.le_refl, decide_true, go_sem, entry, joinEsc, if_pos, reduceIte, Nat.reduceAdd, Nat.reduceLeDiff, Nat.reduceLT, Nat.reduceEqDiff]

theorem e_i_Party_rests {q : Nat} {c : Option Nat} {ls : List Ld} (h : cellsAt H q = some (encL ls)) (hn : ls.length ≤ 3) (x a b s s0 s1 s2 : Int) : call T pr f_i_Party_rests [ptV x a b (slL q ls.length c) s, spV s0 s1 s2] ⟨H, e⟩ =
    some (.bool (decide (sideW (putL ls [s0, s1, s2]) a b = 0)), ⟨H, e⟩) := by
  have hat := fun G => e_i_Party_at (pr := pr) (e := none) (c := c) (cells_mono h G) hn x a b s s0 s1 s2
  have hr := fun L q' c' (h : cellsAt L q' = some (encL (putL ls [s0, s1, s2]))) => e_i_Beam_rests (pr := pr) (e := none) (c := c') h (by rw [putL_length]; omega) x a b
  simp only [putL_length] at hr
  rw [call_eq t_i_Party_rests]
  simp +contextual only [a_i_Party_rests, c_i_Party_rests, hat, hr, under_slice, Nat.add_assoc, Nat.add_lt_add_iff_left, Nat.lt_irrefl, decide_false, clean_minEsc, clean_none, Nat.le_add_right, Nat.le_refl, decide_true, go_sem, entry, joinEsc, if_pos, reduceIte, Nat.reduceAdd, Nat.reduceLeDiff, Nat.reduceLT, Nat.reduceEqDiff]

def digs (m : Nat) : Nat → Nat → List Nat
  | 0, _ => []
  | n + 1, k => k % m :: digs m n (k / m)

theorem digs_length (m : Nat) : ∀ n k, (digs m n k).length = n
  | 0, _ => rfl
  | n + 1, k => by simp [digs, digs_length m n]

def ints (l : List Nat) : List Int := l.map fun (i : Nat) => (i : Int)

theorem loop_s_l11Size {L : List Blk} {u n d : Nat} {a a2 s : Int} {p : Option (Nat × Nat)} {sz : Nat} {c : Option Nat} {y0 y2 : AV} (hu : cellsAt L u = some [.int .i64 (d : Int), .int .i64 a, .int .i64 a2, .slice p sz n c, .int .i64 s]) (hn : n ≤ 3) (hd : d ≤ 12) :
    ∀ (k i v : Nat) (y5 : AV), k + i = n → v * (d + 1) ^ k ≤ 2197 → ∃ z5, run T pr (.loop w_s_l11Size_1) ⟨[y0, .ptr (some (u, 0)), y2, .int .i64 v, .int .i64 i, y5], ⟨L, e⟩⟩ =
      some (Ex.exit 0, ⟨[y0, .ptr (some (u, 0)), y2, .int .i64 ((v * (d + 1) ^ k : Nat) : Int), .int .i64 n, z5], ⟨L, e⟩⟩)
  | 0, i, v, y5, hk, hv => by
    refine ⟨.bool false, ?_⟩
    obtain rfl : i = n := by omega
    rw [run_loop, Nat.pow_zero, Nat.mul_one]
    generalize run T pr (.loop w_s_l11Size_1) = R'
    simp +contextual only [w_s_l11Size_1, hu, Nat.lt_irrefl, decide_false, go_sem, entry, joinEsc, if_pos, reduceIte, Nat.reduceAdd, Nat.reduceLeDiff, Nat.reduceLT, Nat.reduceEqDiff]
  | k + 1, i, v, y5, hk, hv => by
    have hi : i < n := by omega
    have hvv : v * (d + 1) ^ (k + 1) = v * (d + 1) * (d + 1) ^ k := by rw [Nat.pow_succ, Nat.mul_assoc, Nat.mul_comm (d + 1) ((d + 1) ^ k)]
    rw [hvv] at hv ⊢
    have h1 : v * (d + 1) ≤ 2197 := Nat.le_trans (Nat.le_mul_of_pos_right _ (Nat.pow_pos (Nat.succ_pos d))) hv
    obtain ⟨z5, ih⟩ := loop_s_l11Size (y0 := y0) (y2 := y2) hu hn hd k (i + 1) (v * (d + 1)) (.bool true) (by omega) hv
    refine ⟨z5, ?_⟩
    rw [run_loop]
    generalize run T pr (.loop w_s_l11Size_1) = R' at ih ⊢
    have hw : IntKind.i64.wrap ((v : Int) * ((d + 1 : Nat) : Int)) = ((v * (d + 1) : Nat) : Int) := by rw [← Int.natCast_mul]; exact wrapN (by omega)
    simp +contextual only [w_s_l11Size_1, hu, hi, wrap_succ (show d < 9223372036854775807 by omega), wrap_succ (show i < 9223372036854775807 by omega), hw, decide_true, go_sem, entry, joinEsc, if_pos, reduceIte, Nat.reduceAdd, Nat.reduceLeDiff, Nat.reduceLT, Nat.reduceEqDiff]
    exact ih

theorem e_s_l11Size {p : Option (Nat × Nat)} {sz n d : Nat} {c : Option Nat} (hn : n ≤ 3) (hd : d ≤ 12) (a b s : Int) : call T pr f_s_l11Size [ptV (d : Int) a b (.slice p sz n c) s] ⟨H, e⟩ =
    some (.int .i64 (((d + 1) ^ n : Nat) : Int), ⟨H, e⟩) := by
  have hp : 1 * (d + 1) ^ n ≤ 2197 := by
    rw [Nat.one_mul]
    have h1 : (d + 1) ^ n ≤ (d + 1) ^ 3 := Nat.pow_le_pow_right (by omega) hn
    have h2 : (d + 1) ^ 3 ≤ 13 ^ 3 := Nat.pow_le_pow_left (by omega) 3
    omega
  obtain ⟨z5, hl⟩ := loop_s_l11Size (pr := pr) (e := none) (L := H ++ [.cells [.int .i64 (d : Int), .int .i64 a, .int .i64 b, .slice p sz n c, .int .i64 s] true]) (u := H.length) (y0 := ptV (d : Int) a b (.slice p sz n c) s) (y2 := .int .i64 0) (by rw [cellsAt_new0]; rfl) hn hd n 0 1 .undef rfl hp
  have h0 : ((0 : Nat) : Int) = 0 := rfl
  have h1 : ((1 : Nat) : Int) = 1 := rfl
  rw [h0, h1, Nat.one_mul] at hl
  rw [call_eq t_s_l11Size]
  simp +contextual only [a_s_l11Size, c_s_l11Size, hl, go_sem, entry, joinEsc, if_pos, reduceIte, Nat.reduceAdd, Nat.reduceLeDiff, Nat.reduceLT, Nat.reduceEqDiff]

theorem tmodN (k m : Nat) : Int.tmod (k : Int) (m : Int) = ((k % m : Nat) : Int) := rfl

theorem tdivN (k m : Nat) : Int.tdiv (k : Int) (m : Int) = ((k / m : Nat) : Int) := rfl

theorem putL_app : ∀ (P : List Ld) (Q : List Ld) (ss ts : List Int), P.length = ss.length → putL (P ++ Q) (ss ++ ts) = putL P ss ++ putL Q ts
  | [], Q, [], ts, _ => rfl
  | p :: P, Q, s :: ss, ts, h => by simp [putL, putL_app P Q ss ts (by simpa using h)]

theorem loop_s_l11At {L : List Blk} {b o u rb d : Nat} {x a a2 s a' a2' s' : Int} {n : Nat} {c : Option Nat} {pl : AV} {y0 : AV} (hb : b < L.length) (hu : cellsAt L u = some [.int .i64 (d : Int), .int .i64 a', .int .i64 a2', pl, .int .i64 s']) (hd : d ≤ 12) (ho : cellsAt L o = some [.int .i64 x, .int .i64 a, .int .i64 a2, slL b n c, .int .i64 s]) (hn : n ≤ 3) (hne : b ≠ u) (hne2 : b ≠ o) :
    ∀ (j : Nat) (P Q : List Ld) (k : Nat) (y6 : AV), P.length = j → P.length + Q.length = n → k ≤ 2197 → ∃ z1 z5 z6, run T pr (.loop w_s_l11At_1) ⟨[y0, .int .i64 k, .ptr (some (u, 0)), .ptr (some (rb, 0)), .ptr (some (o, 0)), .int .i64 ((P.length : Int) - 1), y6], ⟨L.set b (.cells (encL (P ++ Q)) true), e⟩⟩ =
      some (Ex.exit 0, ⟨[y0, z1, .ptr (some (u, 0)), .ptr (some (rb, 0)), .ptr (some (o, 0)), z5, z6], ⟨L.set b (.cells (encL (putL P (ints (digs (d + 1) P.length k).reverse) ++ Q)) true), e⟩⟩)
  | 0, P, Q, k, y6, hj, hP, hk => by
    obtain rfl := List.length_eq_zero_iff.mp hj
    refine ⟨.int .i64 k, .int .i64 (-1), .bool false, ?_⟩
    have h1 : (((([] : List Ld).length : Nat) : Int) - 1) = -1 := rfl
    rw [run_loop, h1]
    generalize run T pr (.loop w_s_l11At_1) = R'
    have h2 : ¬ (0 : Int) ≤ -1 := by omega
    simp +contextual only [w_s_l11At_1, h2, decide_false, putL, go_sem, entry, joinEsc, if_pos, reduceIte, Nat.reduceAdd, Nat.reduceLeDiff, Nat.reduceLT, Nat.reduceEqDiff]
  | j + 1, P, Q, k, y6, hj, hP, hk => by
    obtain ⟨P', l, rfl⟩ : ∃ P' l, P = P' ++ [l] := ⟨P.dropLast, P.getLast (by intro h; subst h; simp at hj), (List.dropLast_concat_getLast _).symm⟩
    simp only [List.length_append, List.length_cons, List.length_nil, Nat.zero_add] at hj hP
    obtain ⟨z1, z5, z6, ih⟩ := loop_s_l11At (c := c) (rb := rb) (y0 := y0) hb hu hd ho hn hne hne2 j P' ((((k % (d + 1) : Nat) : Int), l.2) :: Q) (k / (d + 1)) (.bool true) (by omega) (by simp; omega) (Nat.le_trans (Nat.div_le_self _ _) hk)
    refine ⟨z1, z5, z6, ?_⟩
    have e1 : (((P' ++ [l]).length : Nat) : Int) - 1 = (P'.length : Int) := by simp
    have e2 : putL (P' ++ [l]) (ints (digs (d + 1) (P' ++ [l]).length k).reverse) = putL P' (ints (digs (d + 1) P'.length (k / (d + 1))).reverse) ++ [(((k % (d + 1) : Nat) : Int), l.2)] := by
      rw [List.length_append]
      show putL (P' ++ [l]) (ints (digs (d + 1) (P'.length + 1) k).reverse) = _
      rw [digs, List.reverse_cons, ints, List.map_append, putL_app _ _ _ _ (by simp [digs_length])]
      rfl
    rw [run_loop, e1, e2, List.append_assoc, List.append_assoc]
    generalize run T pr (.loop w_s_l11At_1) = R' at ih ⊢
    have hi : P'.length < n := by omega
    have h0 : (0 : Int) ≤ (P'.length : Int) := by omega
    have hg : ∀ y : Ld, (L.set b (.cells (encL (P' ++ y :: Q)) true))[b]? = some (.cells (encL (P' ++ y :: Q)) true) := fun y => List.getElem?_set_self hb
    have hle : ∀ y : Ld, P'.length * 2 + 1 ≤ (encL (P' ++ y :: Q)).length := by intro y; rw [encL_length]; simp; omega
    have hle2 : ∀ y : Ld, P'.length * 2 + 2 ≤ (encL (P' ++ y :: Q)).length := by intro y; rw [encL_length]; simp; omega
    have hu' := fun y => cellsAt_set_ne (x := y) hu hne
    have ho' := fun y => cellsAt_set_ne (x := y) ho hne2
    have hz : ¬ ((d + 1 : Nat) : Int) = 0 := by omega
    have hw1 : IntKind.i64.wrap ((P'.length : Int) - 1) = (P'.length : Int) - 1 := wrap64 (by omega) (by omega)
    have hw2 : IntKind.i64.wrap (((k / (d + 1) : Nat) : Int)) = ((k / (d + 1) : Nat) : Int) := wrapN (by have := Nat.div_le_self k (d + 1); omega)
    simp +contextual only [w_s_l11At_1, List.singleton_append, hi, h0, hg, hle, hle2, hu', ho', hz, tmodN, tdivN, setRange_midL0, List.set_set, hw1, hw2, wrap_succ (show d < 9223372036854775807 by omega), decide_true, decide_false, go_sem, entry, joinEsc, if_pos, reduceIte, Nat.reduceAdd, Nat.reduceLeDiff, Nat.reduceLT, Nat.reduceEqDiff]
    exact ih

theorem e_s_l11At {q : Nat} {c : Option Nat} {ls : List Ld} {d k : Nat} (h : cellsAt H q = some (encL ls)) (hn : ls.length ≤ 3) (hd : d ≤ 12) (hk : k ≤ 2197) (a b s : Int) : call T pr f_s_l11At [ptV (d : Int) a b (slL q ls.length c) s, .int .i64 k] ⟨H, e⟩ =
    some (ptV (d : Int) a b (slL H.length ls.length none) s, ⟨H ++ [.cells (encL (putL ls (ints (digs (d + 1) ls.length k).reverse))) true], e⟩) := by
  have ha1 := fun L b e' (hb : L[b]? = some (.cells [] true)) hq => append_all (e := e') (L := L) (b := b) (q := q) (n := ls.length) (sz := 2) (bytes := 16) (c := c) (cs := encL ls) hb hq (encL_length ls) (by unfold maxBytes; omega)
  have hf : ∀ (B0 B1 B2 B4 : Blk) (e0 e1 : Option Nat), clean H.length e1 = true → finish 2 H.length e0 (ptV (d : Int) a b (slL (H.length + 3) ls.length none) s) ⟨H ++ [B0, B1, B2, .cells (encL (putL ls (ints (digs (d + 1) ls.length k).reverse))) true, B4], e1⟩ = some (ptV (d : Int) a b (slL H.length ls.length none) s, ⟨H ++ [.cells (encL (putL ls (ints (digs (d + 1) ls.length k).reverse))) true], e0⟩) :=
    fun B0 B1 B2 B4 e0 e1 hc => finish_party _ a b s e0 e1 hc rfl (under_encL _ _)
  have ql : q < H.length + 2 := by have := cellsAt_lt h; omega
  obtain ⟨z1, z5, z6, hl⟩ := loop_s_l11At (pr := pr) (e := none) (L := H ++ [.cells [.int .i64 (d : Int), .int .i64 a, .int .i64 b, slL q ls.length c, .int .i64 s] true, .cells [.int .i64 0, .int .i64 0, .int .i64 0, .slice none 0 0 none, .int .i64 0] true, (if ls.length = 0 then Blk.dead else .cells [] true), .cells (encL ls) true, .cells [.int .i64 d, .int .i64 a, .int .i64 b, slL (H.length + 3) ls.length none, .int .i64 s] true])
    (b := H.length + 3) (u := H.length) (o := H.length + 4) (rb := H.length + 1) (d := d) (x := d) (a := a) (a2 := b) (s := s) (c := none) (pl := slL q ls.length c) (a' := a) (a2' := b) (s' := s) (n := ls.length) (y0 := ptV d a b (slL q ls.length c) s) (by simp) (by rw [cellsAt_new0]; rfl) hd (by rw [cellsAt_newk]; rfl) hn (by omega) (by omega) ls.length ls [] k .undef rfl (by simp) hk
  simp only [set_newk, List.set_cons_succ, List.set_cons_zero, List.append_nil] at hl
  have hw : IntKind.i64.wrap ((ls.length : Int) - 1) = (ls.length : Int) - 1 := wrap64 (by omega) (by omega)
  rw [call_eq t_s_l11At]
  simp +contextual only [a_s_l11At, c_s_l11At, fillParts, ha1, hl, hw, cells_mono h, kill0_new, kill0_cons, kill0_0, hf, ql, under_slice, Nat.add_assoc, Nat.add_lt_add_iff_left, Nat.lt_irrefl, decide_false, clean_minEsc, clean_none, Nat.le_add_right, Nat.le_refl, decide_true, go_sem, entry, joinEsc, if_pos, reduceIte, Nat.reduceAdd, Nat.reduceLeDiff, Nat.reduceLT, Nat.reduceEqDiff]

end Go.Proofs.Ythkgpblohjpcdaa.Slim

/- The places at which a party rests; the law. -/
namespace Go.Proofs.Ythkgpblohjpcdaa.Slim

open Go

set_option linter.unusedSimpArgs false

set_option linter.unusedVariables false

variable {pr : Prims} {H : List Blk} {e : Option Nat}

theorem cells_end (G : List Blk) (cs : List AV) (wr : Bool) : cellsAt (H ++ (G ++ [Blk.cells cs wr])) (H.length + G.length) = some cs := by
  rw [cellsAt_newk, cellsAt_new0, cellsAt_cons0]

theorem putL_more (ls : List Ld) (ss ts : List Int) (h : ls.length = ss.length) : putL ls (ss ++ ts) = putL ls ss := by
  have := putL_app ls [] ss ts h
  simpa [putL] using this

theorem pow_le {n d : Nat} (hn : n ≤ 3) (hd : d ≤ 12) : (d + 1) ^ n ≤ 2197 := by
  have h1 : (d + 1) ^ n ≤ (d + 1) ^ 3 := Nat.pow_le_pow_right (by omega) hn
  have h2 : (d + 1) ^ 3 ≤ 13 ^ 3 := Nat.pow_le_pow_left (by omega) 3
  omega

theorem set_end (G : List Blk) (x y : Blk) : (H ++ (G ++ [x])).set (H.length + G.length) y = H ++ (G ++ [y]) := by
  rw [set_newk]
  simp [List.set_append_right]

theorem three {l : List Int} (h : l.length = 3) : ∃ s0 s1 s2, l = [s0, s1, s2] := by
  match l, h with
  | [s0, s1, s2], _ => exact ⟨s0, s1, s2, rfl⟩

theorem party_bounds {x a b s : Int} {ls : List Ld} (h : partyOk x a b ls s = true) : ls.length ≤ 3 ∧ 1 ≤ x ∧ x ≤ 12 := by
  unfold partyOk onOk beamOk at h
  simp at h
  omega

end Go.Proofs.Ythkgpblohjpcdaa.Slim

/- The safe moves of a party. -/
namespace Go.Proofs.Ythkgpblohjpcdaa.Slim

open Go

set_option linter.unusedSimpArgs false

set_option linter.unusedVariables false

variable {pr : Prims} {H : List Blk} {e : Option Nat}

def movd : List Ld → Nat → Int → List Ld
  | [], _, _ => []
  | l :: ls, 0, p => (p, l.2) :: ls
  | l :: ls, i + 1, p => l :: movd ls i p

theorem movd_length : ∀ (ls : List Ld) (i : Nat) (p : Int), (movd ls i p).length = ls.length
  | [], _, _ => rfl
  | l :: ls, 0, p => rfl
  | l :: ls, i + 1, p => by simp [movd, movd_length ls i p]

theorem movd_split {ls : List Ld} {i : Nat} (p : Int) (hi : i < ls.length) : ∃ P l R, ls = P ++ l :: R ∧ P.length = i ∧ ls[i]? = some l ∧ movd ls i p = P ++ (p, l.2) :: R := by
  induction ls generalizing i with
  | nil => simp at hi
  | cons l ls ih =>
    cases i with
    | zero => exact ⟨[], l, ls, rfl, rfl, rfl, rfl⟩
    | succ i =>
      obtain ⟨P, l', R, h1, h2, h3, h4⟩ := ih (by simpa using hi)
      exact ⟨l :: P, l', R, by rw [h1]; rfl, by simp [h2], by simpa using h3, by rw [movd, h4]; rfl⟩

theorem putL_set : ∀ (ls : List Ld) (ss : List Int) (i : Nat) (p : Int), i < ls.length → ls.length ≤ ss.length → putL ls (ss.set i p) = movd (putL ls ss) i p
  | [], ss, i, p, hi, hl => by simp at hi
  | l :: ls, [], i, p, hi, hl => by simp at hl
  | l :: ls, s :: ss, 0, p, hi, hl => rfl
  | l :: ls, s :: ss, i + 1, p, hi, hl => by
    have := putL_set ls ss i p (by simpa using hi) (by simpa using hl)
    simp [putL, movd, this]

theorem setRange_movd {ls : List Ld} {i : Nat} (p : Int) (hi : i < ls.length) : setRange (encL ls) (i * 2) [.int .i64 p] = encL (movd ls i p) := by
  obtain ⟨P, l, R, h1, h2, _, h4⟩ := movd_split p hi
  rw [h4, h1, ← h2]
  exact setRange_midL0 P R l p

def okMv (x a b : Int) (ls : List Ld) (i : Nat) (p : Int) : Bool := (decide (0 ≤ p) && decide (p ≤ x)) && decide (sideW (movd ls i p) a b = 0)

def plOf (ls : List Ld) (i : Nat) : Int := (ls[i]?.getD (0, 0)).1

def safeMv (x a b : Int) (ls : List Ld) (s i p : Int) : Bool := ((decide (0 ≤ i) && decide (i ≤ (ls.length : Int) - 1)) && (decide (0 ≤ p) && decide (p ≤ x))) && ((decide (wr (p - plOf ls i.toNat) = s) || decide (wr (p - plOf ls i.toNat) = wr (0 - s))) && decide (sideW (movd ls i.toNat p) a b = 0))

theorem at02 : ((0 : Int) ≤ 0 ∧ (0 : Int) < ((2 : Nat) : Int)) = True := by simp

theorem at12 : ((0 : Int) ≤ 1 ∧ (1 : Int) < ((2 : Nat) : Int)) = True := by simp

theorem toNat0 : Int.toNat 0 = 0 := rfl

theorem toNat1 : Int.toNat 1 = 1 := rfl

theorem e_s_l11Moved {q : Nat} {c : Option Nat} {ls : List Ld} (h : cellsAt H q = some (encL ls)) (hn : ls.length ≤ 3) (x a b s p : Int) {i : Nat} (hi : i < ls.length) : call T pr f_s_l11Moved [ptV x a b (slL q ls.length c) s, .agg [.int .i64 i, .int .i64 p]] ⟨H, e⟩ =
    some (ptV x a b (slL H.length ls.length none) s, ⟨H ++ [.cells (encL (movd ls i p)) true], e⟩) := by
  have ha1 := fun L b e' (hb : L[b]? = some (.cells [] true)) hq => append_all (e := e') (L := L) (b := b) (q := q) (n := ls.length) (sz := 2) (bytes := 16) (c := c) (cs := encL ls) hb hq (encL_length ls) (by unfold maxBytes; omega)
  have hf : ∀ (B0 B1 B2 B3 B5 : Blk) (e0 e1 : Option Nat), clean H.length e1 = true → finish 2 H.length e0 (ptV x a b (slL (H.length + 4) ls.length none) s) ⟨H ++ [B0, B1, B2, B3, .cells (encL (movd ls i p)) true, B5], e1⟩ = some (ptV x a b (slL H.length ls.length none) s, ⟨H ++ [.cells (encL (movd ls i p)) true], e0⟩) :=
    fun B0 B1 B2 B3 B5 e0 e1 hc => finish_party _ a b s e0 e1 hc rfl (under_encL _ _)
  have ql : q < H.length + 3 := by have := cellsAt_lt h; omega
  have hle : i * 2 + 1 ≤ (encL ls).length := by rw [encL_length]; omega
  have hle2 : i * 2 + 2 ≤ (encL ls).length := by rw [encL_length]; omega
  rw [call_eq t_s_l11Moved]
  simp +contextual only [at02, at12, toNat0, toNat1, a_s_l11Moved, c_s_l11Moved, fillParts, ha1, hi, hle, hle2, setRange_movd p hi, cells_mono h, kill0_new, kill0_cons, kill0_0, hf, ql, under_slice, Nat.add_assoc, Nat.add_lt_add_iff_left, Nat.lt_irrefl, decide_false, clean_minEsc, clean_none, Nat.le_add_right, Nat.le_refl, decide_true, go_sem, entry, joinEsc, if_pos, reduceIte, Nat.reduceAdd, Nat.reduceLeDiff, Nat.reduceLT, Nat.reduceEqDiff]

theorem e_s_l11Safe {q : Nat} {c : Option Nat} {ls : List Ld} (h : cellsAt H q = some (encL ls)) (hn : ls.length ≤ 3) (x a b s i p : Int) : call T pr f_s_l11Safe [ptV x a b (slL q ls.length c) s, .agg [.int .i64 i, .int .i64 p]] ⟨H, e⟩ =
    some (.bool (safeMv x a b ls s i p), ⟨H, e⟩) := by
  have hw1 : IntKind.i64.wrap ((ls.length : Int) - 1) = (ls.length : Int) - 1 := wrap64 (by omega) (by omega)
  rw [call_eq t_s_l11Safe]
  unfold safeMv
  cases h1 : (decide (0 ≤ i) && decide (i ≤ (ls.length : Int) - 1)) with
  | false => simp +contextual only [at02, at12, toNat0, toNat1, a_s_l11Safe, c_s_l11Safe, e_s_l1In, hw1, h1, go_sem, entry, joinEsc, if_pos, reduceIte, Nat.reduceAdd, Nat.reduceLeDiff, Nat.reduceLT, Nat.reduceEqDiff]
  | true =>
    cases h2 : (decide (0 ≤ p) && decide (p ≤ x)) with
    | false => simp +contextual only [at02, at12, toNat0, toNat1, a_s_l11Safe, c_s_l11Safe, e_s_l1In, hw1, h1, h2, Bool.and_false, go_sem, entry, joinEsc, if_pos, reduceIte, Nat.reduceAdd, Nat.reduceLeDiff, Nat.reduceLT, Nat.reduceEqDiff]
    | true =>
      have hb : 0 ≤ i ∧ i ≤ (ls.length : Int) - 1 := by simpa using h1
      obtain ⟨k, rfl⟩ : ∃ k : Nat, i = k := ⟨i.toNat, by omega⟩
      have hi : k < ls.length := by omega
      have hl : ls[k]? = some ls[k] := List.getElem?_eq_getElem hi
      have hp : plOf ls k = ls[k].1 := by unfold plOf; rw [hl]; rfl
      have hmv := fun G => e_s_l11Moved (pr := pr) (e := none) (c := c) (cells_mono h G) hn x a b s p hi
      have hrs := fun L q' c' (h : cellsAt L q' = some (encL (movd ls k p))) => e_s_l11Rests (pr := pr) (e := none) (c := c') h (by rw [movd_length]; omega) x a b s
      simp only [movd_length] at hrs
      rw [Int.toNat_natCast, hp]
      unfold wr
      generalize hfar : IntKind.i64.wrap (p - ls[k].1) = far
      cases h3 : decide (far = s) with
      | true =>
        simp +contextual only [at02, at12, toNat0, toNat1, a_s_l11Safe, c_s_l11Safe, e_s_l1In, hw1, hb.2, h1, h2, hi, cells_mono h, part_encL0 _ hl, hfar, h3, hmv, hrs, Nat.add_assoc, decide_true, Bool.true_or, go_sem, entry, joinEsc, if_pos, reduceIte, Nat.reduceAdd, Nat.reduceLeDiff, Nat.reduceLT, Nat.reduceEqDiff]
      | false =>
        cases h4 : decide (far = IntKind.i64.wrap (0 - s)) with
        | true =>
          simp +contextual only [at02, at12, toNat0, toNat1, a_s_l11Safe, c_s_l11Safe, e_s_l1In, hw1, hb.2, h1, h2, hi, cells_mono h, part_encL0 _ hl, hfar, h3, h4, hmv, hrs, Nat.add_assoc, decide_true, Bool.false_or, go_sem, entry, joinEsc, if_pos, reduceIte, Nat.reduceAdd, Nat.reduceLeDiff, Nat.reduceLT, Nat.reduceEqDiff]
        | false =>
          simp +contextual only [at02, at12, toNat0, toNat1, a_s_l11Safe, c_s_l11Safe, e_s_l1In, hw1, hb.2, h1, h2, hi, cells_mono h, part_encL0 _ hl, hfar, h3, h4, Nat.add_assoc, decide_true, Bool.false_or, go_sem, entry, joinEsc, if_pos, reduceIte, Nat.reduceAdd, Nat.reduceLeDiff, Nat.reduceLT, Nat.reduceEqDiff]

theorem append_ld2 {G : List Blk} {B : Blk} {j : Nat} {o : List Ld} {cap : Option Nat} (hG : G[j]? = some (.cells (encL o) true)) (hcap : cap = some 0 → o = []) (hmb : (o.length + 1) * 16 ≤ maxBytes) (a b : Int) :
    appendV (H ++ (G ++ [B, .cells [.int .i64 a, .int .i64 b] true])) e false 2 16 (slL (H.length + j) o.length cap) (.slice (some (H.length + (G.length + 1), 0)) 2 1 (some 1)) =
      some (slL (H.length + (G.length + 2)) (o.length + 1) none, ⟨H ++ (killIf cap j (G ++ [B, .cells [.int .i64 a, .int .i64 b] true]) ++ [.cells (encL o ++ [.int .i64 a, .int .i64 b]) true]), e⟩) := by
  have hj : j < G.length := (List.getElem?_eq_some_iff.mp hG).1
  have h := append_ld (H := H) (e := e) (G := G ++ [B]) (j := j) (o := o) (cap := cap) (by rw [List.getElem?_append_left hj]; exact hG) hcap hmb a b
  simpa [Nat.add_assoc] using h

def selM (x a b : Int) (ls : List Ld) (i : Nat) (ps : List Int) : List Ld := (ps.filter (okMv x a b ls i)).map fun p => ((i : Int), p)

theorem selM_cons (x a b : Int) (ls : List Ld) (i : Nat) (p : Int) (ps : List Int) : selM x a b ls i (p :: ps) = if okMv x a b ls i p = true then ((i : Int), p) :: selM x a b ls i ps else selM x a b ls i ps := by
  unfold selM
  cases h : okMv x a b ls i p <;> simp [h]

theorem set3 {s0 s1 s2 p : Int} {i : Nat} (hi : i < 3) : ∃ t0 t1 t2, [s0, s1, s2].set i p = [t0, t1, t2] ∧ setRange [.int .i64 s0, .int .i64 s1, .int .i64 s2] i [.int .i64 p] = [.int .i64 t0, .int .i64 t1, .int .i64 t2] := by
  match i, hi with
  | 0, _ => exact ⟨p, s1, s2, rfl, rfl⟩
  | 1, _ => exact ⟨s0, p, s2, rfl, rfl⟩
  | 2, _ => exact ⟨s0, s1, p, rfl, rfl⟩

theorem loop_i_moves_1 {q u sb i n : Nat} {c : Option Nat} {ls : List Ld} {x a b s s0 s1 s2 p0 p1 : Int} {y0 y1 y4 y9 y10 y11 : AV} (h : cellsAt H q = some (encL ls)) (hn : ls.length ≤ 3) (hi : i < ls.length) (hu : cellsAt H u = some [.int .i64 x, .int .i64 a, .int .i64 b, slL q ls.length c, .int .i64 s]) (hs : cellsAt H sb = some [.int .i64 s0, .int .i64 s1, .int .i64 s2]) :
    ∀ (k j : Nat) (o : List Ld) (jb : Nat) (cap : Option Nat) (G : List Blk) (y7 y8 y14 y15 : AV), k + j = 2 → o.length + k ≤ 1000 → G[jb]? = some (.cells (encL o) true) → (cap = some 0 → o = []) →
      ∃ (jb' : Nat) (cap' : Option Nat) (G' : List Blk) (z7 z8 z14 z15 : AV), G'[jb']? = some (.cells (encL (o ++ selM x a b (putL ls [s0, s1, s2]) i ([p0, p1].drop j))) true) ∧ (cap' = some 0 → o ++ selM x a b (putL ls [s0, s1, s2]) i ([p0, p1].drop j) = []) ∧
      run T pr (.loop w_i_Party_moves_1) ⟨[y0, y1, .ptr (some (u, 0)), .ptr (some (sb, 0)), y4, slL (H.length + jb) o.length cap, .int .i64 i, y7, y8, y9, y10, y11, .agg [.int .i64 p0, .int .i64 p1], .int .i64 j, y14, y15], ⟨H ++ G, e⟩⟩ =
        some (Ex.exit 2, ⟨[y0, y1, .ptr (some (u, 0)), .ptr (some (sb, 0)), y4, slL (H.length + jb') (o ++ selM x a b (putL ls [s0, s1, s2]) i ([p0, p1].drop j)).length cap', .int .i64 i, z7, z8, y9, y10, y11, .agg [.int .i64 p0, .int .i64 p1], .int .i64 (2 : Nat), z14, z15], ⟨H ++ G', e⟩⟩)
  | 0, j, o, jb, cap, G, y7, y8, y14, y15, hk, ho, hG, hcap => by
    obtain rfl : j = 2 := by omega
    have h0 : o ++ selM x a b (putL ls [s0, s1, s2]) i ([p0, p1].drop 2) = o := by simp [selM]
    rw [h0]
    refine ⟨jb, cap, G, y7, y8, .bool false, y15, hG, hcap, ?_⟩
    rw [run_loop]
    generalize run T pr (.loop w_i_Party_moves_1) = R
    have h2 : ¬ ((2 : Nat) : Int) < 2 := by omega
    simp +contextual only [w_i_Party_moves_1, h2, decide_false, go_sem, entry, joinEsc, if_pos, reduceIte, Nat.reduceAdd, Nat.reduceLeDiff, Nat.reduceLT, Nat.reduceEqDiff]
  | k + 1, j, o, jb, cap, G, y7, y8, y14, y15, hk, ho, hG, hcap => by
    have hj : j < 2 := by omega
    have hj2 : (j : Int) < 2 := by omega
    obtain ⟨p, hdrop, hpart⟩ : ∃ p, [p0, p1].drop j = p :: [p0, p1].drop (j + 1) ∧ part false [AV.int .i64 p0, AV.int .i64 p1] j 1 = some (.int .i64 p) := by
      match j, hj with
      | 0, _ => exact ⟨p0, rfl, rfl⟩
      | 1, _ => exact ⟨p1, rfl, rfl⟩
    obtain ⟨t0, t1, t2, ht, hset⟩ := set3 (s0 := s0) (s1 := s1) (s2 := s2) (p := p) (show i < 3 by omega)
    have hput : putL ls [t0, t1, t2] = movd (putL ls [s0, s1, s2]) i p := by rw [← ht]; exact putL_set ls _ i p hi hn
    have hrest := fun G' => e_i_Party_rests (pr := pr) (e := e) (c := c) (cells_mono h G') hn x a b s t0 t1 t2
    rw [hput] at hrest
    have hi3 : i < 3 := by omega
    have hle : i + 1 ≤ 3 := by omega
    have hmb : (o.length + 1) * 16 ≤ maxBytes := by unfold maxBytes; omega
    rw [run_loop, hdrop, selM_cons]
    have hokd : okMv x a b (putL ls [s0, s1, s2]) i p = ((decide (0 ≤ p) && decide (p ≤ x)) && decide (sideW (movd (putL ls [s0, s1, s2]) i p) a b = 0)) := rfl
    by_cases hok : okMv x a b (putL ls [s0, s1, s2]) i p = true
    · rw [if_pos hok]
      obtain ⟨jb', cap', G', z7, z8, z14, z15, h1, h2, ih⟩ := loop_i_moves_1 (y0 := y0) (y1 := y1) (y4 := y4) (y9 := y9) (y10 := y10) (y11 := y11) (p0 := p0) (p1 := p1) (n := n) h hn hi hu hs k (j + 1) (o ++ [((i : Int), p)]) (G.length + 2) none
        (killIf cap jb (G ++ [.cells [.int .i64 t0, .int .i64 t1, .int .i64 t2] true, .cells [.int .i64 i, .int .i64 p] true]) ++ [.cells (encL (o ++ [((i : Int), p)])) true]) (.int .i64 p) (.ptr (some (H.length + G.length, 0))) (.bool true) (.bool true) (by omega) (by simp; omega) (by
          rw [List.getElem?_append_right (by simp [killIf_length])]; simp [killIf_length]) (by simp)
      rw [List.append_assoc, List.singleton_append] at h1 ih h2
      refine ⟨jb', cap', G', z7, z8, z14, z15, h1, h2, ?_⟩
      rw [hokd] at hok
      obtain ⟨hok1, hok2⟩ := Bool.and_eq_true_iff.mp hok
      rw [hok2] at hrest
      generalize run T pr (.loop w_i_Party_moves_1) = R at ih ⊢
      simp +contextual only [w_i_Party_moves_1, fillParts, hj, hj2, hpart, cells_mono hu, cells_mono hs, hi3, hle, hset, e_i_within, hok1, hrest, cells_end, set_end, append_ld2 hG hcap hmb, wrap_succ (show j < 9223372036854775807 by omega), decide_true, decide_false, go_sem, entry, joinEsc, if_pos, reduceIte, Nat.reduceAdd, Nat.reduceLeDiff, Nat.reduceLT, Nat.reduceEqDiff]
      simp only [List.length_append, List.length_cons, List.length_nil, Nat.zero_add, encL_append, encL] at ih
      exact ih
    · rw [if_neg hok]
      have hfalse : okMv x a b (putL ls [s0, s1, s2]) i p = false := by simpa using hok
      obtain ⟨jb', cap', G', z7, z8, z14, z15, h1, h2, ih⟩ := loop_i_moves_1 (y0 := y0) (y1 := y1) (y4 := y4) (y9 := y9) (y10 := y10) (y11 := y11) (p0 := p0) (p1 := p1) (n := n) h hn hi hu hs k (j + 1) o jb cap
        (G ++ [.cells [.int .i64 t0, .int .i64 t1, .int .i64 t2] true]) (.int .i64 p) (.ptr (some (H.length + G.length, 0))) (.bool true) (.bool false) (by omega) (by omega) (by
          rw [List.getElem?_append_left (List.getElem?_eq_some_iff.mp hG).1]; exact hG) hcap
      refine ⟨jb', cap', G', z7, z8, z14, z15, h1, h2, ?_⟩
      rw [hokd] at hfalse
      generalize run T pr (.loop w_i_Party_moves_1) = R at ih ⊢
      cases hok1 : (decide (0 ≤ p) && decide (p ≤ x)) with
      | false =>
        simp +contextual only [w_i_Party_moves_1, fillParts, hj, hj2, hpart, cells_mono hu, cells_mono hs, hi3, hle, hset, e_i_within, hok1, cells_end, set_end, wrap_succ (show j < 9223372036854775807 by omega), decide_true, decide_false, go_sem, entry, joinEsc, if_pos, reduceIte, Nat.reduceAdd, Nat.reduceLeDiff, Nat.reduceLT, Nat.reduceEqDiff]
        simp only [List.length_append] at ih
        exact ih
      | true =>
        rw [hok1, Bool.true_and] at hfalse
        rw [hfalse] at hrest
        simp +contextual only [w_i_Party_moves_1, fillParts, hj, hj2, hpart, cells_mono hu, cells_mono hs, hi3, hle, hset, e_i_within, hok1, hrest, cells_end, set_end, wrap_succ (show j < 9223372036854775807 by omega), decide_true, decide_false, go_sem, entry, joinEsc, if_pos, reduceIte, Nat.reduceAdd, Nat.reduceLeDiff, Nat.reduceLT, Nat.reduceEqDiff]
        simp only [List.length_append] at ih
        exact ih

def mvsFrom (x a b s : Int) (ls : List Ld) : Nat → Nat → List Ld
  | 0, _ => []
  | k + 1, i => selM x a b ls i [wr (plOf ls i - s), wr (plOf ls i + s)] ++ mvsFrom x a b s ls k (i + 1)

theorem selM_le (x a b : Int) (ls : List Ld) (i : Nat) (ps : List Int) : (selM x a b ls i ps).length ≤ ps.length := by
  unfold selM
  rw [List.length_map]
  exact List.length_filter_le _ _

theorem plOf_putL : ∀ (ls : List Ld) (ss : List Int) (i : Nat) (p : Int), i < ls.length → ss[i]? = some p → plOf (putL ls ss) i = p
  | [], ss, i, p, hi, hp => by simp at hi
  | l :: ls, [], i, p, hi, hp => by simp at hp
  | l :: ls, s :: ss, 0, p, hi, hp => by simp at hp; subst hp; rfl
  | l :: ls, s :: ss, i + 1, p, hi, hp => plOf_putL ls ss i p (by simpa using hi) (by simpa using hp)

theorem loop_i_moves_2 {q u sb : Nat} {c : Option Nat} {ls : List Ld} {x a b s s0 s1 s2 : Int} {y0 y1 y4 : AV} (h : cellsAt H q = some (encL ls)) (hn : ls.length ≤ 3) (hu : cellsAt H u = some [.int .i64 x, .int .i64 a, .int .i64 b, slL q ls.length c, .int .i64 s]) (hs : cellsAt H sb = some [.int .i64 s0, .int .i64 s1, .int .i64 s2]) :
    ∀ (k i : Nat) (o : List Ld) (jb : Nat) (cap : Option Nat) (G : List Blk) (y6 y7 y8 y11 y12 y13 y14 y15 : AV), k + i = ls.length → o.length + k * 2 ≤ 100 → G[jb]? = some (.cells (encL o) true) → (cap = some 0 → o = []) →
      ∃ (jb' : Nat) (cap' : Option Nat) (G' : List Blk) (z6 z7 z8 z11 z12 z13 z14 z15 : AV), G'[jb']? = some (.cells (encL (o ++ mvsFrom x a b s (putL ls [s0, s1, s2]) k i)) true) ∧
      run T pr (.loop w_i_Party_moves_2) ⟨[y0, y1, .ptr (some (u, 0)), .ptr (some (sb, 0)), y4, slL (H.length + jb) o.length cap, y6, y7, y8, .int .i64 ls.length, .int .i64 i, y11, y12, y13, y14, y15], ⟨H ++ G, e⟩⟩ =
        some (Ex.exit 0, ⟨[y0, y1, .ptr (some (u, 0)), .ptr (some (sb, 0)), y4, slL (H.length + jb') (o ++ mvsFrom x a b s (putL ls [s0, s1, s2]) k i).length cap', z6, z7, z8, .int .i64 ls.length, .int .i64 ls.length, z11, z12, z13, z14, z15], ⟨H ++ G', e⟩⟩)
  | 0, i, o, jb, cap, G, y6, y7, y8, y11, y12, y13, y14, y15, hk, ho, hG, hcap => by
    obtain rfl : i = ls.length := by omega
    refine ⟨jb, cap, G, y6, y7, y8, .bool false, y12, y13, y14, y15, by simpa [mvsFrom] using hG, ?_⟩
    rw [run_loop, mvsFrom, List.append_nil]
    generalize run T pr (.loop w_i_Party_moves_2) = R
    simp +contextual only [w_i_Party_moves_2, Nat.lt_irrefl, decide_false, go_sem, entry, joinEsc, if_pos, reduceIte, Nat.reduceAdd, Nat.reduceLeDiff, Nat.reduceLT, Nat.reduceEqDiff]
  | k + 1, i, o, jb, cap, G, y6, y7, y8, y11, y12, y13, y14, y15, hk, ho, hG, hcap => by
    have hi : i < ls.length := by omega
    have hi3 : i < 3 := by omega
    have hsi : [s0, s1, s2][i]? = some (plOf (putL ls [s0, s1, s2]) i) := by
      have h1 : [s0, s1, s2][i]? = some ([s0, s1, s2][i]'hi3) := List.getElem?_eq_getElem hi3
      rw [plOf_putL ls _ i _ hi h1, h1]
    have hpart : part false [AV.int .i64 s0, AV.int .i64 s1, AV.int .i64 s2] i 1 = some (.int .i64 (plOf (putL ls [s0, s1, s2]) i)) := part_encI 1 hsi
    obtain ⟨jb1, cap1, G1, w7, w8, w14, w15, g1, g2, hl⟩ := loop_i_moves_1 (pr := pr) (e := e) (n := ls.length) (y0 := y0) (y1 := y1) (y4 := y4) (y9 := .int .i64 ls.length) (y10 := .int .i64 i) (y11 := .bool true) (p0 := wr (plOf (putL ls [s0, s1, s2]) i - s)) (p1 := wr (plOf (putL ls [s0, s1, s2]) i + s)) h hn hi hu hs 2 0 o jb cap G y7 y8 y14 y15 rfl (by omega) hG hcap
    rw [List.drop_zero] at g1 g2 hl
    have hsel := selM_le x a b (putL ls [s0, s1, s2]) i [wr (plOf (putL ls [s0, s1, s2]) i - s), wr (plOf (putL ls [s0, s1, s2]) i + s)]
    simp only [List.length_cons, List.length_nil, Nat.zero_add] at hsel
    obtain ⟨jb', cap', G', z6, z7, z8, z11, z12, z13, z14, z15, h1, ih⟩ := loop_i_moves_2 (y0 := y0) (y1 := y1) (y4 := y4) h hn hu hs k (i + 1) (o ++ selM x a b (putL ls [s0, s1, s2]) i [wr (plOf (putL ls [s0, s1, s2]) i - s), wr (plOf (putL ls [s0, s1, s2]) i + s)]) jb1 cap1 G1 (.int .i64 i) w7 w8 (.bool true) (.agg [.int .i64 (wr (plOf (putL ls [s0, s1, s2]) i - s)), .int .i64 (wr (plOf (putL ls [s0, s1, s2]) i + s))]) (.int .i64 (2 : Nat)) w14 w15 (by omega) (by rw [List.length_append]; omega) g1 g2
    rw [List.append_assoc] at h1 ih
    refine ⟨jb', cap', G', z6, z7, z8, z11, z12, z13, z14, z15, h1, ?_⟩
    have h0 : ((0 : Nat) : Int) = 0 := rfl
    rw [run_loop, mvsFrom]
    unfold wr at *
    rw [h0] at hl
    generalize run T pr (.loop w_i_Party_moves_2) = R at ih ⊢
    generalize selM x a b (putL ls [s0, s1, s2]) i [IntKind.i64.wrap (plOf (putL ls [s0, s1, s2]) i - s), IntKind.i64.wrap (plOf (putL ls [s0, s1, s2]) i + s)] = sel at *
    generalize mvsFrom x a b s (putL ls [s0, s1, s2]) k (i + 1) = rest at *
    simp +contextual only [w_i_Party_moves_2, fillParts, hi, hi3, hpart, cells_mono hu, cells_mono hs, hl, wrap_succ (show i < 9223372036854775807 by omega), decide_true, decide_false, go_sem, entry, joinEsc, if_pos, reduceIte, Nat.reduceAdd, Nat.reduceLeDiff, Nat.reduceLT, Nat.reduceEqDiff]
    simp only [List.length_append] at ih
    exact ih

def plB (ls : List Ld) : Prop := ∀ i, i < ls.length → 0 ≤ plOf ls i ∧ plOf ls i ≤ 60

theorem safe_ok {x a b s : Int} {ls : List Ld} {i : Nat} (hi : i < ls.length) (hpl : plB ls) (hs : 1 ≤ s ∧ s ≤ 4) {p : Int} (hp : p = wr (plOf ls i - s) ∨ p = wr (plOf ls i + s)) : safeMv x a b ls s i p = okMv x a b ls i p := by
  obtain ⟨h1, h2⟩ := hpl i hi
  have w1 : wr (plOf ls i - s) = plOf ls i - s := wrap64 (by omega) (by omega)
  have w2 : wr (plOf ls i + s) = plOf ls i + s := wrap64 (by omega) (by omega)
  have w3 : wr (0 - s) = - s := by show IntKind.i64.wrap (0 - s) = - s; rw [wrap64 (by omega) (by omega)]; omega
  have w4 : wr (p - plOf ls i) = p - plOf ls i := wrap64 (by omega) (by omega)
  have hr : (decide (0 ≤ (i : Int)) && decide ((i : Int) ≤ (ls.length : Int) - 1)) = true := by simp; omega
  unfold safeMv okMv
  rw [hr, Int.toNat_natCast, w3, w4, Bool.true_and]
  have : (decide (p - plOf ls i = s) || decide (p - plOf ls i = -s)) = true := by
    rw [w1, w2] at hp
    simp
    omega
  rw [this, Bool.true_and]

theorem loop_s_moves_1 {q u i : Nat} {c : Option Nat} {ls : List Ld} {x a b s : Int} {y0 y2 y7 : AV} (h : cellsAt H q = some (encL ls)) (hn : ls.length ≤ 3) (hi : i < ls.length) (hpl : plB ls) (hsb : 1 ≤ s ∧ s ≤ 4) (hu : cellsAt H u = some [.int .i64 x, .int .i64 a, .int .i64 b, slL q ls.length c, .int .i64 s]) :
    ∀ (k j : Nat) (o : List Ld) (jb : Nat) (cap : Option Nat) (G : List Blk) (y6 y8 y9 : AV), k + j = 2 → o.length + k ≤ 1000 → G[jb]? = some (.cells (encL o) true) → (cap = some 0 → o = []) →
      ∃ (jb' : Nat) (cap' : Option Nat) (G' : List Blk) (z5 z6 z8 z9 : AV), G'[jb']? = some (.cells (encL (o ++ selM x a b ls i ([wr (plOf ls i - s), wr (plOf ls i + s)].drop j))) true) ∧ (cap' = some 0 → o ++ selM x a b ls i ([wr (plOf ls i - s), wr (plOf ls i + s)].drop j) = []) ∧
      run T pr (.loop w_s_l11Moves_1) ⟨[y0, .ptr (some (u, 0)), y2, slL (H.length + jb) o.length cap, .int .i64 i, .int .i64 (2 * (j : Int) - 1), y6, y7, y8, y9], ⟨H ++ G, e⟩⟩ =
        some (Ex.exit 2, ⟨[y0, .ptr (some (u, 0)), y2, slL (H.length + jb') (o ++ selM x a b ls i ([wr (plOf ls i - s), wr (plOf ls i + s)].drop j)).length cap', .int .i64 i, z5, z6, y7, z8, z9], ⟨H ++ G', e⟩⟩)
  | 0, j, o, jb, cap, G, y6, y8, y9, hk, ho, hG, hcap => by
    obtain rfl : j = 2 := by omega
    have h0 : o ++ selM x a b ls i ([wr (plOf ls i - s), wr (plOf ls i + s)].drop 2) = o := by simp [selM]
    rw [h0]
    refine ⟨jb, cap, G, .int .i64 3, y6, .bool false, y9, hG, hcap, ?_⟩
    have h3 : 2 * ((2 : Nat) : Int) - 1 = 3 := rfl
    rw [run_loop, h3]
    generalize run T pr (.loop w_s_l11Moves_1) = R
    have h2 : ¬ (3 : Int) < 2 := by omega
    simp +contextual only [w_s_l11Moves_1, h2, decide_false, go_sem, entry, joinEsc, if_pos, reduceIte, Nat.reduceAdd, Nat.reduceLeDiff, Nat.reduceLT, Nat.reduceEqDiff]
  | k + 1, j, o, jb, cap, G, y6, y8, y9, hk, ho, hG, hcap => by
    have hj : j < 2 := by omega
    have hj2 : 2 * (j : Int) - 1 < 2 := by omega
    have hl : ls[i]? = some ls[i] := List.getElem?_eq_getElem hi
    have hp : plOf ls i = ls[i].1 := by unfold plOf; rw [hl]; rfl
    obtain ⟨p, hdrop, hpp, hpor⟩ : ∃ p, [wr (plOf ls i - s), wr (plOf ls i + s)].drop j = p :: [wr (plOf ls i - s), wr (plOf ls i + s)].drop (j + 1) ∧ IntKind.i64.wrap (ls[i].1 + IntKind.i64.wrap ((2 * (j : Int) - 1) * s)) = p ∧ (p = wr (plOf ls i - s) ∨ p = wr (plOf ls i + s)) := by
      rw [← hp]
      match j, hj with
      | 0, _ =>
        refine ⟨_, rfl, ?_, .inl rfl⟩
        have e1 : IntKind.i64.wrap ((2 * ((0 : Nat) : Int) - 1) * s) = -s := by
          rw [show (2 * ((0 : Nat) : Int) - 1) * s = -s by simp]
          exact wrap64 (by omega) (by omega)
        rw [e1]
        rfl
      | 1, _ =>
        refine ⟨_, rfl, ?_, .inr rfl⟩
        have e1 : IntKind.i64.wrap ((2 * ((1 : Nat) : Int) - 1) * s) = s := by
          rw [show (2 * ((1 : Nat) : Int) - 1) * s = s by simp]
          exact wrap64 (by omega) (by omega)
        rw [e1]
    have hsafe := fun G' => e_s_l11Safe (pr := pr) (e := e) (c := c) (cells_mono h G') hn x a b s i p
    rw [safe_ok hi hpl hsb hpor] at hsafe
    have hmb : (o.length + 1) * 16 ≤ maxBytes := by unfold maxBytes; omega
    have hw3 : IntKind.i64.wrap (2 * (j : Int) - 1 + 2) = 2 * ((j + 1 : Nat) : Int) - 1 := by rw [wrap64 (by omega) (by omega)]; omega
    rw [run_loop, hdrop, selM_cons]
    by_cases hok : okMv x a b ls i p = true
    · rw [if_pos hok]
      rw [hok] at hsafe
      obtain ⟨jb', cap', G', z5, z6, z8, z9, h1, h2, ih⟩ := loop_s_moves_1 (y0 := y0) (y2 := y2) (y7 := y7) h hn hi hpl hsb hu k (j + 1) (o ++ [((i : Int), p)]) (G.length + 2) none
        (killIf cap jb (G ++ [.cells [.int .i64 i, .int .i64 p] true, .cells [.int .i64 i, .int .i64 p] true]) ++ [.cells (encL (o ++ [((i : Int), p)])) true]) (.ptr (some (H.length + G.length, 0))) (.bool true) (.bool true) (by omega) (by simp; omega) (by
          rw [List.getElem?_append_right (by simp [killIf_length])]; simp [killIf_length]) (by simp)
      rw [List.append_assoc, List.singleton_append] at h1 ih h2
      refine ⟨jb', cap', G', z5, z6, z8, z9, h1, h2, ?_⟩
      generalize run T pr (.loop w_s_l11Moves_1) = R at ih ⊢
      simp +contextual only [w_s_l11Moves_1, fillParts, hj2, hi, hl, part_encL0 _ hl, hpp, hw3, cells_mono h, cells_mono hu, hsafe, cells_end, set_end, append_ld2 hG hcap hmb, decide_true, decide_false, go_sem, entry, joinEsc, if_pos, reduceIte, Nat.reduceAdd, Nat.reduceLeDiff, Nat.reduceLT, Nat.reduceEqDiff]
      simp only [List.length_append, List.length_cons, List.length_nil, Nat.zero_add, encL_append, encL] at ih
      exact ih
    · rw [if_neg hok]
      have hfalse : okMv x a b ls i p = false := by simpa using hok
      rw [hfalse] at hsafe
      obtain ⟨jb', cap', G', z5, z6, z8, z9, h1, h2, ih⟩ := loop_s_moves_1 (y0 := y0) (y2 := y2) (y7 := y7) h hn hi hpl hsb hu k (j + 1) o jb cap
        (G ++ [.cells [.int .i64 i, .int .i64 p] true]) (.ptr (some (H.length + G.length, 0))) (.bool true) (.bool false) (by omega) (by omega) (by
          rw [List.getElem?_append_left (List.getElem?_eq_some_iff.mp hG).1]; exact hG) hcap
      refine ⟨jb', cap', G', z5, z6, z8, z9, h1, h2, ?_⟩
      generalize run T pr (.loop w_s_l11Moves_1) = R at ih ⊢
      simp +contextual only [w_s_l11Moves_1, fillParts, hj2, hi, hl, part_encL0 _ hl, hpp, hw3, cells_mono h, cells_mono hu, hsafe, cells_end, set_end, decide_true, decide_false, go_sem, entry, joinEsc, if_pos, reduceIte, Nat.reduceAdd, Nat.reduceLeDiff, Nat.reduceLT, Nat.reduceEqDiff]
      simp only [List.length_append] at ih
      exact ih

theorem loop_s_moves_2 {q u : Nat} {c : Option Nat} {ls : List Ld} {x a b s : Int} {y0 y2 : AV} (h : cellsAt H q = some (encL ls)) (hn : ls.length ≤ 3) (hpl : plB ls) (hsb : 1 ≤ s ∧ s ≤ 4) (hu : cellsAt H u = some [.int .i64 x, .int .i64 a, .int .i64 b, slL q ls.length c, .int .i64 s]) :
    ∀ (k i : Nat) (o : List Ld) (jb : Nat) (cap : Option Nat) (G : List Blk) (y5 y6 y7 y8 y9 : AV), k + i = ls.length → o.length + k * 2 ≤ 100 → G[jb]? = some (.cells (encL o) true) → (cap = some 0 → o = []) →
      ∃ (jb' : Nat) (cap' : Option Nat) (G' : List Blk) (z5 z6 z7 z8 z9 : AV), G'[jb']? = some (.cells (encL (o ++ mvsFrom x a b s ls k i)) true) ∧
      run T pr (.loop w_s_l11Moves_2) ⟨[y0, .ptr (some (u, 0)), y2, slL (H.length + jb) o.length cap, .int .i64 i, y5, y6, y7, y8, y9], ⟨H ++ G, e⟩⟩ =
        some (Ex.exit 0, ⟨[y0, .ptr (some (u, 0)), y2, slL (H.length + jb') (o ++ mvsFrom x a b s ls k i).length cap', .int .i64 ls.length, z5, z6, z7, z8, z9], ⟨H ++ G', e⟩⟩)
  | 0, i, o, jb, cap, G, y5, y6, y7, y8, y9, hk, ho, hG, hcap => by
    obtain rfl : i = ls.length := by omega
    refine ⟨jb, cap, G, y5, y6, .bool false, y8, y9, by simpa [mvsFrom] using hG, ?_⟩
    rw [run_loop, mvsFrom, List.append_nil]
    generalize run T pr (.loop w_s_l11Moves_2) = R
    simp +contextual only [w_s_l11Moves_2, cells_mono hu, Nat.lt_irrefl, decide_false, go_sem, entry, joinEsc, if_pos, reduceIte, Nat.reduceAdd, Nat.reduceLeDiff, Nat.reduceLT, Nat.reduceEqDiff]
  | k + 1, i, o, jb, cap, G, y5, y6, y7, y8, y9, hk, ho, hG, hcap => by
    have hi : i < ls.length := by omega
    obtain ⟨jb1, cap1, G1, w5, w6, w8, w9, g1, g2, hl⟩ := loop_s_moves_1 (pr := pr) (e := e) (y0 := y0) (y2 := y2) (y7 := .bool true) h hn hi hpl hsb hu 2 0 o jb cap G y6 y8 y9 rfl (by omega) hG hcap
    rw [List.drop_zero] at g1 g2 hl
    have hsel := selM_le x a b ls i [wr (plOf ls i - s), wr (plOf ls i + s)]
    simp only [List.length_cons, List.length_nil, Nat.zero_add] at hsel
    obtain ⟨jb', cap', G', z5, z6, z7, z8, z9, h1, ih⟩ := loop_s_moves_2 (y0 := y0) (y2 := y2) h hn hpl hsb hu k (i + 1) (o ++ selM x a b ls i [wr (plOf ls i - s), wr (plOf ls i + s)]) jb1 cap1 G1 w5 w6 (.bool true) w8 w9 (by omega) (by rw [List.length_append]; omega) g1 g2
    rw [List.append_assoc] at h1 ih
    refine ⟨jb', cap', G', z5, z6, z7, z8, z9, h1, ?_⟩
    have h0 : 2 * ((0 : Nat) : Int) - 1 = -1 := rfl
    rw [run_loop, mvsFrom]
    rw [h0] at hl
    generalize run T pr (.loop w_s_l11Moves_2) = R at ih ⊢
    generalize selM x a b ls i [wr (plOf ls i - s), wr (plOf ls i + s)] = sel at *
    generalize mvsFrom x a b s ls k (i + 1) = rest at *
    simp +contextual only [w_s_l11Moves_2, hi, cells_mono hu, hl, wrap_succ (show i < 9223372036854775807 by omega), decide_true, decide_false, go_sem, entry, joinEsc, if_pos, reduceIte, Nat.reduceAdd, Nat.reduceLeDiff, Nat.reduceLT, Nat.reduceEqDiff]
    simp only [List.length_append] at ih
    exact ih

end Go.Proofs.Ythkgpblohjpcdaa.Slim

/- Moves as a law handles them: pairs and slices of pairs. -/
namespace Go.Proofs.Ythkgpblohjpcdaa.Slim

open Go

set_option linter.unusedSimpArgs false

set_option linter.unusedVariables false

variable {pr : Prims} {H : List Blk} {e : Option Nat}

theorem w11 : IntKind.i64.wrap (1 + 1) = 2 := by decide

abbrev prV (x a : Int) : AV := .agg [.int .i64 x, .int .i64 a]

end Go.Proofs.Ythkgpblohjpcdaa.Slim

/- The safe moves of a party: the functions and the law. -/
namespace Go.Proofs.Ythkgpblohjpcdaa.Slim

open Go

set_option linter.unusedSimpArgs false

set_option linter.unusedVariables false

variable {pr : Prims} {H : List Blk} {e : Option Nat}

def spots (ls : List Ld) : List Int := ls.map (fun l => l.1) ++ [0, 0, 0].drop ls.length

theorem spots_length {ls : List Ld} (hn : ls.length ≤ 3) : (spots ls).length = 3 := by
  unfold spots
  rw [List.length_append, List.length_map, List.length_drop]
  simp
  omega

theorem putL_self : ∀ (ls : List Ld) (ts : List Int), putL ls (ls.map (fun l => l.1) ++ ts) = ls
  | [], ts => rfl
  | l :: ls, ts => by simp [putL, putL_self ls ts]

theorem loop_i_Party_spots {q u n : Nat} {c : Option Nat} {ls : List Ld} {B0 B1 : Blk} {y0 y1 y2 : AV} (h : cellsAt H q = some (encL ls)) (hn : ls.length ≤ 3) :
    ∀ (k i : Nat) (P R : List Int) (G : List Blk) (y4 y5 y9 : AV), k + i = ls.length → P.length = i → P.length + R.length = 3 → ∃ (G' : List Blk) (z4 z5 z9 : AV), run T pr (.loop w_i_Party_spots_1) ⟨[y0, y1, y2, .ptr (some (H.length + 2, 0)), y4, y5, slL q ls.length c, .int .i64 ls.length, .int .i64 i, y9], ⟨H ++ (B0 :: B1 :: .cells (encI (P ++ R)) true :: G), e⟩⟩ =
      some (Ex.exit 0, ⟨[y0, y1, y2, .ptr (some (H.length + 2, 0)), z4, z5, slL q ls.length c, .int .i64 ls.length, .int .i64 ls.length, z9], ⟨H ++ (B0 :: B1 :: .cells (encI (P ++ ((ls.drop i).map (fun l => l.1) ++ R.drop k))) true :: G'), e⟩⟩)
  | 0, i, P, R, G, y4, y5, y9, hk, hP, hR => by
    obtain rfl : i = ls.length := by omega
    refine ⟨G, y4, y5, .bool false, ?_⟩
    rw [run_loop, List.drop_length]
    generalize run T pr (.loop w_i_Party_spots_1) = R'
    simp +contextual only [w_i_Party_spots_1, Nat.lt_irrefl, decide_false, go_sem, entry, joinEsc, if_pos, reduceIte, Nat.reduceAdd, Nat.reduceLeDiff, Nat.reduceLT, Nat.reduceEqDiff]
  | k + 1, i, P, [], G, y4, y5, y9, hk, hP, hR => by simp at hR; omega
  | k + 1, i, P, r :: R, G, y4, y5, y9, hk, hP, hR => by
    simp only [List.length_cons] at hR
    have hi : i < ls.length := by omega
    have hl : ls[i]? = some ls[i] := List.getElem?_eq_getElem hi
    obtain ⟨G', z4, z5, z9, ih⟩ := loop_i_Party_spots (c := c) (B0 := B0) (B1 := B1) (y0 := y0) (y1 := y1) (y2 := y2) (n := n) (u := u) h hn k (i + 1) (P ++ [ls[i].1]) R (G ++ [.cells [.int .i64 ls[i].1, .int .i64 ls[i].2] true]) (.int .i64 i) (.ptr (some (H.length + (G.length + 1 + 1 + 1), 0))) (.bool true) (by omega) (by simp; omega) (by simp; omega)
    refine ⟨G', z4, z5, z9, ?_⟩
    have hi3 : i < 3 := by omega
    have hset : ∀ v, setRange (encI (P ++ r :: R)) i [.int .i64 v] = encI (P ++ v :: R) := by intro v; rw [← hP, setRange_mid]; simp
    have hle : i + 1 ≤ (encI (P ++ r :: R)).length := by simp [encI]; omega
    rw [run_loop]
    generalize run T pr (.loop w_i_Party_spots_1) = R' at ih ⊢
    simp only [List.append_assoc, List.singleton_append] at ih
    rw [List.drop_eq_getElem_cons hi, List.map_cons, List.cons_append, List.drop_succ_cons]
    simp +contextual only [w_i_Party_spots_1, cells_mono h, hi, hi3, hl, part_encL hl, hset, hle, wrap_succ (show i < 9223372036854775807 by omega), decide_true, go_sem, entry, joinEsc, if_pos, reduceIte, Nat.reduceAdd, Nat.reduceLeDiff, Nat.reduceLT, Nat.reduceEqDiff]
    exact ih

theorem e_i_Party_spots {q : Nat} {c : Option Nat} {ls : List Ld} (h : cellsAt H q = some (encL ls)) (hn : ls.length ≤ 3) (x a b s : Int) {s0 s1 s2 : Int} (hs : spots ls = [s0, s1, s2]) : call T pr f_i_Party_spots [ptV x a b (slL q ls.length c) s] ⟨H, e⟩ =
    some (spV s0 s1 s2, ⟨H, e⟩) := by
  obtain ⟨G', z4, z5, z9, hl⟩ := loop_i_Party_spots (pr := pr) (e := none) (c := c) (n := 0) (u := 0) (B0 := .cells [.int .i64 x, .int .i64 a, .int .i64 b, slL q ls.length c, .int .i64 s] true) (B1 := .cells [.int .i64 0, .int .i64 0, .int .i64 0] true) (y0 := ptV x a b (slL q ls.length c) s) (y1 := .ptr (some (H.length, 0))) (y2 := .ptr (some (H.length + 1, 0))) h hn ls.length 0 [] [0, 0, 0] [] .undef .undef .undef rfl rfl rfl
  have h0 : ((0 : Nat) : Int) = 0 := rfl
  have hs' : ls.map (fun l => l.1) ++ [0, 0, 0].drop ls.length = [s0, s1, s2] := hs
  simp only [List.drop_zero, List.nil_append, h0, hs', encI, List.map_cons, List.map_nil] at hl
  rw [call_eq t_i_Party_spots]
  simp +contextual only [a_i_Party_spots, c_i_Party_spots, fillParts, hl, go_sem, entry, joinEsc, if_pos, reduceIte, Nat.reduceAdd, Nat.reduceLeDiff, Nat.reduceLT, Nat.reduceEqDiff]

def mvs (x a b s : Int) (ls : List Ld) : List Ld := mvsFrom x a b s ls ls.length 0

theorem e_i_Party_moves {q : Nat} {c : Option Nat} {ls : List Ld} (h : cellsAt H q = some (encL ls)) (hn : ls.length ≤ 3) (x a b s s0 s1 s2 : Int) : ∃ cap, call T pr f_i_Party_moves [ptV x a b (slL q ls.length c) s, spV s0 s1 s2] ⟨H, e⟩ =
    some (slL H.length (mvs x a b s (putL ls [s0, s1, s2])).length cap, ⟨H ++ [.cells (encL (mvs x a b s (putL ls [s0, s1, s2]))) true], e⟩) := by
  obtain ⟨jb', cap', G', z6, z7, z8, z11, z12, z13, z14, z15, k1, hl⟩ := loop_i_moves_2 (pr := pr) (e := none) (H := H ++ [.cells [.int .i64 x, .int .i64 a, .int .i64 b, slL q ls.length c, .int .i64 s] true, .cells [.int .i64 s0, .int .i64 s1, .int .i64 s2] true]) (u := H.length) (sb := H.length + 1) (y0 := ptV x a b (slL q ls.length c) s) (y1 := spV s0 s1 s2) (y4 := .slice none 0 0 none) (cells_mono h _) hn (by rw [cellsAt_new0]; rfl) (by rw [cellsAt_newk]; rfl) ls.length 0 [] 0 (some 0) [.cells [] true] .undef .undef .undef .undef .undef .undef .undef .undef rfl (by simp; omega) rfl (fun _ => rfl)
  have h0 : ((0 : Nat) : Int) = 0 := rfl
  have hm : mvsFrom x a b s (putL ls [s0, s1, s2]) ls.length 0 = mvs x a b s (putL ls [s0, s1, s2]) := by unfold mvs; rw [putL_length]
  rw [h0, List.nil_append, hm] at hl
  rw [List.nil_append, hm] at k1
  refine ⟨cap', ?_⟩
  simp only [List.length_append, List.length_cons, List.length_nil, Nat.zero_add, Nat.add_zero, List.append_assoc, List.cons_append, List.nil_append, Nat.reduceAdd, Nat.add_assoc] at hl
  have hf : ∀ (B B' : Blk) (e0 : Option Nat), finish 2 H.length e0 (slL (H.length + (2 + jb')) (mvs x a b s (putL ls [s0, s1, s2])).length cap') ⟨H ++ (B :: B' :: G'), none⟩ = some (slL H.length (mvs x a b s (putL ls [s0, s1, s2])).length cap', ⟨H ++ [.cells (encL (mvs x a b s (putL ls [s0, s1, s2]))) true], e0⟩) :=
    fun B B' e0 => finish_two_at e0 (by rw [show 2 + jb' = jb' + 1 + 1 by omega]; exact k1) (under_encL _ _)
  rw [call_eq t_i_Party_moves]
  simp +contextual only [a_i_Party_moves, c_i_Party_moves, fillParts, hl, hf, go_sem, entry, joinEsc, if_pos, reduceIte, Nat.reduceAdd, Nat.reduceLeDiff, Nat.reduceLT, Nat.reduceEqDiff]

theorem e_s_l11Moves {q : Nat} {c : Option Nat} {ls : List Ld} (h : cellsAt H q = some (encL ls)) (hn : ls.length ≤ 3) (hpl : plB ls) (x a b s : Int) (hs : 1 ≤ s ∧ s ≤ 4) : ∃ cap, call T pr f_s_l11Moves [ptV x a b (slL q ls.length c) s] ⟨H, e⟩ =
    some (slL H.length (mvs x a b s ls).length cap, ⟨H ++ [.cells (encL (mvs x a b s ls)) true], e⟩) := by
  obtain ⟨jb', cap', G', z5, z6, z7, z8, z9, k1, hl⟩ := loop_s_moves_2 (pr := pr) (e := none) (H := H ++ [.cells [.int .i64 x, .int .i64 a, .int .i64 b, slL q ls.length c, .int .i64 s] true]) (u := H.length) (y0 := ptV x a b (slL q ls.length c) s) (y2 := .slice none 0 0 none) (cells_mono h _) hn hpl hs (by rw [cellsAt_new0]; rfl) ls.length 0 [] 0 (some 0) [.cells [] true] .undef .undef .undef .undef .undef rfl (by simp; omega) rfl (fun _ => rfl)
  have h0 : ((0 : Nat) : Int) = 0 := rfl
  have hm : mvsFrom x a b s ls ls.length 0 = mvs x a b s ls := rfl
  rw [h0, List.nil_append, hm] at hl
  rw [List.nil_append, hm] at k1
  refine ⟨cap', ?_⟩
  simp only [List.length_append, List.length_cons, List.length_nil, Nat.zero_add, Nat.add_zero, List.append_assoc, List.cons_append, List.nil_append, Nat.reduceAdd, Nat.add_assoc] at hl
  have hf : ∀ (B : Blk) (e0 : Option Nat), finish 2 H.length e0 (slL (H.length + (1 + jb')) (mvs x a b s ls).length cap') ⟨H ++ (B :: G'), none⟩ = some (slL H.length (mvs x a b s ls).length cap', ⟨H ++ [.cells (encL (mvs x a b s ls)) true], e0⟩) :=
    fun B e0 => finish_two_at e0 (by rw [show 1 + jb' = jb' + 1 by omega]; exact k1) (under_encL _ _)
  rw [call_eq t_s_l11Moves]
  simp +contextual only [a_s_l11Moves, c_s_l11Moves, fillParts, hl, hf, go_sem, entry, joinEsc, if_pos, reduceIte, Nat.reduceAdd, Nat.reduceLeDiff, Nat.reduceLT, Nat.reduceEqDiff]

theorem party_facts {x a b s : Int} {ls : List Ld} (h : partyOk x a b ls s = true) : ls.length ≤ 3 ∧ plB ls ∧ (1 ≤ s ∧ s ≤ 4) := by
  have h0 := h
  unfold partyOk onOk at h
  simp only [Bool.and_eq_true, decide_eq_true_eq] at h
  have hrow : rowOk ls = true := by
    obtain ⟨h1, h2⟩ := h
    simp_all
  refine ⟨(party_bounds h0).1, fun i hi => ?_, by omega⟩
  unfold rowOk at hrow
  have hall := (Bool.and_eq_true_iff.mp hrow).2
  have hl : ls[i]? = some ls[i] := List.getElem?_eq_getElem hi
  have := List.all_eq_true.mp hall ls[i] (List.getElem_mem hi)
  unfold okL at this
  simp only [Bool.and_eq_true, decide_eq_true_eq] at this
  have hp : plOf ls i = ls[i].1 := by unfold plOf; rw [hl]; rfl
  rw [hp]
  exact this.1

theorem e_i_SafeMoves_no {q : Nat} {c : Option Nat} {ls : List Ld} (h : cellsAt H q = some (encL ls)) (hn : ls.length ≤ 9223372036854775806) (x a b s : Int) (hp : partyOk x a b ls s = false) : call T pr f_i_SafeMoves [ptV x a b (slL q ls.length c) s] ⟨H, e⟩ =
    some (.tup [.slice none 0 0 none, .bool false], ⟨H, e⟩) := by
  rw [call_eq t_i_SafeMoves]
  simp +contextual only [a_i_SafeMoves, c_i_SafeMoves, e_i_IsParty (cells_mono h _) hn, hp, finish_two_nb, go_sem, entry, joinEsc, if_pos, reduceIte, Nat.reduceAdd, Nat.reduceLeDiff, Nat.reduceLT, Nat.reduceEqDiff]

theorem e_s_SafeMoves_no {q : Nat} {c : Option Nat} {ls : List Ld} (h : cellsAt H q = some (encL ls)) (hn : ls.length ≤ 9223372036854775806) (x a b s : Int) (hp : partyOk x a b ls s = false) : call T pr f_s_SafeMoves [ptV x a b (slL q ls.length c) s] ⟨H, e⟩ =
    some (.tup [.slice (some (H.length, 0)) 2 0 (some 0), .bool false], ⟨H ++ [.cells [] true], e⟩) := by
  have hf : ∀ (B : Blk) (e0 : Option Nat), finish 2 H.length e0 (.tup [.slice (some (H.length + 1, 0)) 2 0 (some 0), .bool false]) ⟨H ++ [B, .cells [] true], none⟩ = some (.tup [.slice (some (H.length, 0)) 2 0 (some 0), .bool false], ⟨H ++ [.cells [] true], e0⟩) :=
    fun B e0 => finish_two_sb false e0 rfl rfl
  rw [call_eq t_s_SafeMoves]
  simp +contextual only [a_s_SafeMoves, c_s_SafeMoves, fillParts, e_s_l11Party (cells_mono h _) hn, hp, hf, go_sem, entry, joinEsc, if_pos, reduceIte, Nat.reduceAdd, Nat.reduceLeDiff, Nat.reduceLT, Nat.reduceEqDiff]

theorem e_i_SafeMoves {q : Nat} {c : Option Nat} {ls : List Ld} (h : cellsAt H q = some (encL ls)) (x a b s : Int) (hp : partyOk x a b ls s = true) : ∃ cap, call T pr f_i_SafeMoves [ptV x a b (slL q ls.length c) s] ⟨H, e⟩ =
    some (.tup [slL H.length (mvs x a b s ls).length cap, .bool true], ⟨H ++ [.cells (encL (mvs x a b s ls)) true], e⟩) := by
  obtain ⟨hn, hpl, hs⟩ := party_facts hp
  have hn1 : ls.length ≤ 9223372036854775806 := by omega
  obtain ⟨s0, s1, s2, h3⟩ := three (spots_length hn)
  have hput : putL ls [s0, s1, s2] = ls := by rw [← h3]; exact putL_self ls _
  have hsp := fun G => e_i_Party_spots (pr := pr) (e := none) (c := c) (cells_mono h G) hn x a b s h3
  obtain ⟨cap, hm⟩ := e_i_Party_moves (pr := pr) (e := none) (c := c) (cells_mono h [.cells [.int .i64 x, .int .i64 a, .int .i64 b, slL q ls.length c, .int .i64 s] true]) hn x a b s s0 s1 s2
  rw [hput] at hm
  simp only [List.length_append, List.append_assoc, List.cons_append, List.nil_append, List.length_cons, List.length_nil, Nat.zero_add] at hm
  refine ⟨cap, ?_⟩
  have hf : ∀ (B : Blk) (e0 : Option Nat), finish 2 H.length e0 (.tup [slL (H.length + 1) (mvs x a b s ls).length cap, .bool true]) ⟨H ++ [B, .cells (encL (mvs x a b s ls)) true], none⟩ = some (.tup [slL H.length (mvs x a b s ls).length cap, .bool true], ⟨H ++ [.cells (encL (mvs x a b s ls)) true], e0⟩) :=
    fun B e0 => finish_two_sb true e0 rfl (under_encL _ _)
  rw [call_eq t_i_SafeMoves]
  simp +contextual only [a_i_SafeMoves, c_i_SafeMoves, e_i_IsParty (cells_mono h _) hn1, hp, hsp, hm, hf, go_sem, entry, joinEsc, if_pos, reduceIte, Nat.reduceAdd, Nat.reduceLeDiff, Nat.reduceLT, Nat.reduceEqDiff]

theorem e_s_SafeMoves {q : Nat} {c : Option Nat} {ls : List Ld} (h : cellsAt H q = some (encL ls)) (x a b s : Int) (hp : partyOk x a b ls s = true) : ∃ cap, call T pr f_s_SafeMoves [ptV x a b (slL q ls.length c) s] ⟨H, e⟩ =
    some (.tup [slL H.length (mvs x a b s ls).length cap, .bool true], ⟨H ++ [.cells (encL (mvs x a b s ls)) true], e⟩) := by
  obtain ⟨hn, hpl, hs⟩ := party_facts hp
  have hn1 : ls.length ≤ 9223372036854775806 := by omega
  obtain ⟨cap, hm⟩ := e_s_l11Moves (pr := pr) (e := none) (c := c) (cells_mono h [.cells [.int .i64 x, .int .i64 a, .int .i64 b, slL q ls.length c, .int .i64 s] true]) hn hpl x a b s hs
  simp only [List.length_append, List.append_assoc, List.cons_append, List.nil_append, List.length_cons, List.length_nil, Nat.zero_add] at hm
  refine ⟨cap, ?_⟩
  have hf : ∀ (B : Blk) (e0 : Option Nat), finish 2 H.length e0 (.tup [slL (H.length + 1) (mvs x a b s ls).length cap, .bool true]) ⟨H ++ [B, .cells (encL (mvs x a b s ls)) true], none⟩ = some (.tup [slL H.length (mvs x a b s ls).length cap, .bool true], ⟨H ++ [.cells (encL (mvs x a b s ls)) true], e0⟩) :=
    fun B e0 => finish_two_sb true e0 rfl (under_encL _ _)
  rw [call_eq t_s_SafeMoves]
  simp +contextual only [a_s_SafeMoves, c_s_SafeMoves, e_s_l11Party (cells_mono h _) hn1, hp, hm, hf, go_sem, entry, joinEsc, if_pos, reduceIte, Nat.reduceAdd, Nat.reduceLeDiff, Nat.reduceLT, Nat.reduceEqDiff]

theorem mvs_le (x a b s : Int) (ls : List Ld) : ∀ (k i : Nat), (mvsFrom x a b s ls k i).length ≤ 2 * k
  | 0, i => Nat.le_refl _
  | k + 1, i => by
    have h1 := selM_le x a b ls i [wr (plOf ls i - s), wr (plOf ls i + s)]
    have h2 := mvs_le x a b s ls k (i + 1)
    rw [mvsFrom, List.length_append]
    simp at h1
    omega

end Go.Proofs.Ythkgpblohjpcdaa.Slim

/- Walks of a party. -/
namespace Go.Proofs.Ythkgpblohjpcdaa.Slim

open Go

set_option linter.unusedSimpArgs false

set_option linter.unusedVariables false

variable {pr : Prims} {H : List Blk} {e : Option Nat}

theorem eq_pair (a b c d : Int) : eqList [0, 0] [.int .i64 a, .int .i64 b] [.int .i64 c, .int .i64 d] = some (decide ((a, b) = (c, d))) := by
  by_cases h1 : a = c <;> by_cases h2 : b = d <;> simp [eqList, eqCell, h1, h2]

theorem loop_Index_pair {q u : Nat} {c : Option Nat} {os : List Ld} {m : Ld} {y0 y1 : AV} (h : cellsAt H q = some (encL os)) (hn : os.length ≤ 1048576) (hu : cellsAt H u = some [.int .i64 m.1, .int .i64 m.2]) :
    ∀ (k i : Nat) (y3 y4 y7 y8 : AV), k + i = os.length → ∃ (z3 : Int) (z4 z6 z7 z8 : AV), (m ∈ os.drop i → 0 ≤ z3) ∧ run T pr (.loop w_slices_Index_S_2int__2int_1) ⟨[slL q os.length c, y1, .ptr (some (u, 0)), y3, y4, .int .i64 os.length, .int .i64 i, y7, y8], ⟨H, e⟩⟩ =
      some (if decide (m ∈ os.drop i) = true then Ex.ret else Ex.exit 0, ⟨[slL q os.length c, y1, .ptr (some (u, 0)), if decide (m ∈ os.drop i) = true then .int .i64 z3 else y3, z4, .int .i64 os.length, z6, z7, z8], ⟨H, e⟩⟩)
  | 0, i, y3, y4, y7, y8, hk => by
    obtain rfl : i = os.length := by omega
    refine ⟨0, y4, .int .i64 os.length, .bool false, y8, fun _ => Int.le_refl _, ?_⟩
    rw [run_loop, List.drop_length]
    generalize run T pr (.loop w_slices_Index_S_2int__2int_1) = R
    have hm : decide (m ∈ ([] : List Ld)) = false := by simp
    simp +contextual only [w_slices_Index_S_2int__2int_1, hm, Nat.lt_irrefl, decide_false, go_sem, entry, joinEsc, if_pos, reduceIte, Nat.reduceAdd, Nat.reduceLeDiff, Nat.reduceLT, Nat.reduceEqDiff]
  | k + 1, i, y3, y4, y7, y8, hk => by
    have hi : i < os.length := by omega
    have hl : os[i]? = some os[i] := List.getElem?_eq_getElem hi
    have hd := List.drop_eq_getElem_cons hi
    rw [run_loop, hd]
    by_cases hm : m = os[i]
    · refine ⟨i, .int .i64 i, .int .i64 i, .bool true, .bool true, fun _ => by omega, ?_⟩
      have h1 : decide (m ∈ os[i] :: os.drop (i + 1)) = true := decide_eq_true (by rw [hm]; exact List.mem_cons_self)
      have h2 : decide ((m.1, m.2) = (os[i].1, os[i].2)) = true := by simp [← hm]
      generalize run T pr (.loop w_slices_Index_S_2int__2int_1) = R
      simp +contextual only [w_slices_Index_S_2int__2int_1, h1, h2, hi, hl, h, hu, part_encL hl, eq_pair, decide_true, decide_false, go_sem, entry, joinEsc, if_pos, reduceIte, Nat.reduceAdd, Nat.reduceLeDiff, Nat.reduceLT, Nat.reduceEqDiff]
    · obtain ⟨z3, z4, z6, z7, z8, hz, ih⟩ := loop_Index_pair (y0 := y0) (y1 := y1) (c := c) h hn hu k (i + 1) y3 (.int .i64 i) (.bool true) (.bool false) (by omega)
      have h1 : decide (m ∈ os[i] :: os.drop (i + 1)) = decide (m ∈ os.drop (i + 1)) := decide_eq_decide.mpr (by rw [List.mem_cons]; simp only [hm, false_or])
      refine ⟨z3, z4, z6, z7, z8, fun h => hz ((List.mem_cons.mp h).resolve_left hm), ?_⟩
      have h2 : decide ((m.1, m.2) = (os[i].1, os[i].2)) = false := by simp; intro h3 h4; exact hm (Prod.ext h3 h4)
      rw [h1]
      generalize decide (m ∈ os.drop (i + 1)) = B at ih ⊢
      generalize run T pr (.loop w_slices_Index_S_2int__2int_1) = R at ih ⊢
      simp +contextual only [w_slices_Index_S_2int__2int_1, h2, hi, hl, h, hu, part_encL hl, eq_pair, wrap_succ (show i < 9223372036854775807 by omega), decide_true, decide_false, go_sem, entry, joinEsc, if_pos, reduceIte, Nat.reduceAdd, Nat.reduceLeDiff, Nat.reduceLT, Nat.reduceEqDiff]
      exact ih

theorem e_Contains_pair {q : Nat} {c : Option Nat} {os : List Ld} (m : Ld) (h : cellsAt H q = some (encL os)) (hn : os.length ≤ 1048576) : call T pr f_slices_Contains_S_2int__2int [slL q os.length c, prV m.1 m.2] ⟨H, e⟩ = some (.bool (decide (m ∈ os)), ⟨H, e⟩) := by
  have hi : ∀ L : List Blk, cellsAt L q = some (encL os) → ∃ z : Int, (decide (0 ≤ z) = decide (m ∈ os)) ∧ call T pr f_slices_Index_S_2int__2int [slL q os.length c, prV m.1 m.2] ⟨L, none⟩ = some (.int .i64 z, ⟨L, none⟩) := by
    intro L h
    obtain ⟨z3, z4, z6, z7, z8, hz, hl⟩ := loop_Index_pair (pr := pr) (e := none) (H := L ++ [.cells [.int .i64 m.1, .int .i64 m.2] true]) (c := c) (u := L.length) (y0 := .undef) (y1 := prV m.1 m.2) (cells_mono h _) hn (by rw [cellsAt_new0]; rfl) os.length 0 (.int .i64 0) .undef .undef .undef rfl
    have h0 : ((0 : Nat) : Int) = 0 := rfl
    rw [h0, List.drop_zero] at hl
    rw [List.drop_zero] at hz
    by_cases hm : m ∈ os
    · refine ⟨z3, by simp [hm, hz hm], ?_⟩
      rw [decide_eq_true hm] at hl
      simp only [if_true] at hl
      rw [call_eq t_slices_Index_S_2int__2int]
      simp +contextual only [a_slices_Index_S_2int__2int, c_slices_Index_S_2int__2int, hl, go_sem, entry, joinEsc, if_pos, reduceIte, Nat.reduceAdd, Nat.reduceLeDiff, Nat.reduceLT, Nat.reduceEqDiff]
    · refine ⟨-1, by simp [hm], ?_⟩
      rw [decide_eq_false hm] at hl
      simp only [Bool.false_eq_true, if_false] at hl
      rw [call_eq t_slices_Index_S_2int__2int]
      simp +contextual only [a_slices_Index_S_2int__2int, c_slices_Index_S_2int__2int, hl, Bool.false_eq_true, if_false, go_sem, entry, joinEsc, if_pos, reduceIte, Nat.reduceAdd, Nat.reduceLeDiff, Nat.reduceLT, Nat.reduceEqDiff]
  obtain ⟨z, h1, h2⟩ := hi (H ++ [.cells [.int .i64 m.1, .int .i64 m.2] true]) (cells_mono h _)
  rw [call_eq t_slices_Contains_S_2int__2int]
  simp +contextual only [a_slices_Contains_S_2int__2int, c_slices_Contains_S_2int__2int, h1, h2, go_sem, entry, joinEsc, if_pos, reduceIte, Nat.reduceAdd, Nat.reduceLeDiff, Nat.reduceLT, Nat.reduceEqDiff]

theorem mem_selM {x a b : Int} {ls : List Ld} {i : Nat} {ps : List Int} {m : Ld} : m ∈ selM x a b ls i ps ↔ m.1 = (i : Int) ∧ m.2 ∈ ps ∧ okMv x a b ls i m.2 = true := by
  unfold selM
  rw [List.mem_map]
  constructor
  · rintro ⟨p, hp, rfl⟩
    rw [List.mem_filter] at hp
    exact ⟨rfl, hp.1, hp.2⟩
  · rintro ⟨h1, h2, h3⟩
    exact ⟨m.2, List.mem_filter.mpr ⟨h2, h3⟩, Prod.ext h1.symm rfl⟩

theorem mem_mvsFrom {x a b s : Int} {ls : List Ld} {m : Ld} : ∀ (k i : Nat), m ∈ mvsFrom x a b s ls k i ↔ ∃ j : Nat, i ≤ j ∧ j < i + k ∧ m ∈ selM x a b ls j [wr (plOf ls j - s), wr (plOf ls j + s)]
  | 0, i => by
    constructor
    · intro h; simp [mvsFrom] at h
    · rintro ⟨j, h1, h2, _⟩; omega
  | k + 1, i => by
    rw [mvsFrom, List.mem_append, mem_mvsFrom k (i + 1)]
    constructor
    · rintro (h | ⟨j, h1, h2, h3⟩)
      · exact ⟨i, Nat.le_refl _, by omega, h⟩
      · exact ⟨j, by omega, by omega, h3⟩
    · rintro ⟨j, h1, h2, h3⟩
      by_cases hj : j = i
      · subst hj; exact .inl h3
      · exact .inr ⟨j, by omega, by omega, h3⟩

theorem mem_mvs {x a b s : Int} {ls : List Ld} (hpl : plB ls) (hs : 1 ≤ s ∧ s ≤ 4) (hx : x ≤ 60) (m : Ld) : decide (m ∈ mvs x a b s ls) = safeMv x a b ls s m.1 m.2 := by
  rw [Bool.eq_iff_iff, decide_eq_true_iff]
  unfold mvs
  rw [mem_mvsFrom]
  constructor
  · rintro ⟨j, _, h2, h3⟩
    obtain ⟨h4, h5, h6⟩ := mem_selM.mp h3
    rw [h4]
    rw [safe_ok (by omega) hpl hs (by simpa using h5)]
    exact h6
  · intro h
    have h0 := h
    unfold safeMv at h
    simp only [Bool.and_eq_true, Bool.or_eq_true, decide_eq_true_eq] at h
    obtain ⟨⟨⟨h1, h2⟩, h3, h4⟩, h5, h6⟩ := h
    obtain ⟨j, hj⟩ : ∃ j : Nat, m.1 = j := ⟨m.1.toNat, by omega⟩
    rw [hj] at h0 h1 h2 h5 h6
    rw [Int.toNat_natCast] at h5
    have hjl : j < ls.length := by omega
    obtain ⟨b1, b2⟩ := hpl j hjl
    have w4 : wr (m.2 - plOf ls j) = m.2 - plOf ls j := wrap64 (by omega) (by omega)
    have w3 : wr (0 - s) = - s := by show IntKind.i64.wrap (0 - s) = - s; rw [wrap64 (by omega) (by omega)]; omega
    have w1 : wr (plOf ls j - s) = plOf ls j - s := wrap64 (by omega) (by omega)
    have w2 : wr (plOf ls j + s) = plOf ls j + s := wrap64 (by omega) (by omega)
    rw [w3, w4] at h5
    have hor : m.2 = wr (plOf ls j - s) ∨ m.2 = wr (plOf ls j + s) := by rw [w1, w2]; omega
    refine ⟨j, Nat.zero_le _, by omega, mem_selM.mpr ⟨hj, by simpa using hor, ?_⟩⟩
    rw [← safe_ok hjl hpl hs hor]
    exact h0

theorem plOf_movd : ∀ (ls : List Ld) (i j : Nat) (p : Int), plOf (movd ls i p) j = if i = j ∧ j < ls.length then p else plOf ls j
  | [], i, j, p => by simp [movd]
  | l :: ls, 0, 0, p => by simp [movd, plOf]
  | l :: ls, 0, j + 1, p => by simp [movd, plOf]
  | l :: ls, i + 1, 0, p => by simp [movd, plOf]
  | l :: ls, i + 1, j + 1, p => by
    have := plOf_movd ls i j p
    unfold plOf at this ⊢
    simpa [movd] using this

theorem plB_movd {x a b s i p : Int} {ls : List Ld} (hpl : plB ls) (hx : x ≤ 60) (h : safeMv x a b ls s i p = true) : plB (movd ls i.toNat p) := by
  intro j hj
  rw [movd_length] at hj
  rw [plOf_movd]
  unfold safeMv at h
  simp only [Bool.and_eq_true, Bool.or_eq_true, decide_eq_true_eq] at h
  split
  · omega
  · exact hpl j hj

def walkW (x a b s : Int) : List Ld → List Ld → Option (List Ld)
  | ls, [] => some ls
  | ls, m :: ms => if safeMv x a b ls s m.1 m.2 = true then walkW x a b s (movd ls m.1.toNat m.2) ms else none

def walkS (x a b s : Int) (ls : List Ld) : List Int → List Ld → Option (List Int)
  | ss, [] => some ss
  | ss, m :: ms => if safeMv x a b (putL ls ss) s m.1 m.2 = true then walkS x a b s ls (ss.set m.1.toNat m.2) ms else none

theorem safe_range {x a b s i p : Int} {ls : List Ld} (h : safeMv x a b ls s i p = true) : 0 ≤ i ∧ i.toNat < ls.length := by
  unfold safeMv at h
  simp only [Bool.and_eq_true, Bool.or_eq_true, decide_eq_true_eq] at h
  omega

theorem walk_eq {x a b s : Int} {ls : List Ld} : ∀ (ms : List Ld) (ss : List Int), ls.length ≤ ss.length → walkW x a b s (putL ls ss) ms = (walkS x a b s ls ss ms).map (putL ls)
  | [], ss, hl => rfl
  | m :: ms, ss, hl => by
    rw [walkW, walkS]
    cases h : safeMv x a b (putL ls ss) s m.1 m.2 with
    | false => rfl
    | true =>
      have hr := (safe_range h).2
      rw [putL_length] at hr
      simp only [if_true]
      rw [← putL_set ls ss m.1.toNat m.2 hr hl]
      exact walk_eq ms _ (by rw [List.length_set]; exact hl)

theorem walkW_length {x a b s : Int} : ∀ (ms ls : List Ld) (r : List Ld), walkW x a b s ls ms = some r → r.length = ls.length
  | [], ls, r, h => by cases h; rfl
  | m :: ms, ls, r, h => by
    rw [walkW] at h
    split at h
    · rw [walkW_length ms _ r h, movd_length]
    · cases h

theorem loop_i_Party_walk {q qw : Nat} {c cw : Option Nat} {ls ws : List Ld} {x a b s : Int} {y0 : AV} (h : cellsAt H q = some (encL ls)) (hn : ls.length ≤ 3) (hs : 1 ≤ s ∧ s ≤ 4) (hx : x ≤ 60) (hw : cellsAt H qw = some (encL ws)) (hwn : ws.length ≤ 1048576) :
    ∀ (k i : Nat) (s0 s1 s2 : Int) (G : List Blk) (y6 y10 y11 : AV), k + i = ws.length → plB (putL ls [s0, s1, s2]) → ∃ (B3 : Blk) (G' : List Blk) (z6 z9 z10 z11 : AV), 
      (∀ t0 t1 t2, walkS x a b s ls [s0, s1, s2] (ws.drop i) = some [t0, t1, t2] → B3 = .cells [.int .i64 t0, .int .i64 t1, .int .i64 t2] true) ∧
      run T pr (.loop w_i_Party_walk_1) ⟨[y0, slL qw ws.length cw, .ptr (some (H.length, 0)), .ptr (some (H.length + 1, 0)), .bool false, .ptr (some (H.length + 2, 0)), y6, slL qw ws.length cw, .int .i64 ws.length, .int .i64 i, y10, y11], ⟨H ++ (.cells [.int .i64 x, .int .i64 a, .int .i64 b, slL q ls.length c, .int .i64 s] true :: .cells [.int .i64 0, .int .i64 0, .int .i64 0] true :: .cells [.int .i64 s0, .int .i64 s1, .int .i64 s2] true :: G), e⟩⟩ =
        some (if (walkS x a b s ls [s0, s1, s2] (ws.drop i)).isSome = true then Ex.exit 0 else Ex.ret, ⟨[y0, slL qw ws.length cw, .ptr (some (H.length, 0)), .ptr (some (H.length + 1, 0)), .bool false, .ptr (some (H.length + 2, 0)), z6, slL qw ws.length cw, .int .i64 ws.length, z9, z10, z11], ⟨H ++ (.cells [.int .i64 x, .int .i64 a, .int .i64 b, slL q ls.length c, .int .i64 s] true :: .cells [.int .i64 0, .int .i64 0, .int .i64 0] true :: B3 :: G'), e⟩⟩)
  | 0, i, s0, s1, s2, G, y6, y10, y11, hk, hpl => by
    obtain rfl : i = ws.length := by omega
    have hd : walkS x a b s ls [s0, s1, s2] (ws.drop ws.length) = some [s0, s1, s2] := by rw [List.drop_length]; rfl
    refine ⟨.cells [.int .i64 s0, .int .i64 s1, .int .i64 s2] true, G, y6, .int .i64 ws.length, .bool false, y11, fun t0 t1 t2 ht => ?_, ?_⟩
    · rw [hd] at ht
      simp at ht
      obtain ⟨rfl, rfl, rfl⟩ := ht
      rfl
    · rw [run_loop, hd]
      generalize run T pr (.loop w_i_Party_walk_1) = R
      simp +contextual only [w_i_Party_walk_1, Nat.lt_irrefl, decide_false, Option.isSome_some, go_sem, entry, joinEsc, if_pos, reduceIte, Nat.reduceAdd, Nat.reduceLeDiff, Nat.reduceLT, Nat.reduceEqDiff]
  | k + 1, i, s0, s1, s2, G, y6, y10, y11, hk, hpl => by
    have hi : i < ws.length := by omega
    obtain ⟨m1, m2, hl⟩ : ∃ m1 m2, ws[i]? = some (m1, m2) := ⟨ws[i].1, ws[i].2, List.getElem?_eq_getElem hi⟩
    have hd : ws.drop i = (m1, m2) :: ws.drop (i + 1) := by
      have h1 := List.drop_eq_getElem_cons hi
      rw [List.getElem?_eq_getElem hi] at hl
      rw [h1, Option.some.inj hl]
    have hpart : part true (encL ws) (i * 2) 2 = some (.agg [.int .i64 m1, .int .i64 m2]) := part_encL hl
    obtain ⟨cap, hmv⟩ := e_i_Party_moves (pr := pr) (e := e) (c := c) (H := H ++ (.cells [.int .i64 x, .int .i64 a, .int .i64 b, slL q ls.length c, .int .i64 s] true :: .cells [.int .i64 0, .int .i64 0, .int .i64 0] true :: .cells [.int .i64 s0, .int .i64 s1, .int .i64 s2] true :: (G ++ [.cells [.int .i64 m1, .int .i64 m2] true]))) (cells_mono h _) hn x a b s s0 s1 s2
    have hmem := mem_mvs (x := x) (a := a) (b := b) hpl hs hx (m1, m2)
    have hle : (mvs x a b s (putL ls [s0, s1, s2])).length ≤ 6 := Nat.le_trans (mvs_le x a b s _ _ _) (by rw [putL_length]; omega)
    have hcon := e_Contains_pair (pr := pr) (e := e) (c := cap) (m1, m2) (H := H ++ (.cells [.int .i64 x, .int .i64 a, .int .i64 b, slL q ls.length c, .int .i64 s] true :: .cells [.int .i64 0, .int .i64 0, .int .i64 0] true :: .cells [.int .i64 s0, .int .i64 s1, .int .i64 s2] true :: (G ++ [.cells [.int .i64 m1, .int .i64 m2] true, .cells (encL (mvs x a b s (putL ls [s0, s1, s2]))) true])))
      (q := H.length + (G.length + 1 + 1 + 1 + 1)) (os := mvs x a b s (putL ls [s0, s1, s2])) (by rw [cellsAt_newk]; exact cellsAt_get (w := true) (by simp)) (by omega)
    rw [hmem] at hcon
    simp only [List.length_append, List.append_assoc, List.cons_append, List.nil_append, List.length_cons, List.length_nil, Nat.zero_add] at hmv hcon
    rw [hd]
    cases hsafe : safeMv x a b (putL ls [s0, s1, s2]) s m1 m2 with
    | false =>
      rw [hsafe] at hcon
      have hno : walkS x a b s ls [s0, s1, s2] ((m1, m2) :: ws.drop (i + 1)) = none := by rw [walkS]; simp [hsafe]
      refine ⟨.cells [.int .i64 s0, .int .i64 s1, .int .i64 s2] true, G ++ [.cells [.int .i64 m1, .int .i64 m2] true, .cells (encL (mvs x a b s (putL ls [s0, s1, s2]))) true], .ptr (some (H.length + (G.length + 1 + 1 + 1), 0)), .int .i64 i, .bool true, .bool true, fun t0 t1 t2 ht => ?_, ?_⟩
      · rw [hno] at ht
        cases ht
      · rw [run_loop, hno]
        generalize run T pr (.loop w_i_Party_walk_1) = R
        simp +contextual only [w_i_Party_walk_1, fillParts, hi, cells_mono hw, hpart, hmv, hcon, decide_true, Option.isSome_none, Bool.false_eq_true, if_false, go_sem, entry, joinEsc, if_pos, reduceIte, Nat.reduceAdd, Nat.reduceLeDiff, Nat.reduceLT, Nat.reduceEqDiff]
    | true =>
      rw [hsafe] at hcon
      obtain ⟨r1, r2⟩ := safe_range hsafe
      obtain ⟨j, rfl⟩ : ∃ j : Nat, m1 = j := ⟨m1.toNat, by omega⟩
      rw [putL_length, Int.toNat_natCast] at r2
      have hj3 : j < 3 := by omega
      obtain ⟨t0, t1, t2, ht, hset⟩ := set3 (s0 := s0) (s1 := s1) (s2 := s2) (p := m2) hj3
      have hyes : walkS x a b s ls [s0, s1, s2] (((j : Int), m2) :: ws.drop (i + 1)) = walkS x a b s ls [t0, t1, t2] (ws.drop (i + 1)) := by rw [walkS]; simp only [hsafe, if_true, Int.toNat_natCast, ht]
      have hpl' : plB (putL ls [t0, t1, t2]) := by
        have := plB_movd hpl hx hsafe
        rw [Int.toNat_natCast, ← putL_set ls [s0, s1, s2] j m2 r2 hn, ht] at this
        exact this
      obtain ⟨B3, G', z6, z9, z10, z11, k1, ih⟩ := loop_i_Party_walk (y0 := y0) (c := c) (cw := cw) h hn hs hx hw hwn k (i + 1) t0 t1 t2 (G ++ [.cells [.int .i64 j, .int .i64 m2] true, .cells (encL (mvs x a b s (putL ls [s0, s1, s2]))) true]) (.ptr (some (H.length + (G.length + 1 + 1 + 1), 0))) (.bool true) (.bool false) (by omega) hpl'
      refine ⟨B3, G', z6, z9, z10, z11, ?_, ?_⟩
      · rw [hyes]
        exact k1
      · rw [run_loop, hyes]
        have hle1 : j + 1 ≤ 3 := by omega
        generalize run T pr (.loop w_i_Party_walk_1) = R at ih ⊢
        generalize walkS x a b s ls [t0, t1, t2] (ws.drop (i + 1)) = W at ih ⊢
        simp +contextual only [w_i_Party_walk_1, fillParts, hi, cells_mono hw, hpart, hmv, hcon, at02, at12, toNat0, toNat1, hj3, hle1, hset, wrap_succ (show i < 9223372036854775807 by omega), decide_true, go_sem, entry, joinEsc, if_pos, reduceIte, Nat.reduceAdd, Nat.reduceLeDiff, Nat.reduceLT, Nat.reduceEqDiff]
        exact ih

end Go.Proofs.Ythkgpblohjpcdaa.Slim

/- Walks of a party: the functions and the laws. -/
namespace Go.Proofs.Ythkgpblohjpcdaa.Slim

open Go

set_option linter.unusedSimpArgs false

set_option linter.unusedVariables false

variable {pr : Prims} {H : List Blk} {e : Option Nat}

theorem e_i_Party_walk {q qw : Nat} {c cw : Option Nat} {ls ws : List Ld} {x a b s : Int} (h : cellsAt H q = some (encL ls)) (hw : cellsAt H qw = some (encL ws)) (hp : partyOk x a b ls s = true) (hwn : ws.length ≤ 1048576) {t0 t1 t2 : Int} (hwk : walkS x a b s ls (spots ls) ws = some [t0, t1, t2]) :
    call T pr f_i_Party_walk [ptV x a b (slL q ls.length c) s, slL qw ws.length cw] ⟨H, e⟩ = some (.tup [spV t0 t1 t2, .bool true], ⟨H, e⟩) := by
  obtain ⟨hn, hpl, hs⟩ := party_facts hp
  obtain ⟨_, hx1, hx2⟩ := party_bounds hp
  obtain ⟨s0, s1, s2, h3⟩ := three (spots_length hn)
  have hput : putL ls [s0, s1, s2] = ls := by rw [← h3]; exact putL_self ls _
  have hsp := fun G => e_i_Party_spots (pr := pr) (e := none) (c := c) (cells_mono h G) hn x a b s h3
  obtain ⟨B3, G', z6, z9, z10, z11, k1, hl⟩ := loop_i_Party_walk (pr := pr) (e := none) (c := c) (cw := cw) (y0 := ptV x a b (slL q ls.length c) s) (a := a) (b := b) h hn hs (show x ≤ 60 by omega) hw hwn ws.length 0 s0 s1 s2 [] .undef .undef .undef rfl (by rw [hput]; exact hpl)
  have h0 : ((0 : Nat) : Int) = 0 := rfl
  rw [h3] at hwk
  rw [List.drop_zero, hwk] at hl
  rw [List.drop_zero] at k1
  rw [k1 t0 t1 t2 hwk, h0, Option.isSome_some, if_pos rfl] at hl
  rw [call_eq t_i_Party_walk]
  simp +contextual only [a_i_Party_walk, c_i_Party_walk, fillParts, hsp, hl, go_sem, entry, joinEsc, if_pos, reduceIte, Nat.reduceAdd, Nat.reduceLeDiff, Nat.reduceLT, Nat.reduceEqDiff]

theorem e_i_Party_walk_no {q qw : Nat} {c cw : Option Nat} {ls ws : List Ld} {x a b s : Int} (h : cellsAt H q = some (encL ls)) (hw : cellsAt H qw = some (encL ws)) (hp : partyOk x a b ls s = true) (hwn : ws.length ≤ 1048576) (hwk : walkS x a b s ls (spots ls) ws = none) :
    call T pr f_i_Party_walk [ptV x a b (slL q ls.length c) s, slL qw ws.length cw] ⟨H, e⟩ = some (.tup [spV 0 0 0, .bool false], ⟨H, e⟩) := by
  obtain ⟨hn, hpl, hs⟩ := party_facts hp
  obtain ⟨_, hx1, hx2⟩ := party_bounds hp
  obtain ⟨s0, s1, s2, h3⟩ := three (spots_length hn)
  have hput : putL ls [s0, s1, s2] = ls := by rw [← h3]; exact putL_self ls _
  have hsp := fun G => e_i_Party_spots (pr := pr) (e := none) (c := c) (cells_mono h G) hn x a b s h3
  obtain ⟨B3, G', z6, z9, z10, z11, k1, hl⟩ := loop_i_Party_walk (pr := pr) (e := none) (c := c) (cw := cw) (y0 := ptV x a b (slL q ls.length c) s) (a := a) (b := b) h hn hs (show x ≤ 60 by omega) hw hwn ws.length 0 s0 s1 s2 [] .undef .undef .undef rfl (by rw [hput]; exact hpl)
  have h0 : ((0 : Nat) : Int) = 0 := rfl
  rw [h3] at hwk
  rw [List.drop_zero, hwk, h0, Option.isSome_none, if_neg (by simp)] at hl
  rw [call_eq t_i_Party_walk]
  simp +contextual only [a_i_Party_walk, c_i_Party_walk, fillParts, hsp, hl, go_sem, entry, joinEsc, if_pos, reduceIte, Nat.reduceAdd, Nat.reduceLeDiff, Nat.reduceLT, Nat.reduceEqDiff]

theorem walk_cases {x a b s : Int} {ls ws : List Ld} (hn : ls.length ≤ 3) : (walkS x a b s ls (spots ls) ws = none ∧ walkW x a b s ls ws = none) ∨ (∃ t0 t1 t2, walkS x a b s ls (spots ls) ws = some [t0, t1, t2] ∧ walkW x a b s ls ws = some (putL ls [t0, t1, t2])) := by
  have hput : putL ls (spots ls) = ls := putL_self ls _
  have h := walk_eq (x := x) (a := a) (b := b) (s := s) ws (spots ls) (ls := ls) (by rw [spots_length hn]; exact hn)
  rw [hput] at h
  have hlen : ∀ (ms : List Ld) (ss r : List Int), walkS x a b s ls ss ms = some r → r.length = ss.length := by
    intro ms
    induction ms with
    | nil => intro ss r hr; cases hr; rfl
    | cons m ms ih =>
      intro ss r hr
      rw [walkS] at hr
      split at hr
      · rw [ih _ _ hr, List.length_set]
      · cases hr
  cases hw : walkS x a b s ls (spots ls) ws with
  | none => exact .inl ⟨rfl, by rw [h, hw]; rfl⟩
  | some r =>
    obtain ⟨t0, t1, t2, rfl⟩ := three ((hlen _ _ _ hw).trans (spots_length hn))
    exact .inr ⟨t0, t1, t2, rfl, by rw [h, hw]; rfl⟩

theorem loop_s_l11Walk {qw n : Nat} {cw : Option Nat} {ws : List Ld} {x a b s : Int} {y0 y9 : AV} {B0 B1 B2 B3 : Blk} (hn : n ≤ 3) (hw : cellsAt H qw = some (encL ws)) (hwn : ws.length ≤ 60) (hB1 : B1 = .cells [.int .i64 0, .int .i64 0, .int .i64 0, .slice none 0 0 none, .int .i64 0] true) :
    ∀ (k i jb : Nat) (cur : List Ld) (G : List Blk) (y7 y8 : AV) (e : Option Nat), clean H.length e = true → k + i = ws.length → cur.length = n → (B0 :: B1 :: B2 :: B3 :: .cells [.int .i64 x, .int .i64 a, .int .i64 b, slL (H.length + jb) n none, .int .i64 s] true :: G)[jb]? = some (.cells (encL cur) true) →
      ∃ (B4 : Blk) (jb' : Nat) (G' : List Blk) (z6 z7 z8 : AV) (e' : Option Nat), clean H.length e' = true ∧
      (∀ r, walkW x a b s cur (ws.drop i) = some r → B4 = .cells [.int .i64 x, .int .i64 a, .int .i64 b, slL (H.length + jb') n none, .int .i64 s] true ∧ (B0 :: B1 :: B2 :: B3 :: B4 :: G')[jb']? = some (.cells (encL r) true)) ∧
      run T pr (.loop w_s_l11Walk_1) ⟨[y0, slL qw ws.length cw, .ptr (some (H.length, 0)), .ptr (some (H.length + 1, 0)), .bool false, .ptr (some (H.length + 4, 0)), .int .i64 i, y7, y8, y9], ⟨H ++ (B0 :: B1 :: B2 :: B3 :: .cells [.int .i64 x, .int .i64 a, .int .i64 b, slL (H.length + jb) n none, .int .i64 s] true :: G), e⟩⟩ =
        some (if (walkW x a b s cur (ws.drop i)).isSome = true then Ex.exit 0 else Ex.ret, ⟨[y0, slL qw ws.length cw, .ptr (some (H.length, 0)), .ptr (some (H.length + 1, 0)), .bool false, .ptr (some (H.length + 4, 0)), z6, z7, z8, y9], ⟨H ++ (B0 :: B1 :: B2 :: B3 :: B4 :: G'), e'⟩⟩)
  | 0, i, jb, cur, G, y7, y8, e, hce, hk, hc, hj => by
    obtain rfl : i = ws.length := by omega
    have hd : walkW x a b s cur (ws.drop ws.length) = some cur := by rw [List.drop_length]; rfl
    refine ⟨.cells [.int .i64 x, .int .i64 a, .int .i64 b, slL (H.length + jb) n none, .int .i64 s] true, jb, G, .int .i64 ws.length, .bool false, y8, e, hce, fun r hr => ?_, ?_⟩
    · rw [hd] at hr
      cases hr
      exact ⟨rfl, hj⟩
    · rw [run_loop, hd]
      generalize run T pr (.loop w_s_l11Walk_1) = R
      simp +contextual only [w_s_l11Walk_1, Nat.lt_irrefl, decide_false, Option.isSome_some, go_sem, entry, joinEsc, if_pos, reduceIte, Nat.reduceAdd, Nat.reduceLeDiff, Nat.reduceLT, Nat.reduceEqDiff]
  | k + 1, i, jb, cur, G, y7, y8, e, hce, hk, hc, hj => by
    have hi : i < ws.length := by omega
    have h60 : (ws.length : Int) ≤ 60 := by omega
    obtain ⟨m1, m2, hl⟩ : ∃ m1 m2, ws[i]? = some (m1, m2) := ⟨ws[i].1, ws[i].2, List.getElem?_eq_getElem hi⟩
    have hd : ws.drop i = (m1, m2) :: ws.drop (i + 1) := by
      have h1 := List.drop_eq_getElem_cons hi
      rw [List.getElem?_eq_getElem hi] at hl
      rw [h1, Option.some.inj hl]
    have hpart : part true (encL ws) (i * 2) 2 = some (.agg [.int .i64 m1, .int .i64 m2]) := part_encL hl
    have hcell : cellsAt (H ++ (B0 :: B1 :: B2 :: B3 :: .cells [.int .i64 x, .int .i64 a, .int .i64 b, slL (H.length + jb) n none, .int .i64 s] true :: G)) (H.length + jb) = some (encL cur) := by
      rw [cellsAt_newk]; exact cellsAt_get hj
    have hsf := e_s_l11Safe (pr := pr) (e := e) (c := none) hcell (by omega) x a b s m1 m2
    rw [hc] at hsf
    rw [hd]
    cases hsafe : safeMv x a b cur s m1 m2 with
    | false =>
      rw [hsafe] at hsf
      have hno : walkW x a b s cur ((m1, m2) :: ws.drop (i + 1)) = none := by rw [walkW]; simp [hsafe]
      refine ⟨.cells [.int .i64 x, .int .i64 a, .int .i64 b, slL (H.length + jb) n none, .int .i64 s] true, jb, G, .int .i64 i, .bool true, .bool true, e, hce, fun r hr => ?_, ?_⟩
      · rw [hno] at hr
        cases hr
      · subst hB1
        rw [run_loop, hno]
        generalize run T pr (.loop w_s_l11Walk_1) = R
        simp +contextual only [w_s_l11Walk_1, fillParts, hi, h60, cells_mono hw, hpart, hsf, under_sliceN, decide_true, Option.isSome_none, Bool.false_eq_true, if_false, go_sem, entry, joinEsc, if_pos, reduceIte, Nat.reduceAdd, Nat.reduceLeDiff, Nat.reduceLT, Nat.reduceEqDiff]
    | true =>
      rw [hsafe] at hsf
      obtain ⟨r1, r2⟩ := safe_range hsafe
      obtain ⟨j, rfl⟩ : ∃ j : Nat, m1 = j := ⟨m1.toNat, by omega⟩
      rw [Int.toNat_natCast] at r2
      have hmv := e_s_l11Moved (pr := pr) (e := e) (c := none) hcell (by omega) x a b s m2 r2
      rw [hc] at hmv
      simp only [List.length_append, List.append_assoc, List.cons_append, List.nil_append, List.length_cons, List.length_nil, Nat.zero_add] at hmv
      have hyes : walkW x a b s cur (((j : Int), m2) :: ws.drop (i + 1)) = walkW x a b s (movd cur j m2) (ws.drop (i + 1)) := by rw [walkW]; simp only [hsafe, if_true, Int.toNat_natCast]
      obtain ⟨B4, jb', G', z6, z7, z8, e', he', k1, ih⟩ := loop_s_l11Walk (y0 := y0) (y9 := y9) (cw := cw) (B0 := B0) (B2 := B2) (B3 := B3) hn hw hwn hB1 k (i + 1) (G.length + 1 + 1 + 1 + 1 + 1) (movd cur j m2) (G ++ [.cells (encL (movd cur j m2)) true]) (.bool true) (.bool false) (minEsc e (H.length + 4)) (by rw [clean_minEsc, hce]; simp) (by omega) (by rw [movd_length]; exact hc) (by simp)
      refine ⟨B4, jb', G', z6, z7, z8, e', he', ?_, ?_⟩
      · rw [hyes]
        exact k1
      · rw [run_loop, hyes]
        generalize run T pr (.loop w_s_l11Walk_1) = R at ih ⊢
        generalize walkW x a b s (movd cur j m2) (ws.drop (i + 1)) = W at ih ⊢
        have hlt : ¬ (H.length + (G.length + 1 + 1 + 1 + 1 + 1) < H.length + 4 + 1) := by omega
        simp +contextual only [w_s_l11Walk_1, fillParts, hi, h60, cells_mono hw, hpart, hsf, hmv, under_slice, hlt, decide_false, wrap_succ (show i < 9223372036854775807 by omega), decide_true, go_sem, entry, joinEsc, if_pos, reduceIte, Nat.reduceAdd, Nat.reduceLeDiff, Nat.reduceLT, Nat.reduceEqDiff]
        exact ih

theorem loop_s_l11Walk_long {qw : Nat} {cw : Option Nat} {ws : List Ld} {y0 y2 y3 y4 y5 y7 y8 y9 : AV} {L : List Blk} (hwn : ¬ ws.length ≤ 60) :
    run T pr (.loop w_s_l11Walk_1) ⟨[y0, slL qw ws.length cw, y2, y3, y4, y5, .int .i64 0, y7, y8, y9], ⟨L, e⟩⟩ =
        some (Ex.exit 0, ⟨[y0, slL qw ws.length cw, y2, y3, y4, y5, .int .i64 0, .bool false, y8, y9], ⟨L, e⟩⟩) := by
  have h60 : ¬ (ws.length : Int) ≤ 60 := by omega
  have h1 : (0 : Int) < (ws.length : Int) := by omega
  rw [run_loop]
  generalize run T pr (.loop w_s_l11Walk_1) = R
  simp +contextual only [w_s_l11Walk_1, h60, h1, decide_true, decide_false, go_sem, entry, joinEsc, if_pos, reduceIte, Nat.reduceAdd, Nat.reduceLeDiff, Nat.reduceLT, Nat.reduceEqDiff]

abbrev noParty : AV := ptV 0 0 0 (.slice none 0 0 none) 0

theorem e_s_l11Walk {q qw : Nat} {c cw : Option Nat} {ls ws : List Ld} {x a b s : Int} (h : cellsAt H q = some (encL ls)) (hw : cellsAt H qw = some (encL ws)) (hn : ls.length ≤ 3) (hwn : ws.length ≤ 60) {r : List Ld} (hwk : walkW x a b s ls ws = some r) :
    call T pr f_s_l11Walk [ptV x a b (slL q ls.length c) s, slL qw ws.length cw] ⟨H, e⟩ = some (.tup [ptV x a b (slL H.length ls.length none) s, .bool true], ⟨H ++ [.cells (encL r) true], e⟩) := by
  have ha1 := fun L b e' (hb : L[b]? = some (.cells [] true)) hq => append_all (e := e') (L := L) (b := b) (q := q) (n := ls.length) (sz := 2) (bytes := 16) (c := c) (cs := encL ls) hb hq (encL_length ls) (by unfold maxBytes; omega)
  have ql : q < H.length + 2 := by have := cellsAt_lt h; omega
  obtain ⟨B4, jb', G', z6, z7, z8, e', he', k1, hl⟩ := loop_s_l11Walk (pr := pr) (H := H) (cw := cw) (x := x) (a := a) (b := b) (s := s) (y0 := ptV x a b (slL q ls.length c) s) (y9 := .undef) (B0 := .cells [.int .i64 x, .int .i64 a, .int .i64 b, slL q ls.length c, .int .i64 s] true) (B2 := if ls.length = 0 then Blk.dead else .cells [] true) (B3 := .cells (encL ls) true) hn hw hwn rfl ws.length 0 3 ls [] .undef .undef none rfl rfl rfl rfl
  have h0 : ((0 : Nat) : Int) = 0 := rfl
  rw [List.drop_zero] at k1
  obtain ⟨k2, k3⟩ := k1 r hwk
  rw [List.drop_zero, hwk, k2, h0, Option.isSome_some, if_pos rfl] at hl
  rw [k2] at k3
  have h60 : ¬ (60 : Int) < (ws.length : Int) := by omega
  have h5 : ∀ (v0 v1 v2 v3 v4 : AV) (w w' : Bool), some (Blk.cells [v0, v1, v2, v3, v4] w) ≠ some (Blk.cells (encL r) w') := by
    intro v0 v1 v2 v3 v4 w w' heq
    injection heq with heq
    injection heq with heq
    have := congrArg List.length heq
    rw [encL_length] at this
    simp at this
    omega
  have hf : ∀ (B0 B1 : Blk) (e0 e1 : Option Nat), clean H.length e1 = true → finish 2 H.length e0 (.tup [ptV x a b (slL (H.length + jb') ls.length none) s, .bool true]) ⟨H ++ (B0 :: B1 :: (if ls.length = 0 then Blk.dead else .cells [] true) :: .cells (encL ls) true :: .cells [.int .i64 x, .int .i64 a, .int .i64 b, slL (H.length + jb') ls.length none, .int .i64 s] true :: G'), e1⟩ = some (.tup [ptV x a b (slL H.length ls.length none) s, .bool true], ⟨H ++ [.cells (encL r) true], e0⟩) := by
    intro B0 B1 e0 e1 hc
    refine finish_partyB x a b s true e0 e1 hc (cs := encL r) (wr := true) ?_ (under_encL _ _)
    match jb', k3 with
    | 0, k3 => exact absurd k3 (h5 _ _ _ _ _ _ _)
    | 1, k3 => exact absurd k3 (h5 _ _ _ _ _ _ _)
    | j + 2, k3 => exact k3
  have hj2 : ¬ jb' < 2 := by
    intro hlt
    match jb', k3, hlt with
    | 0, k3, _ => exact absurd k3 (h5 _ _ _ _ _ _ _)
    | 1, k3, _ => exact absurd k3 (h5 _ _ _ _ _ _ _)
  rw [call_eq t_s_l11Walk]
  simp +contextual only [a_s_l11Walk, c_s_l11Walk, fillParts, ha1, cells_mono h, kill0_new, kill0_cons, kill0_0, ql, hl, hf, h60, hj2, he', under_sliceN, under_slice, Nat.add_assoc, Nat.add_lt_add_iff_left, Nat.lt_irrefl, decide_false, clean_minEsc, clean_none, Nat.le_add_right, Nat.le_refl, decide_true, go_sem, entry, joinEsc, if_pos, reduceIte, Nat.reduceAdd, Nat.reduceLeDiff, Nat.reduceLT, Nat.reduceEqDiff]

theorem e_s_l11Walk_no {q qw : Nat} {c cw : Option Nat} {ls ws : List Ld} {x a b s : Int} (h : cellsAt H q = some (encL ls)) (hw : cellsAt H qw = some (encL ws)) (hn : ls.length ≤ 3) (hwk : ws.length ≤ 60 → walkW x a b s ls ws = none) :
    call T pr f_s_l11Walk [ptV x a b (slL q ls.length c) s, slL qw ws.length cw] ⟨H, e⟩ = some (.tup [noParty, .bool false], ⟨H, e⟩) := by
  have ha1 := fun L b e' (hb : L[b]? = some (.cells [] true)) hq => append_all (e := e') (L := L) (b := b) (q := q) (n := ls.length) (sz := 2) (bytes := 16) (c := c) (cs := encL ls) hb hq (encL_length ls) (by unfold maxBytes; omega)
  have ql : q < H.length + 2 := by have := cellsAt_lt h; omega
  have hf : ∀ (G : List Blk) (e0 e1 : Option Nat), clean H.length e1 = true → finish 2 H.length e0 (.tup [noParty, .bool false]) ⟨H ++ G, e1⟩ = some (.tup [noParty, .bool false], ⟨H, e0⟩) :=
    fun G e0 e1 hc => finish_partyN 0 0 0 0 false e0 e1 hc
  rw [call_eq t_s_l11Walk]
  by_cases hwn : ws.length ≤ 60
  · obtain ⟨B4, jb', G', z6, z7, z8, e', he', k1, hl⟩ := loop_s_l11Walk (pr := pr) (H := H) (cw := cw) (x := x) (a := a) (b := b) (s := s) (y0 := ptV x a b (slL q ls.length c) s) (y9 := .undef) (B0 := .cells [.int .i64 x, .int .i64 a, .int .i64 b, slL q ls.length c, .int .i64 s] true) (B2 := if ls.length = 0 then Blk.dead else .cells [] true) (B3 := .cells (encL ls) true) hn hw hwn rfl ws.length 0 3 ls [] .undef .undef none rfl rfl rfl rfl
    have h0 : ((0 : Nat) : Int) = 0 := rfl
    rw [List.drop_zero, hwk hwn, h0] at hl
    simp only [Option.isSome_none, Bool.false_eq_true, if_false] at hl
    simp +contextual only [a_s_l11Walk, c_s_l11Walk, fillParts, ha1, cells_mono h, kill0_new, kill0_cons, kill0_0, ql, hl, hf, he', under_sliceN, under_slice, Nat.add_assoc, Nat.add_lt_add_iff_left, Nat.lt_irrefl, decide_false, clean_minEsc, clean_none, Nat.le_add_right, Nat.le_refl, decide_true, go_sem, entry, joinEsc, if_pos, reduceIte, Nat.reduceAdd, Nat.reduceLeDiff, Nat.reduceLT, Nat.reduceEqDiff]
  · have h60 : (60 : Int) < (ws.length : Int) := by omega
    have hl := fun L y0 y2 y3 y4 y5 y7 y8 y9 => loop_s_l11Walk_long (pr := pr) (e := none) (qw := qw) (cw := cw) (ws := ws) (y0 := y0) (y2 := y2) (y3 := y3) (y4 := y4) (y5 := y5) (y7 := y7) (y8 := y8) (y9 := y9) (L := L) hwn
    simp +contextual only [a_s_l11Walk, c_s_l11Walk, fillParts, ha1, cells_mono h, kill0_new, kill0_cons, kill0_0, ql, hl, hf, h60, under_sliceN, under_slice, Nat.add_assoc, Nat.add_lt_add_iff_left, Nat.lt_irrefl, decide_false, clean_minEsc, clean_none, Nat.le_add_right, Nat.le_refl, decide_true, go_sem, entry, joinEsc, if_pos, reduceIte, Nat.reduceAdd, Nat.reduceLeDiff, Nat.reduceLT, Nat.reduceEqDiff]

def walkOk (x a b s : Int) (ls ws : List Ld) : Bool := decide (ws.length ≤ 60) && (walkW x a b s ls ws).isSome

theorem e_s_IsWalkOn {q qw : Nat} {c cw : Option Nat} {ls ws : List Ld} (h : cellsAt H q = some (encL ls)) (hw : cellsAt H qw = some (encL ws)) (hn : ls.length ≤ 9223372036854775806) (x a b s : Int) :
    call T pr f_s_IsWalkOn [ptV x a b (slL q ls.length c) s, slL qw ws.length cw] ⟨H, e⟩ = some (.tup [.bool (partyOk x a b ls s && walkOk x a b s ls ws), .bool (partyOk x a b ls s)], ⟨H, e⟩) := by
  rw [call_eq t_s_IsWalkOn]
  cases h1 : partyOk x a b ls s with
  | false => simp +contextual only [a_s_IsWalkOn, c_s_IsWalkOn, under_slice, under_sliceN, Nat.add_assoc, Nat.add_lt_add_iff_left, Nat.lt_irrefl, Nat.lt_add_right_iff_pos, decide_true, decide_false, e_s_l11Party (cells_mono h _) hn, h1, go_sem, entry, joinEsc, if_pos, reduceIte, Nat.reduceAdd, Nat.reduceLeDiff, Nat.reduceLT, Nat.reduceEqDiff]
  | true =>
    have hn3 := (party_facts h1).1
    have hm : ∀ G : List Blk, cellsAt (H ++ G) q = some (encL ls) ∧ cellsAt (H ++ G) qw = some (encL ws) := fun G => ⟨cells_mono h G, cells_mono hw G⟩
    unfold walkOk
    by_cases h2 : ws.length ≤ 60
    · cases h3 : walkW x a b s ls ws with
      | none =>
        have hwk := fun G => e_s_l11Walk_no (pr := pr) (e := none) (c := c) (cw := cw) (x := x) (a := a) (b := b) (s := s) (hm G).1 (hm G).2 hn3 (fun _ => h3)
        simp +contextual only [a_s_IsWalkOn, c_s_IsWalkOn, under_slice, under_sliceN, Nat.add_assoc, Nat.add_lt_add_iff_left, Nat.lt_irrefl, Nat.lt_add_right_iff_pos, decide_true, decide_false, e_s_l11Party (cells_mono h _) hn, h1, hwk, Option.isSome_none, Bool.and_false, go_sem, entry, joinEsc, if_pos, reduceIte, Nat.reduceAdd, Nat.reduceLeDiff, Nat.reduceLT, Nat.reduceEqDiff]
      | some r =>
        have hwk := fun G => e_s_l11Walk (pr := pr) (e := none) (c := c) (cw := cw) (x := x) (a := a) (b := b) (s := s) (hm G).1 (hm G).2 hn3 h2 h3
        simp +contextual only [a_s_IsWalkOn, c_s_IsWalkOn, under_slice, under_sliceN, Nat.add_assoc, Nat.add_lt_add_iff_left, Nat.lt_irrefl, Nat.lt_add_right_iff_pos, decide_true, decide_false, e_s_l11Party (cells_mono h _) hn, h1, hwk, h2, decide_true, Option.isSome_some, Bool.and_true, go_sem, entry, joinEsc, if_pos, reduceIte, Nat.reduceAdd, Nat.reduceLeDiff, Nat.reduceLT, Nat.reduceEqDiff]
    · have hwk := fun G => e_s_l11Walk_no (pr := pr) (e := none) (c := c) (cw := cw) (x := x) (a := a) (b := b) (s := s) (hm G).1 (hm G).2 hn3 (fun h => absurd h h2)
      simp +contextual only [a_s_IsWalkOn, c_s_IsWalkOn, under_slice, under_sliceN, Nat.add_assoc, Nat.add_lt_add_iff_left, Nat.lt_irrefl, Nat.lt_add_right_iff_pos, decide_true, decide_false, e_s_l11Party (cells_mono h _) hn, h1, hwk, h2, decide_false, Bool.false_and, Bool.and_false, go_sem, entry, joinEsc, if_pos, reduceIte, Nat.reduceAdd, Nat.reduceLeDiff, Nat.reduceLT, Nat.reduceEqDiff]

theorem e_i_IsWalkOn {q qw : Nat} {c cw : Option Nat} {ls ws : List Ld} (h : cellsAt H q = some (encL ls)) (hw : cellsAt H qw = some (encL ws)) (hn : ls.length ≤ 9223372036854775806) (hwn : ws.length ≤ 1048576) (x a b s : Int) :
    call T pr f_i_IsWalkOn [ptV x a b (slL q ls.length c) s, slL qw ws.length cw] ⟨H, e⟩ = some (.tup [.bool (partyOk x a b ls s && walkOk x a b s ls ws), .bool (partyOk x a b ls s)], ⟨H, e⟩) := by
  rw [call_eq t_i_IsWalkOn]
  cases h1 : partyOk x a b ls s with
  | false => simp +contextual only [a_i_IsWalkOn, c_i_IsWalkOn, under_slice, under_sliceN, Nat.add_assoc, Nat.add_lt_add_iff_left, Nat.lt_irrefl, Nat.lt_add_right_iff_pos, decide_true, decide_false, e_i_IsParty (cells_mono h _) hn, h1, go_sem, entry, joinEsc, if_pos, reduceIte, Nat.reduceAdd, Nat.reduceLeDiff, Nat.reduceLT, Nat.reduceEqDiff]
  | true =>
    have hn3 := (party_facts h1).1
    unfold walkOk
    by_cases h2 : ws.length ≤ 60
    · have h60 : ¬ (60 : Int) < (ws.length : Int) := by omega
      rcases walk_cases (x := x) (a := a) (b := b) (s := s) (ws := ws) hn3 with ⟨h3, h4⟩ | ⟨t0, t1, t2, h3, h4⟩
      · have hwk := fun G => e_i_Party_walk_no (pr := pr) (e := none) (c := c) (cw := cw) (cells_mono h G) (cells_mono hw G) h1 hwn h3
        rw [h4]
        simp +contextual only [a_i_IsWalkOn, c_i_IsWalkOn, under_slice, under_sliceN, Nat.add_assoc, Nat.add_lt_add_iff_left, Nat.lt_irrefl, Nat.lt_add_right_iff_pos, decide_true, decide_false, e_i_IsParty (cells_mono h _) hn, h1, hwk, h60, decide_false, Option.isSome_none, Bool.and_false, go_sem, entry, joinEsc, if_pos, reduceIte, Nat.reduceAdd, Nat.reduceLeDiff, Nat.reduceLT, Nat.reduceEqDiff]
      · have hwk := fun G => e_i_Party_walk (pr := pr) (e := none) (c := c) (cw := cw) (cells_mono h G) (cells_mono hw G) h1 hwn h3
        rw [h4]
        simp +contextual only [a_i_IsWalkOn, c_i_IsWalkOn, under_slice, under_sliceN, Nat.add_assoc, Nat.add_lt_add_iff_left, Nat.lt_irrefl, Nat.lt_add_right_iff_pos, decide_true, decide_false, e_i_IsParty (cells_mono h _) hn, h1, hwk, h60, h2, decide_true, decide_false, Option.isSome_some, Bool.and_true, go_sem, entry, joinEsc, if_pos, reduceIte, Nat.reduceAdd, Nat.reduceLeDiff, Nat.reduceLT, Nat.reduceEqDiff]
    · have h60 : (60 : Int) < (ws.length : Int) := by omega
      simp +contextual only [a_i_IsWalkOn, c_i_IsWalkOn, under_slice, under_sliceN, Nat.add_assoc, Nat.add_lt_add_iff_left, Nat.lt_irrefl, Nat.lt_add_right_iff_pos, decide_true, decide_false, e_i_IsParty (cells_mono h _) hn, h1, h60, h2, decide_true, decide_false, Bool.false_and, Bool.and_false, go_sem, entry, joinEsc, if_pos, reduceIte, Nat.reduceAdd, Nat.reduceLeDiff, Nat.reduceLT, Nat.reduceEqDiff]

end Go.Proofs.Ythkgpblohjpcdaa.Slim

/- Walks and moves of a party that lead to another one: the functions and the laws. -/
namespace Go.Proofs.Ythkgpblohjpcdaa.Slim

open Go

set_option linter.unusedSimpArgs false

set_option linter.unusedVariables false

variable {pr : Prims} {H : List Blk} {e : Option Nat}

theorem e_s_WalkTo_no {q qw : Nat} {c cw : Option Nat} {ls ws : List Ld} (h : cellsAt H q = some (encL ls)) (hw : cellsAt H qw = some (encL ws)) (hn : ls.length ≤ 9223372036854775806) (x a b s : Int) (hno : (partyOk x a b ls s && walkOk x a b s ls ws) = false) :
    call T pr f_s_WalkTo [ptV x a b (slL q ls.length c) s, slL qw ws.length cw] ⟨H, e⟩ = some (.tup [noParty, .bool false], ⟨H, e⟩) := by
  have hf : ∀ (G : List Blk) (e0 e1 : Option Nat), clean H.length e1 = true → finish 2 H.length e0 (.tup [noParty, .bool false]) ⟨H ++ G, e1⟩ = some (.tup [noParty, .bool false], ⟨H, e0⟩) :=
    fun G e0 e1 hc => finish_partyN 0 0 0 0 false e0 e1 hc
  rw [call_eq t_s_WalkTo]
  cases h1 : partyOk x a b ls s with
  | false => simp +contextual only [a_s_WalkTo, c_s_WalkTo, fillParts, e_s_l11Party (cells_mono h _) hn, h1, hf, under_sliceN, clean_minEsc, clean_none, Nat.le_add_right, decide_true, go_sem, entry, joinEsc, if_pos, reduceIte, Nat.reduceAdd, Nat.reduceLeDiff, Nat.reduceLT, Nat.reduceEqDiff]
  | true =>
    have hn3 := (party_facts h1).1
    rw [h1, Bool.true_and] at hno
    have hwk := fun G => e_s_l11Walk_no (pr := pr) (e := none) (c := c) (cw := cw) (x := x) (a := a) (b := b) (s := s) (cells_mono h G) (cells_mono hw G) hn3 (fun h60 => by
      unfold walkOk at hno
      rw [decide_eq_true h60, Bool.true_and] at hno
      exact Option.isSome_eq_false_iff.mp hno |> fun h => by simpa using h)
    simp +contextual only [a_s_WalkTo, c_s_WalkTo, fillParts, e_s_l11Party (cells_mono h _) hn, h1, hwk, hf, under_sliceN, clean_minEsc, clean_none, Nat.le_add_right, decide_true, go_sem, entry, joinEsc, if_pos, reduceIte, Nat.reduceAdd, Nat.reduceLeDiff, Nat.reduceLT, Nat.reduceEqDiff]

theorem e_s_WalkTo {q qw : Nat} {c cw : Option Nat} {ls ws : List Ld} (h : cellsAt H q = some (encL ls)) (hw : cellsAt H qw = some (encL ws)) (x a b s : Int) (hp : partyOk x a b ls s = true) (hwn : ws.length ≤ 60) {r : List Ld} (hwk : walkW x a b s ls ws = some r) :
    call T pr f_s_WalkTo [ptV x a b (slL q ls.length c) s, slL qw ws.length cw] ⟨H, e⟩ = some (.tup [ptV x a b (slL H.length ls.length none) s, .bool true], ⟨H ++ [.cells (encL r) true], e⟩) := by
  have hn3 := (party_facts hp).1
  have hn : ls.length ≤ 9223372036854775806 := by omega
  have hf : ∀ (B0 B1 : Blk) (e0 e1 : Option Nat), clean H.length e1 = true → finish 2 H.length e0 (.tup [ptV x a b (slL (H.length + 2) ls.length none) s, .bool true]) ⟨H ++ [B0, B1, .cells (encL r) true], e1⟩ = some (.tup [ptV x a b (slL H.length ls.length none) s, .bool true], ⟨H ++ [.cells (encL r) true], e0⟩) :=
    fun B0 B1 e0 e1 hc => finish_partyB x a b s true e0 e1 hc rfl (under_encL _ _)
  have hwk' := fun G => e_s_l11Walk (pr := pr) (e := none) (c := c) (cw := cw) (x := x) (a := a) (b := b) (s := s) (cells_mono h G) (cells_mono hw G) hn3 hwn hwk
  rw [call_eq t_s_WalkTo]
  simp +contextual only [a_s_WalkTo, c_s_WalkTo, fillParts, e_s_l11Party (cells_mono h _) hn, hp, hwk', hf, under_slice, under_sliceN, Nat.add_assoc, Nat.add_lt_add_iff_left, Nat.lt_irrefl, decide_false, clean_minEsc, clean_none, Nat.le_add_right, decide_true, go_sem, entry, joinEsc, if_pos, reduceIte, Nat.reduceAdd, Nat.reduceLeDiff, Nat.reduceLT, Nat.reduceEqDiff]

theorem e_i_WalkTo_no {q qw : Nat} {c cw : Option Nat} {ls ws : List Ld} (h : cellsAt H q = some (encL ls)) (hw : cellsAt H qw = some (encL ws)) (hn : ls.length ≤ 9223372036854775806) (hwn : ws.length ≤ 1048576) (x a b s : Int) (hno : (partyOk x a b ls s && walkOk x a b s ls ws) = false) :
    call T pr f_i_WalkTo [ptV x a b (slL q ls.length c) s, slL qw ws.length cw] ⟨H, e⟩ = some (.tup [noParty, .bool false], ⟨H, e⟩) := by
  have hf : ∀ (G : List Blk) (e0 e1 : Option Nat), clean H.length e1 = true → finish 2 H.length e0 (.tup [noParty, .bool false]) ⟨H ++ G, e1⟩ = some (.tup [noParty, .bool false], ⟨H, e0⟩) :=
    fun G e0 e1 hc => finish_partyN 0 0 0 0 false e0 e1 hc
  rw [call_eq t_i_WalkTo]
  cases h1 : partyOk x a b ls s with
  | false => simp +contextual only [a_i_WalkTo, c_i_WalkTo, fillParts, e_i_IsParty (cells_mono h _) hn, h1, hf, under_sliceN, clean_minEsc, clean_none, Nat.le_add_right, decide_true, go_sem, entry, joinEsc, if_pos, reduceIte, Nat.reduceAdd, Nat.reduceLeDiff, Nat.reduceLT, Nat.reduceEqDiff]
  | true =>
    have hn3 := (party_facts h1).1
    rw [h1, Bool.true_and] at hno
    by_cases h60 : ws.length ≤ 60
    · have h60' : ¬ (60 : Int) < (ws.length : Int) := by omega
      unfold walkOk at hno
      rw [decide_eq_true h60, Bool.true_and] at hno
      rcases walk_cases (x := x) (a := a) (b := b) (s := s) (ws := ws) hn3 with ⟨h3, h4⟩ | ⟨t0, t1, t2, h3, h4⟩
      · have hwk := fun G => e_i_Party_walk_no (pr := pr) (e := none) (c := c) (cw := cw) (cells_mono h G) (cells_mono hw G) h1 hwn h3
        simp +contextual only [a_i_WalkTo, c_i_WalkTo, fillParts, e_i_IsParty (cells_mono h _) hn, h1, h60', hwk, hf, under_sliceN, clean_minEsc, clean_none, Nat.le_add_right, decide_true, decide_false, go_sem, entry, joinEsc, if_pos, reduceIte, Nat.reduceAdd, Nat.reduceLeDiff, Nat.reduceLT, Nat.reduceEqDiff]
      · rw [h4] at hno
        simp at hno
    · have h60' : (60 : Int) < (ws.length : Int) := by omega
      simp +contextual only [a_i_WalkTo, c_i_WalkTo, fillParts, e_i_IsParty (cells_mono h _) hn, h1, h60', hf, under_sliceN, clean_minEsc, clean_none, Nat.le_add_right, decide_true, go_sem, entry, joinEsc, if_pos, reduceIte, Nat.reduceAdd, Nat.reduceLeDiff, Nat.reduceLT, Nat.reduceEqDiff]

theorem e_i_WalkTo {q qw : Nat} {c cw : Option Nat} {ls ws : List Ld} (h : cellsAt H q = some (encL ls)) (hw : cellsAt H qw = some (encL ws)) (x a b s : Int) (hp : partyOk x a b ls s = true) (hwn : ws.length ≤ 60) {r : List Ld} (hwk : walkW x a b s ls ws = some r) :
    call T pr f_i_WalkTo [ptV x a b (slL q ls.length c) s, slL qw ws.length cw] ⟨H, e⟩ = some (.tup [ptV x a b (slL H.length ls.length none) s, .bool true], ⟨H ++ [.cells (encL r) true], e⟩) := by
  have hn3 := (party_facts hp).1
  have hn : ls.length ≤ 9223372036854775806 := by omega
  have h60' : ¬ (60 : Int) < (ws.length : Int) := by omega
  rcases walk_cases (x := x) (a := a) (b := b) (s := s) (ws := ws) hn3 with ⟨h3, h4⟩ | ⟨t0, t1, t2, h3, h4⟩
  · rw [h4] at hwk
    cases hwk
  · rw [h4] at hwk
    cases hwk
    have hf : ∀ (B0 B1 B2 : Blk) (e0 e1 : Option Nat), clean H.length e1 = true → finish 2 H.length e0 (.tup [ptV x a b (slL (H.length + 3) ls.length none) s, .bool true]) ⟨H ++ [B0, B1, B2, .cells (encL (putL ls [t0, t1, t2])) true], e1⟩ = some (.tup [ptV x a b (slL H.length ls.length none) s, .bool true], ⟨H ++ [.cells (encL (putL ls [t0, t1, t2])) true], e0⟩) :=
      fun B0 B1 B2 e0 e1 hc => finish_partyB x a b s true e0 e1 hc rfl (under_encL _ _)
    have hwk := fun G => e_i_Party_walk (pr := pr) (e := none) (c := c) (cw := cw) (cells_mono h G) (cells_mono hw G) hp (by omega) h3
    have hat := fun G => e_i_Party_at (pr := pr) (e := none) (c := c) (cells_mono h G) hn3 x a b s t0 t1 t2
    rw [call_eq t_i_WalkTo]
    simp +contextual only [a_i_WalkTo, c_i_WalkTo, fillParts, e_i_IsParty (cells_mono h _) hn, hp, h60', hwk, hat, hf, under_slice, under_sliceN, Nat.add_assoc, Nat.add_lt_add_iff_left, Nat.lt_irrefl, decide_false, clean_minEsc, clean_none, Nat.le_add_right, decide_true, go_sem, entry, joinEsc, if_pos, reduceIte, Nat.reduceAdd, Nat.reduceLeDiff, Nat.reduceLT, Nat.reduceEqDiff]

end Go.Proofs.Ythkgpblohjpcdaa.Slim

/- One move of a party: the functions and the law. -/
namespace Go.Proofs.Ythkgpblohjpcdaa.Slim

open Go

set_option linter.unusedSimpArgs false

set_option linter.unusedVariables false

variable {pr : Prims} {H : List Blk} {e : Option Nat}

theorem walkOk_one (x a b s m1 m2 : Int) (ls : List Ld) : walkOk x a b s ls [(m1, m2)] = safeMv x a b ls s m1 m2 := by
  unfold walkOk
  rw [walkW]
  cases h : safeMv x a b ls s m1 m2 <;> simp [walkW]

theorem e_s_MoveOne_no {q : Nat} {c : Option Nat} {ls : List Ld} (h : cellsAt H q = some (encL ls)) (hn : ls.length ≤ 9223372036854775806) (x a b s m1 m2 : Int) (hno : (partyOk x a b ls s && safeMv x a b ls s m1 m2) = false) :
    call T pr f_s_MoveOne [ptV x a b (slL q ls.length c) s, prV m1 m2] ⟨H, e⟩ = some (.tup [noParty, .bool false], ⟨H, e⟩) := by
  have hf : ∀ (G : List Blk) (e0 e1 : Option Nat), clean H.length e1 = true → finish 2 H.length e0 (.tup [noParty, .bool false]) ⟨H ++ G, e1⟩ = some (.tup [noParty, .bool false], ⟨H, e0⟩) :=
    fun G e0 e1 hc => finish_partyN 0 0 0 0 false e0 e1 hc
  rw [call_eq t_s_MoveOne]
  cases h1 : partyOk x a b ls s with
  | false => simp +contextual only [a_s_MoveOne, c_s_MoveOne, fillParts, e_s_l11Party (cells_mono h _) hn, h1, hf, under_sliceN, clean_minEsc, clean_none, Nat.le_add_right, decide_true, go_sem, entry, joinEsc, if_pos, reduceIte, Nat.reduceAdd, Nat.reduceLeDiff, Nat.reduceLT, Nat.reduceEqDiff]
  | true =>
    have hn3 := (party_facts h1).1
    rw [h1, Bool.true_and] at hno
    have hsf := fun G => e_s_l11Safe (pr := pr) (e := none) (c := c) (cells_mono h G) hn3 x a b s m1 m2
    simp +contextual only [a_s_MoveOne, c_s_MoveOne, fillParts, e_s_l11Party (cells_mono h _) hn, h1, hsf, hno, hf, under_sliceN, clean_minEsc, clean_none, Nat.le_add_right, decide_true, go_sem, entry, joinEsc, if_pos, reduceIte, Nat.reduceAdd, Nat.reduceLeDiff, Nat.reduceLT, Nat.reduceEqDiff]

theorem e_s_MoveOne {q : Nat} {c : Option Nat} {ls : List Ld} (h : cellsAt H q = some (encL ls)) (x a b s m2 : Int) {j : Nat} (hp : partyOk x a b ls s = true) (hs : safeMv x a b ls s j m2 = true) :
    call T pr f_s_MoveOne [ptV x a b (slL q ls.length c) s, prV j m2] ⟨H, e⟩ = some (.tup [ptV x a b (slL H.length ls.length none) s, .bool true], ⟨H ++ [.cells (encL (movd ls j m2)) true], e⟩) := by
  have hn3 := (party_facts hp).1
  have hn : ls.length ≤ 9223372036854775806 := by omega
  have hj := (safe_range hs).2
  rw [Int.toNat_natCast] at hj
  have hf : ∀ (B0 B1 B2 : Blk) (e0 e1 : Option Nat), clean H.length e1 = true → finish 2 H.length e0 (.tup [ptV x a b (slL (H.length + 3) ls.length none) s, .bool true]) ⟨H ++ [B0, B1, B2, .cells (encL (movd ls j m2)) true], e1⟩ = some (.tup [ptV x a b (slL H.length ls.length none) s, .bool true], ⟨H ++ [.cells (encL (movd ls j m2)) true], e0⟩) :=
    fun B0 B1 B2 e0 e1 hc => finish_partyB x a b s true e0 e1 hc rfl (under_encL _ _)
  have hsf := fun G => e_s_l11Safe (pr := pr) (e := none) (c := c) (cells_mono h G) hn3 x a b s j m2
  have hmv := fun G => e_s_l11Moved (pr := pr) (e := none) (c := c) (cells_mono h G) hn3 x a b s m2 hj
  rw [hs] at hsf
  rw [call_eq t_s_MoveOne]
  simp +contextual only [a_s_MoveOne, c_s_MoveOne, fillParts, e_s_l11Party (cells_mono h _) hn, hp, hsf, hmv, hf, under_slice, under_sliceN, Nat.add_assoc, Nat.add_lt_add_iff_left, Nat.lt_irrefl, decide_false, clean_minEsc, clean_none, Nat.le_add_right, decide_true, go_sem, entry, joinEsc, if_pos, reduceIte, Nat.reduceAdd, Nat.reduceLeDiff, Nat.reduceLT, Nat.reduceEqDiff]

theorem e_i_MoveOne_no {q : Nat} {c : Option Nat} {ls : List Ld} (h : cellsAt H q = some (encL ls)) (hn : ls.length ≤ 9223372036854775806) (x a b s m1 m2 : Int) (hno : (partyOk x a b ls s && safeMv x a b ls s m1 m2) = false) :
    call T pr f_i_MoveOne [ptV x a b (slL q ls.length c) s, prV m1 m2] ⟨H, e⟩ = some (.tup [noParty, .bool false], ⟨H, e⟩) := by
  have hf : ∀ (G : List Blk) (e0 e1 : Option Nat), clean H.length e1 = true → finish 2 H.length e0 (.tup [noParty, .bool false]) ⟨H ++ G, e1⟩ = some (.tup [noParty, .bool false], ⟨H, e0⟩) :=
    fun G e0 e1 hc => finish_partyN 0 0 0 0 false e0 e1 hc
  rw [← walkOk_one] at hno
  have hwk : ∀ (L : List Blk) (qw : Nat) (cw : Option Nat), cellsAt L q = some (encL ls) → cellsAt L qw = some [.int .i64 m1, .int .i64 m2] → call T pr f_i_WalkTo [ptV x a b (slL q ls.length c) s, .slice (some (qw, 0)) 2 1 cw] ⟨L, none⟩ = some (.tup [noParty, .bool false], ⟨L, none⟩) :=
    fun L qw cw h1 h2 => e_i_WalkTo_no (ws := [(m1, m2)]) h1 h2 hn (by simp) x a b s hno
  rw [call_eq t_i_MoveOne]
  simp +contextual only [a_i_MoveOne, c_i_MoveOne, fillParts, cells_mono h, hwk, hf, under_sliceN, clean_minEsc, clean_none, Nat.le_add_right, decide_true, go_sem, entry, joinEsc, if_pos, reduceIte, Nat.reduceAdd, Nat.reduceLeDiff, Nat.reduceLT, Nat.reduceEqDiff]

theorem e_i_MoveOne {q : Nat} {c : Option Nat} {ls : List Ld} (h : cellsAt H q = some (encL ls)) (x a b s m2 : Int) {j : Nat} (hp : partyOk x a b ls s = true) (hs : safeMv x a b ls s j m2 = true) :
    call T pr f_i_MoveOne [ptV x a b (slL q ls.length c) s, prV j m2] ⟨H, e⟩ = some (.tup [ptV x a b (slL H.length ls.length none) s, .bool true], ⟨H ++ [.cells (encL (movd ls j m2)) true], e⟩) := by
  have hr : walkW x a b s ls [((j : Int), m2)] = some (movd ls j m2) := by
    rw [walkW]
    simp [hs, walkW]
  have hf : ∀ (B0 B1 B2 B3 : Blk) (e0 e1 : Option Nat), clean H.length e1 = true → finish 2 H.length e0 (.tup [ptV x a b (slL (H.length + 4) ls.length none) s, .bool true]) ⟨H ++ [B0, B1, B2, B3, .cells (encL (movd ls j m2)) true], e1⟩ = some (.tup [ptV x a b (slL H.length ls.length none) s, .bool true], ⟨H ++ [.cells (encL (movd ls j m2)) true], e0⟩) :=
    fun B0 B1 B2 B3 e0 e1 hc => finish_partyB x a b s true e0 e1 hc rfl (under_encL _ _)
  have hwk : ∀ (L : List Blk) (qw : Nat) (cw : Option Nat), cellsAt L q = some (encL ls) → cellsAt L qw = some [.int .i64 j, .int .i64 m2] → call T pr f_i_WalkTo [ptV x a b (slL q ls.length c) s, .slice (some (qw, 0)) 2 1 cw] ⟨L, none⟩ = some (.tup [ptV x a b (slL L.length ls.length none) s, .bool true], ⟨L ++ [.cells (encL (movd ls j m2)) true], none⟩) :=
    fun L qw cw h1 h2 => e_i_WalkTo (ws := [((j : Int), m2)]) h1 h2 x a b s hp (by simp) hr
  rw [call_eq t_i_MoveOne]
  simp +contextual only [a_i_MoveOne, c_i_MoveOne, fillParts, cells_mono h, hwk, hf, under_slice, under_sliceN, Nat.add_assoc, Nat.add_lt_add_iff_left, Nat.lt_irrefl, decide_false, clean_minEsc, clean_none, Nat.le_add_right, decide_true, go_sem, entry, joinEsc, if_pos, reduceIte, Nat.reduceAdd, Nat.reduceLeDiff, Nat.reduceLT, Nat.reduceEqDiff]

end Go.Proofs.Ythkgpblohjpcdaa.Slim

/- Planks: searches from a list of places on, told plainly (see a_s_l11Spread). -/
namespace Go.Proofs.Ythkgpblohjpcdaa.Slim

open Go

set_option linter.unusedSimpArgs false

set_option linter.unusedVariables false

abbrev Found := List (List Int × Int)

theorem mget_mem : ∀ {es : Found} {z : List Int} {v : Int}, mget es z = some v → (z, v) ∈ es
  | [], z, v, h => by cases h
  | p :: es, z, v, h => by
    unfold mget at h
    split at h
    · rename_i e
      cases h
      subst e
      exact List.mem_cons_self
    · exact List.mem_cons_of_mem _ (mget_mem h)

theorem mget_none_iff : ∀ {es : Found} {z : List Int}, mget es z = none ↔ z ∉ es.map (·.1)
  | [], z => by simp [mget]
  | p :: es, z => by
    unfold mget
    split
    · rename_i e
      simp [e]
    · rename_i e
      rw [mget_none_iff (es := es)]
      simp only [List.map_cons, List.mem_cons, not_or]
      exact ⟨fun h => ⟨fun h' => e h'.symm, h⟩, fun h => h.2⟩

theorem mget_of_mem : ∀ {es : Found} {z : List Int} {v : Int}, (es.map (·.1)).Nodup → (z, v) ∈ es → mget es z = some v
  | [], z, v, _, h => by cases h
  | p :: es, z, v, hn, h => by
    simp only [List.map_cons, List.nodup_cons] at hn
    unfold mget
    rcases List.mem_cons.mp h with h1 | h1
    · subst h1
      rw [if_pos rfl]
    · rw [if_neg, mget_of_mem hn.2 h1]
      intro e
      exact hn.1 (e ▸ List.mem_map_of_mem (f := (·.1)) h1)

theorem mput_new : ∀ {es : Found} {z : List Int} (v : Int), mget es z = none → mput es z v = es ++ [(z, v)]
  | [], z, v, _ => rfl
  | p :: es, z, v, h => by
    unfold mget at h
    split at h
    · cases h
    · rename_i e
      unfold mput
      rw [if_neg e, mput_new v h]
      rfl

theorem mget_append (es : Found) (t : List Int) (v : Int) (z : List Int) : mget (es ++ [(t, v)]) z = match mget es z with | some u => some u | none => if t = z then some v else none := by
  induction es with
  | nil => rfl
  | cons p es ih =>
    simp only [List.cons_append, mget]
    split
    · rfl
    · exact ih

def bfsIn (v : Int) (es : Found) : List (List Int) → Found
  | [] => es
  | t :: ts => bfsIn v (if (mget es t).isSome then es else es ++ [(t, v)]) ts

theorem bfsIn_append (v : Int) : ∀ (a : List (List Int)) (b : List (List Int)) (es : Found), bfsIn v es (a ++ b) = bfsIn v (bfsIn v es a) b
  | [], b, es => rfl
  | t :: a, b, es => by
    rw [List.cons_append, bfsIn, bfsIn, bfsIn_append v a b]

def bfsGo (nx : List Int → List (List Int)) : Nat → Nat → Found → Found
  | 0, _, es => es
  | k + 1, n, es => match es[n]? with
    | none => es
    | some p => bfsGo nx k (n + 1) (bfsIn (p.2 + 1) es (nx p.1))

theorem bfsIn_ext (v : Int) : ∀ (ts : List (List Int)) (es : Found), (es.map (·.1)).Nodup → ∃ more, bfsIn v es ts = es ++ more ∧ (∀ q ∈ more, q.2 = v ∧ q.1 ∈ ts) ∧ ((bfsIn v es ts).map (·.1)).Nodup ∧ ∀ t ∈ ts, ∃ u, (t, u) ∈ bfsIn v es ts
  | [], es, hn => ⟨[], by simp [bfsIn], by simp, hn, by simp⟩
  | t :: ts, es, hn => by
    rw [bfsIn]
    cases h : mget es t with
    | some u =>
      simp only [Option.isSome_some, if_true]
      obtain ⟨more, h1, h2, h3, h4⟩ := bfsIn_ext v ts es hn
      refine ⟨more, h1, fun q hq => ⟨(h2 q hq).1, List.mem_cons_of_mem _ (h2 q hq).2⟩, h3, fun x hx => ?_⟩
      rcases List.mem_cons.mp hx with rfl | hx
      · exact ⟨u, by rw [h1]; exact List.mem_append_left _ (mget_mem h)⟩
      · exact h4 x hx
    | none =>
      simp only [Option.isSome_none, Bool.false_eq_true, if_false]
      have hn' : ((es ++ [(t, v)]).map (·.1)).Nodup := by
        rw [List.map_append, List.nodup_append]
        refine ⟨hn, by simp, ?_⟩
        intro x hx y hy e
        simp only [List.map_cons, List.map_nil, List.mem_singleton] at hy
        subst hy
        subst e
        exact mget_none_iff.mp h hx
      obtain ⟨more, h1, h2, h3, h4⟩ := bfsIn_ext v ts (es ++ [(t, v)]) hn'
      refine ⟨(t, v) :: more, by rw [h1]; simp, fun q hq => ?_, h3, fun x hx => ?_⟩
      · rcases List.mem_cons.mp hq with rfl | hq
        · exact ⟨rfl, List.mem_cons_self⟩
        · exact ⟨(h2 q hq).1, List.mem_cons_of_mem _ (h2 q hq).2⟩
      · rcases List.mem_cons.mp hx with rfl | hx
        · exact ⟨v, by rw [h1]; simp⟩
        · exact h4 x hx

structure BI (nx : List Int → List (List Int)) (s : List Int) (n : Nat) (es : Found) : Prop where
  nd : (es.map (·.1)).Nodup
  src : (s, 0) ∈ es
  par : ∀ t v, (t, v) ∈ es → 0 ≤ v ∧ ((t = s ∧ v = 0) ∨ ∃ z, (z, v - 1) ∈ es ∧ t ∈ nx z)
  out : ∀ z v, (z, v) ∈ es.take n → ∀ t ∈ nx z, ∃ u, (t, u) ∈ es ∧ u ≤ v + 1
  mono : es.Pairwise fun p q => p.2 ≤ q.2
  top : ∀ p, es[n]? = some p → ∀ q ∈ es, q.2 ≤ p.2 + 1

theorem BI.start (nx : List Int → List (List Int)) (s : List Int) : BI nx s 0 [(s, 0)] where
  nd := by simp
  src := List.mem_cons_self
  par := fun t v h => by
    simp only [List.mem_singleton, Prod.mk.injEq] at h
    obtain ⟨rfl, rfl⟩ := h
    exact ⟨Int.le_refl _, .inl ⟨rfl, rfl⟩⟩
  out := fun z v h => by simp at h
  mono := by simp
  top := fun p hp q hq => by
    simp at hp
    subst hp
    simp at hq
    subst hq
    exact Int.le_add_one (Int.le_refl _)

theorem pairwise_at {es : Found} (h : es.Pairwise fun p q => p.2 ≤ q.2) {i j : Nat} {p q : List Int × Int} (hij : i < j) (hi : es[i]? = some p) (hj : es[j]? = some q) : p.2 ≤ q.2 := by
  obtain ⟨h1, e1⟩ := List.getElem?_eq_some_iff.mp hi
  obtain ⟨h2, e2⟩ := List.getElem?_eq_some_iff.mp hj
  have := List.pairwise_iff_getElem.mp h i j h1 h2 hij
  rw [e1, e2] at this
  exact this

theorem BI.step {nx : List Int → List (List Int)} {s : List Int} {n : Nat} {es : Found} (B : BI nx s n es) {p : List Int × Int} (hp : es[n]? = some p) : BI nx s (n + 1) (bfsIn (p.2 + 1) es (nx p.1)) := by
  obtain ⟨more, h1, h2, h3, h4⟩ := bfsIn_ext (p.2 + 1) (nx p.1) es B.nd
  have hlt : n < es.length := (List.getElem?_eq_some_iff.mp hp).1
  have hpm : p ∈ es := List.mem_of_getElem? hp
  have htop := B.top p hp
  have hall : ∀ q ∈ bfsIn (p.2 + 1) es (nx p.1), q.2 ≤ p.2 + 1 := by
    intro q hq
    rw [h1, List.mem_append] at hq
    rcases hq with hq | hq
    · exact htop q hq
    · exact Int.le_of_eq (h2 q hq).1
  have hsub : ∀ q ∈ es, q ∈ bfsIn (p.2 + 1) es (nx p.1) := fun q hq => by rw [h1]; exact List.mem_append_left _ hq
  have htake : (bfsIn (p.2 + 1) es (nx p.1)).take (n + 1) = es.take n ++ [p] := by
    rw [h1, List.take_append_of_le_length (by omega), List.take_add_one, hp]
    rfl
  refine ⟨h3, hsub _ B.src, ?_, ?_, ?_, ?_⟩
  · intro t v h
    rw [h1, List.mem_append] at h
    rcases h with h | h
    · obtain ⟨k1, k2⟩ := B.par t v h
      refine ⟨k1, k2.imp_right ?_⟩
      rintro ⟨z, hz, ht⟩
      exact ⟨z, hsub _ hz, ht⟩
    · obtain ⟨k1, k2⟩ := h2 _ h
      simp only at k1 k2
      subst k1
      have := (B.par p.1 p.2 hpm).1
      refine ⟨by omega, .inr ⟨p.1, ?_, k2⟩⟩
      have e : p.2 + 1 - 1 = p.2 := by omega
      rw [e]
      exact hsub _ hpm
  · intro z v h t ht
    rw [htake, List.mem_append] at h
    rcases h with h | h
    · obtain ⟨u, hu, hle⟩ := B.out z v h t ht
      exact ⟨u, hsub _ hu, hle⟩
    · simp only [List.mem_singleton] at h
      subst h
      obtain ⟨u, hu⟩ := h4 t ht
      exact ⟨u, hu, hall _ hu⟩
  · rw [h1, List.pairwise_append]
    refine ⟨B.mono, ?_, ?_⟩
    · refine List.pairwise_of_forall_mem_list ?_
      intro a ha b hb
      rw [(h2 a ha).1, (h2 b hb).1]
      exact Int.le_refl _
    · intro a ha b hb
      rw [(h2 b hb).1]
      exact htop a ha
  · intro p' hp' q hq
    have hle : p.2 ≤ p'.2 := by
      have hmono : (bfsIn (p.2 + 1) es (nx p.1)).Pairwise fun p q => p.2 ≤ q.2 := by
        rw [h1, List.pairwise_append]
        refine ⟨B.mono, ?_, ?_⟩
        · refine List.pairwise_of_forall_mem_list ?_
          intro a ha b hb
          rw [(h2 a ha).1, (h2 b hb).1]
          exact Int.le_refl _
        · intro a ha b hb
          rw [(h2 b hb).1]
          exact htop a ha
      have hp0 : (bfsIn (p.2 + 1) es (nx p.1))[n]? = some p := by rw [h1, List.getElem?_append_left hlt]; exact hp
      exact pairwise_at hmono (Nat.lt_succ_self n) hp0 hp'
    have := hall q hq
    omega

structure Box (P : List Int → Prop) (N : Nat) (key : List Int → Nat) : Prop where
  lt : ∀ z, P z → key z < N
  inj : ∀ z z', P z → P z' → key z = key z' → z = z'

theorem Box.le {P : List Int → Prop} {N : Nat} {key : List Int → Nat} (b : Box P N key) {es : Found} (hn : (es.map (·.1)).Nodup) (hP : ∀ q ∈ es, P q.1) : es.length ≤ N := by
  have h1 : (es.map fun q => ((key q.1 : Nat) : Int)).Nodup := by
    have : (es.map fun q => ((key q.1 : Nat) : Int)) = (es.map (·.1)).map fun z => ((key z : Nat) : Int) := by rw [List.map_map]; rfl
    rw [this]
    refine List.pairwise_map.mpr ?_
    refine List.Pairwise.imp_of_mem ?_ hn
    intro a c ha hc hne e
    obtain ⟨qa, hqa, rfl⟩ := List.mem_map.mp ha
    obtain ⟨qc, hqc, rfl⟩ := List.mem_map.mp hc
    exact hne (b.inj _ _ (hP _ hqa) (hP _ hqc) (by omega))
  have h2 := length_le_of_sub (l := nums N) h1 (fun x hx => by
    obtain ⟨q, hq, rfl⟩ := List.mem_map.mp hx
    rw [mem_nums]
    have := b.lt _ (hP q hq)
    omega)
  rwa [List.length_map, nums_length] at h2

theorem bfsIn_all {P : List Int → Prop} (v : Int) : ∀ (ts : List (List Int)) (es : Found), (∀ q ∈ es, P q.1) → (∀ t ∈ ts, P t) → ∀ q ∈ bfsIn v es ts, P q.1
  | [], es, h, _ => h
  | t :: ts, es, h, h2 => by
    rw [bfsIn]
    refine bfsIn_all v ts _ ?_ (fun x hx => h2 x (List.mem_cons_of_mem _ hx))
    intro q hq
    split at hq
    · exact h q hq
    · rcases List.mem_append.mp hq with hq | hq
      · exact h q hq
      · simp only [List.mem_singleton] at hq
        subst hq
        exact h2 t List.mem_cons_self

def bfsAll (nx : List Int → List (List Int)) (s : List Int) : Found := bfsGo nx 2198 0 [(s, 0)]

structure Stage (nx : List Int → List (List Int)) (s : List Int) (P : List Int → Prop) (n : Nat) (es : Found) : Prop where
  bi : BI nx s n es
  all : ∀ q ∈ es, P q.1
  val : ∀ q ∈ es, q.2 ≤ (n : Int)
  go : ∃ k, n + k = 2198 ∧ bfsAll nx s = bfsGo nx k n es

theorem Stage.start {nx : List Int → List (List Int)} {s : List Int} {P : List Int → Prop} (hs : P s) : Stage nx s P 0 [(s, 0)] :=
  ⟨BI.start nx s, fun q hq => by simp at hq; subst hq; exact hs, fun q hq => by simp at hq; subst hq; exact Int.le_refl _, 2198, rfl, rfl⟩

theorem Stage.step {nx : List Int → List (List Int)} {s : List Int} {P : List Int → Prop} {N : Nat} {key : List Int → Nat} {n : Nat} {es : Found} (S : Stage nx s P n es) (b : Box P N key) (hN : N ≤ 2197) (hnx : ∀ z, P z → ∀ t ∈ nx z, P t) {p : List Int × Int} (hp : es[n]? = some p) :
    Stage nx s P (n + 1) (bfsIn (p.2 + 1) es (nx p.1)) := by
  obtain ⟨k, hk, hgo⟩ := S.go
  have hlt : n < es.length := (List.getElem?_eq_some_iff.mp hp).1
  have hle := b.le S.bi.nd S.all
  refine ⟨S.bi.step hp, bfsIn_all _ _ _ S.all (hnx _ (S.all _ (List.mem_of_getElem? hp))), fun q hq => ?_, ?_⟩
  · obtain ⟨more, h1, h2, _, _⟩ := bfsIn_ext (p.2 + 1) (nx p.1) es S.bi.nd
    have hpv := S.val p (List.mem_of_getElem? hp)
    rw [h1, List.mem_append] at hq
    rcases hq with hq | hq
    · have := S.val q hq; omega
    · have := (h2 q hq).1; omega
  cases k with
  | zero => omega
  | succ k =>
    refine ⟨k, by omega, ?_⟩
    rw [hgo, bfsGo, hp]

theorem Stage.done {nx : List Int → List (List Int)} {s : List Int} {P : List Int → Prop} {n : Nat} {es : Found} (S : Stage nx s P n es) (hp : es[n]? = none) : bfsAll nx s = es := by
  obtain ⟨k, hk, hgo⟩ := S.go
  rw [hgo]
  cases k with
  | zero => rfl
  | succ k => rw [bfsGo, hp]

theorem Stage.finish {nx : List Int → List (List Int)} {s : List Int} {P : List Int → Prop} {N : Nat} {key : List Int → Nat} (b : Box P N key) (hN : N ≤ 2197) (hnx : ∀ z, P z → ∀ t ∈ nx z, P t) : ∀ (k n : Nat) (es : Found), n + k = 2198 → Stage nx s P n es → ∃ n', Stage nx s P n' (bfsAll nx s) ∧ (bfsAll nx s)[n']? = none
  | 0, n, es, hk, S => by
    have hle := b.le S.bi.nd S.all
    have hp : es[n]? = none := List.getElem?_eq_none (by omega)
    rw [S.done hp]
    exact ⟨n, S, hp⟩
  | k + 1, n, es, hk, S => by
    cases hp : es[n]? with
    | none =>
      rw [S.done hp]
      exact ⟨n, S, hp⟩
    | some p => exact Stage.finish b hN hnx k (n + 1) _ (by omega) (S.step b hN hnx hp)

inductive Way (nx : List Int → List (List Int)) : Nat → List Int → List Int → Prop
  | nil (s : List Int) : Way nx 0 s s
  | cons {k : Nat} {s z t : List Int} : Way nx k s z → t ∈ nx z → Way nx (k + 1) s t

structure BTold (nx : List Int → List (List Int)) (s : List Int) (es : Found) : Prop where
  nd : (es.map (·.1)).Nodup
  src : mget es s = some 0
  par : ∀ t v, mget es t = some v → 0 ≤ v ∧ ((t = s ∧ v = 0) ∨ ∃ z, mget es z = some (v - 1) ∧ t ∈ nx z)
  out : ∀ z v, mget es z = some v → ∀ t ∈ nx z, ∃ u, mget es t = some u ∧ u ≤ v + 1

theorem Stage.told {nx : List Int → List (List Int)} {s : List Int} {P : List Int → Prop} {n : Nat} {es : Found} (S : Stage nx s P n es) (hp : es[n]? = none) : BTold nx s es := by
  have B := S.bi
  have hge : es.length ≤ n := List.getElem?_eq_none_iff.mp hp
  refine ⟨B.nd, mget_of_mem B.nd B.src, fun t v h => ?_, fun z v h t ht => ?_⟩
  · obtain ⟨h1, h2⟩ := B.par t v (mget_mem h)
    refine ⟨h1, h2.imp_right ?_⟩
    rintro ⟨z, hz, ht⟩
    exact ⟨z, mget_of_mem B.nd hz, ht⟩
  · obtain ⟨u, hu, hle⟩ := B.out z v (by rw [List.take_of_length_le hge]; exact mget_mem h) t ht
    exact ⟨u, mget_of_mem B.nd hu, hle⟩

theorem bfs_told {nx : List Int → List (List Int)} {s : List Int} {P : List Int → Prop} {N : Nat} {key : List Int → Nat} (b : Box P N key) (hN : N ≤ 2197) (hnx : ∀ z, P z → ∀ t ∈ nx z, P t) (hs : P s) : BTold nx s (bfsAll nx s) ∧ ∀ q ∈ bfsAll nx s, P q.1 := by
  obtain ⟨n, S, hp⟩ := Stage.finish b hN hnx 2198 0 _ rfl (Stage.start (nx := nx) hs)
  exact ⟨S.told hp, S.all⟩

theorem BTold.way {nx : List Int → List (List Int)} {s : List Int} {es : Found} (T : BTold nx s es) : ∀ (k : Nat) (t : List Int), mget es t = some (k : Int) → Way nx k s t
  | 0, t, h => by
    obtain ⟨_, h2⟩ := T.par t _ h
    rcases h2 with ⟨rfl, _⟩ | ⟨z, hz, _⟩
    · exact .nil _
    · obtain ⟨h3, _⟩ := T.par z _ hz
      omega
  | k + 1, t, h => by
    obtain ⟨_, h2⟩ := T.par t _ h
    rcases h2 with ⟨_, h3⟩ | ⟨z, hz, ht⟩
    · omega
    · have e : ((k + 1 : Nat) : Int) - 1 = (k : Int) := by omega
      rw [e] at hz
      exact .cons (T.way k z hz) ht

theorem BTold.least {nx : List Int → List (List Int)} {s : List Int} {es : Found} (T : BTold nx s es) : ∀ {k : Nat} {t : List Int}, Way nx k s t → ∃ v, mget es t = some v ∧ v ≤ (k : Int) := by
  intro k t h
  induction h with
  | nil => exact ⟨0, T.src, Int.le_refl _⟩
  | @cons k s' z t _ ht ih =>
    obtain ⟨v, h1, h2⟩ := ih T
    obtain ⟨u, h3, h4⟩ := T.out z v h1 t ht
    exact ⟨u, h3, by omega⟩

theorem BTold.iff {nx : List Int → List (List Int)} {s : List Int} {es : Found} (T : BTold nx s es) (t : List Int) (k : Nat) : mget es t = some (k : Int) ↔ Way nx k s t ∧ ∀ j, Way nx j s t → k ≤ j := by
  constructor
  · intro h
    refine ⟨T.way k t h, fun j hj => ?_⟩
    obtain ⟨v, h1, h2⟩ := T.least hj
    rw [h] at h1
    cases h1
    omega
  · rintro ⟨h1, h2⟩
    obtain ⟨v, h3, h4⟩ := T.least h1
    have h5 := (T.par t v h3).1
    obtain ⟨j, rfl⟩ : ∃ j : Nat, v = j := ⟨v.toNat, by omega⟩
    have h6 := h2 j (T.way j t h3)
    have : j = k := by omega
    rw [h3, this]

theorem BTold.nat {nx : List Int → List (List Int)} {s : List Int} {es : Found} (T : BTold nx s es) {t : List Int} {v : Int} (h : mget es t = some v) : ∃ k : Nat, v = k := by
  have := (T.par t v h).1
  exact ⟨v.toNat, by omega⟩

theorem BTold.isSome {nx : List Int → List (List Int)} {s : List Int} {es : Found} (T : BTold nx s es) (t : List Int) : (mget es t).isSome = true ↔ ∃ k, Way nx k s t := by
  constructor
  · intro h
    obtain ⟨v, hv⟩ := Option.isSome_iff_exists.mp h
    obtain ⟨k, rfl⟩ := T.nat hv
    exact ⟨k, T.way k t hv⟩
  · rintro ⟨k, hk⟩
    obtain ⟨v, hv, _⟩ := T.least hk
    rw [hv]
    rfl

theorem Way.good {nx : List Int → List (List Int)} {P : List Int → Prop} (hnx : ∀ z, P z → ∀ t ∈ nx z, P t) {k : Nat} {s t : List Int} (h : Way nx k s t) (hs : P s) : P t := by
  induction h with
  | nil => exact hs
  | cons _ ht ih => exact hnx _ (ih hs) _ ht

theorem Way.ahead {nx : List Int → List (List Int)} {k : Nat} {z t : List Int} (h : Way nx k z t) : ∀ {s : List Int}, z ∈ nx s → Way nx (k + 1) s t := by
  induction h with
  | nil s' => intro s h; exact .cons (.nil s) h
  | cons _ ht ih => intro s h; exact .cons (ih h) ht

theorem Way.back {nx : List Int → List (List Int)} {P : List Int → Prop} (hnx : ∀ z, P z → ∀ t ∈ nx z, P t) (hsym : ∀ z, P z → ∀ t ∈ nx z, z ∈ nx t) {k : Nat} {s t : List Int} (h : Way nx k s t) (hs : P s) : Way nx k t s := by
  induction h with
  | nil => exact .nil _
  | cons h1 ht ih => exact (ih hs).ahead (hsym _ (h1.good hnx hs) _ ht)

theorem told_back {nx : List Int → List (List Int)} {P : List Int → Prop} (hnx : ∀ z, P z → ∀ t ∈ nx z, P t) (hsym : ∀ z, P z → ∀ t ∈ nx z, z ∈ nx t) {s g : List Int} {es es' : Found} (T : BTold nx s es) (T' : BTold nx g es') (hs : P s) (hg : P g) : mget es g = mget es' s := by
  have key : ∀ (a b : List Int) (ea eb : Found), BTold nx a ea → BTold nx b eb → P a → P b → ∀ v, mget ea b = some v → mget eb a = some v := by
    intro a b ea eb Ta Tb ha hb v h
    obtain ⟨k, rfl⟩ := Ta.nat h
    obtain ⟨h1, h2⟩ := (Ta.iff b k).mp h
    exact (Tb.iff a k).mpr ⟨h1.back hnx hsym ha, fun j hj => h2 j (hj.back hnx hsym hb)⟩
  cases h : mget es g with
  | some v => rw [key s g es es' T T' hs hg v h]
  | none =>
    cases h' : mget es' s with
    | none => rfl
    | some v =>
      rw [key g s es' es T' T hg hs v h'] at h
      cases h

end Go.Proofs.Ythkgpblohjpcdaa.Slim

/- Beams: reactions, shears and bends, told plainly. -/
namespace Go.Proofs.Ythkgpblohjpcdaa.Slim

open Go

set_option linter.unusedSimpArgs false

set_option linter.unusedVariables false

def sumZ (g : Ld → Int) : List Ld → Int
  | [] => 0
  | l :: ls => g l + sumZ g ls

theorem sumZ_bd {g : Ld → Int} {B : Int} (hB : 0 ≤ B) : ∀ (ls : List Ld), (∀ l ∈ ls, -B ≤ g l ∧ g l ≤ B) → -(B * ls.length) ≤ sumZ g ls ∧ sumZ g ls ≤ B * ls.length
  | [], _ => by simp [sumZ]
  | l :: ls, h => by
    have h1 := h l (by simp)
    have h2 := sumZ_bd hB ls (fun x hx => h x (by simp [hx]))
    rw [sumZ, List.length_cons, Int.natCast_add, Int.mul_add]
    omega

def momZ (ls : List Ld) (p : Int) : Int := sumZ (fun l => l.2 * (l.1 - p)) ls

theorem mul_bd60 {x d : Int} (h1 : 0 ≤ x) (h2 : x ≤ 99) (h3 : -60 ≤ d) (h4 : d ≤ 60) : -5940 ≤ x * d ∧ x * d ≤ 5940 := by
  have e1 : x * d ≤ x * 60 := Int.mul_le_mul_of_nonneg_left h4 h1
  have e2 : x * (-60) ≤ x * d := Int.mul_le_mul_of_nonneg_left h3 h1
  omega

theorem mom_fold {p M : Int} (hM : M ≤ 1000000000) (hp : 0 ≤ p ∧ p ≤ 60) (ls : List Ld) : ∀ (acc : Int), (∀ l ∈ ls, okL l = true) → -M + 5940 * ls.length ≤ acc → acc ≤ M - 5940 * ls.length → ls.foldl (momStep p) acc = acc + sumZ (fun l => l.2 * (l.1 - p)) ls := by
  induction ls with
  | nil => intro acc _ _ _; simp [sumZ]
  | cons l ls ih =>
    intro acc h h1 h2
    have hl := h l (by simp)
    unfold okL at hl
    simp only [Bool.and_eq_true, decide_eq_true_eq] at hl
    obtain ⟨m1, m2⟩ := mul_bd60 (x := l.2) (d := l.1 - p) (by omega) (by omega) (by omega) (by omega)
    simp only [List.length_cons] at h1 h2
    have hs : momStep p acc l = acc + l.2 * (l.1 - p) := by
      unfold momStep
      rw [show IntKind.i64.wrap (l.1 - p) = l.1 - p from wrap64 (by omega) (by omega), show IntKind.i64.wrap (l.2 * (l.1 - p)) = l.2 * (l.1 - p) from wrap64 (by omega) (by omega), show IntKind.i64.wrap (acc + l.2 * (l.1 - p)) = acc + l.2 * (l.1 - p) from wrap64 (by omega) (by omega)]
    rw [List.foldl_cons, hs, ih _ (fun x hx => h x (by simp [hx])) (by omega) (by omega), sumZ]
    omega

theorem row_facts {ls : List Ld} (h : rowOk ls = true) : ls.length ≤ 12 ∧ ∀ l ∈ ls, okL l = true := by
  unfold rowOk at h
  simp only [Bool.and_eq_true, decide_eq_true_eq, List.all_eq_true] at h
  exact h

theorem mom_at {ls : List Ld} (h : rowOk ls = true) {p : Int} (hp : 0 ≤ p ∧ p ≤ 60) : momW ls p = momZ ls p ∧ -71280 ≤ momZ ls p ∧ momZ ls p ≤ 71280 := by
  obtain ⟨h1, h2⟩ := row_facts h
  have hb := sumZ_bd (g := fun l => l.2 * (l.1 - p)) (B := 5940) (by omega) ls (fun l hl => by
    have hl := h2 l hl
    unfold okL at hl
    simp only [Bool.and_eq_true, decide_eq_true_eq] at hl
    exact mul_bd60 (by omega) (by omega) (by omega) (by omega))
  refine ⟨?_, ?_, ?_⟩
  · unfold momW momZ
    obtain ⟨M, hM⟩ : ∃ M : Int, M = 1000000000 := ⟨_, rfl⟩
    rw [mom_fold (M := M) (by omega) hp ls 0 h2 (by omega) (by omega), Int.zero_add]
  · unfold momZ; omega
  · unfold momZ; omega

end Go.Proofs.Ythkgpblohjpcdaa.Slim
