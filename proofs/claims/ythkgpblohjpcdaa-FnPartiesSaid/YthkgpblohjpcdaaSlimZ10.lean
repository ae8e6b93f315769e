/- The slim functions of this seat (printed by a program; each is checked against the program by the kernel in SlimOk). -/
import Derived.Test.YthkgpblohjpcdaaSlimZ9
/- The slim functions of this seat (printed by a program; each is checked against the program by the kernel in SlimOk). -/
namespace Go.Proofs.Ythkgpblohjpcdaa.Slim
open Go
abbrev f_main_main : FuncId := 0
abbrev f_gosem_cut : FuncId := 1
abbrev f_gosem_cut_init : FuncId := 2
abbrev f_l_FnExactIsParty : FuncId := 3
abbrev f_l_FnExactRestingPlaces : FuncId := 4
abbrev f_l_FnExactSafeMoves : FuncId := 5
abbrev f_l_FnExactMoveOne : FuncId := 6
abbrev f_l_FnExactCountPlaces : FuncId := 7
abbrev f_l_FnExactIsWalkOn : FuncId := 8
abbrev f_l_FnExactFarthestOut : FuncId := 9
abbrev f_l_FnExactMeetSteps : FuncId := 10
abbrev f_l_FnExactWalkTo : FuncId := 11
abbrev f_l_FnExactStepsTo : FuncId := 12
abbrev f_l_FnExactFirstWalkTo : FuncId := 13
abbrev f_l_FnPlanks : FuncId := 14
abbrev f_l_FnParties : FuncId := 15
abbrev f_l_szParty : FuncId := 16
abbrev f_s_IsParty : FuncId := 17
abbrev f_l_toParty : FuncId := 18
abbrev f_i_IsParty : FuncId := 19
abbrev f_l_eqParty : FuncId := 20
abbrev f_s_RestingPlaces : FuncId := 21
abbrev f_i_RestingPlaces : FuncId := 22
abbrev f_s_SafeMoves : FuncId := 23
abbrev f_i_SafeMoves : FuncId := 24
abbrev f_l_eqIntA2S : FuncId := 25
abbrev f_l_markParty : FuncId := 26
abbrev f_l_markIntA2S : FuncId := 27
abbrev f_l_heldIntA2S : FuncId := 28
abbrev f_s_MoveOne : FuncId := 29
abbrev f_l_toIntA2 : FuncId := 30
abbrev f_i_MoveOne : FuncId := 31
abbrev f_l_heldParty : FuncId := 32
abbrev f_s_CountPlaces : FuncId := 33
abbrev f_i_CountPlaces : FuncId := 34
abbrev f_l_szIntA2S : FuncId := 35
abbrev f_s_IsWalkOn : FuncId := 36
abbrev f_l_toIntA2S : FuncId := 37
abbrev f_i_IsWalkOn : FuncId := 38
abbrev f_s_FarthestOut : FuncId := 39
abbrev f_i_FarthestOut : FuncId := 40
abbrev f_s_MeetSteps : FuncId := 41
abbrev f_i_MeetSteps : FuncId := 42
abbrev f_s_WalkTo : FuncId := 43
abbrev f_i_WalkTo : FuncId := 44
abbrev f_s_StepsTo : FuncId := 45
abbrev f_l_toIntS : FuncId := 46
abbrev f_i_StepsTo : FuncId := 47
abbrev f_l_eqIntS : FuncId := 48
abbrev f_s_FirstWalkTo : FuncId := 49
abbrev f_i_FirstWalkTo : FuncId := 50
abbrev f_l_markIntS : FuncId := 51
abbrev f_l_rBig : FuncId := 52
abbrev f_s_DrawCountPlaces : FuncId := 53
abbrev f_s_DrawFarthestOut : FuncId := 54
abbrev f_s_DrawFirstWalkTo : FuncId := 55
abbrev f_l_rCells : FuncId := 56
abbrev f_s_DrawMoveOne : FuncId := 57
abbrev f_l_rParty : FuncId := 58
abbrev f_s_DrawWalkTo : FuncId := 59
abbrev f_l_szLoadS : FuncId := 60
abbrev f_s_l11Party : FuncId := 61
abbrev f_l_toBeam : FuncId := 62
abbrev f_l_toLoadS : FuncId := 63
abbrev f_i_isOn : FuncId := 64
abbrev f_i_within : FuncId := 65
abbrev f_i_Beam_rests : FuncId := 66
abbrev f_l_eqBeam : FuncId := 67
abbrev f_l_eqLoadS : FuncId := 68
abbrev f_s_l11Size : FuncId := 69
abbrev f_s_l11Rests : FuncId := 70
abbrev f_s_l11At : FuncId := 71
abbrev f_i_Party_rests : FuncId := 72
abbrev f_s_l11Moves : FuncId := 73
abbrev f_i_Party_moves : FuncId := 74
abbrev f_i_Party_spots : FuncId := 75
abbrev f_l_eqIntA2 : FuncId := 76
abbrev f_l_markLoadS : FuncId := 77
abbrev f_s_l11Safe : FuncId := 78
abbrev f_s_l11Moved : FuncId := 79
abbrev f_l_heldLoadS : FuncId := 80
abbrev f_s_l11Spread : FuncId := 81
abbrev f_i_Party_stepsFrom : FuncId := 82
abbrev f_s_l11Walk : FuncId := 83
abbrev f_i_Party_walk : FuncId := 84
abbrev f_s_l1In : FuncId := 85
abbrev f_s_l1Least : FuncId := 86
abbrev f_s_l1Most : FuncId := 87
abbrev f_s_l11Key : FuncId := 88
abbrev f_i_Party_at : FuncId := 89
abbrev f_s_l11Placed : FuncId := 90
abbrev f_i_Party_spotsOf : FuncId := 91
abbrev f_s_DrawIsParty : FuncId := 92
abbrev f_s_l1Cur_party : FuncId := 93
abbrev f_s_l1Cur_pick : FuncId := 94
abbrev f_s_DrawStepsTo : FuncId := 95
abbrev f_s_l1Cur_moveOf : FuncId := 96
abbrev f_l_rRow : FuncId := 97
abbrev f_s_DrawIsWalkOn : FuncId := 98
abbrev f_s_l6Beam : FuncId := 99
abbrev f_s_l6On : FuncId := 100
abbrev f_l_toLoad : FuncId := 101
abbrev f_i_IsBeam : FuncId := 102
abbrev f_i_IsRow : FuncId := 103
abbrev f_slices_ContainsFunc_Si_Load_i_Load : FuncId := 104
abbrev f_i_isOn_1 : FuncId := 105
abbrev f_i_tipSide : FuncId := 106
abbrev f_l_eqLoad : FuncId := 107
abbrev f_s_l2Side : FuncId := 108
abbrev f_slices_Contains_S_2int__2int : FuncId := 109
abbrev f_slices_Clone_Si_Load_i_Load : FuncId := 110
abbrev f_s_l1Cur_plank : FuncId := 111
abbrev f_s_l1Cur_among : FuncId := 112
abbrev f_s_l1Cur_next : FuncId := 113
abbrev f_s_l1Cur_targets : FuncId := 114
abbrev f_s_l1Cur_one : FuncId := 115
abbrev f_s_l2Row : FuncId := 116
abbrev f_i_IsRow_1 : FuncId := 117
abbrev f_i_isPlace : FuncId := 118
abbrev f_i_isWeight : FuncId := 119
abbrev f_slices_IndexFunc_Si_Load_i_Load : FuncId := 120
abbrev f_i_momentAbout : FuncId := 121
abbrev f_s_l2Moment : FuncId := 122
abbrev f_slices_Index_S_2int__2int : FuncId := 123
abbrev f_s_l1Cur_beam : FuncId := 124
abbrev f_s_l2In : FuncId := 125
abbrev f_runtime_boundsError_Error : FuncId := 126
abbrev f_runtime_boundsError_RuntimeError : FuncId := 127
abbrev f_runtime_errorString_Error : FuncId := 128
abbrev f_runtime_errorString_RuntimeError : FuncId := 129
abbrev f_runtime_plainError_Error : FuncId := 130
abbrev f_runtime_plainError_RuntimeError : FuncId := 131
abbrev f_runtime_errorAddressString_Error : FuncId := 132
abbrev f_runtime_errorAddressString_RuntimeError : FuncId := 133
abbrev f_runtime_TypeAssertionError_Error : FuncId := 134
abbrev f_runtime_TypeAssertionError_RuntimeError : FuncId := 135
abbrev f_runtime_PanicNilError_Error : FuncId := 136
abbrev f_runtime_PanicNilError_RuntimeError : FuncId := 137
abbrev f_internal_abi_Type_Align : FuncId := 138
abbrev f_internal_runtime_maps_unhashableTypeError_Error : FuncId := 139
abbrev f_internal_runtime_maps_unhashableTypeError_RuntimeError : FuncId := 140
abbrev f_i_Beam_span : FuncId := 141
abbrev f_s_l1Cur_any1 : FuncId := 142
abbrev f_internal_abi_Kind_String : FuncId := 143
def c_gosem_cut_init : ACode :=
 (.region [⟨.call (.c (.fn f_gosem_cut [] [])) [], none⟩] [])
def a_gosem_cut_init : AFun := ⟨[], 1, c_gosem_cut_init, [], 1⟩
def c_l_FnExactIsParty : ACode :=
 (.seq (.region [⟨.box (.t 0), none⟩, ⟨.mv (.c (.bool false)), none⟩] [(1, 0), (2, 1)])
 (.seq (.region [⟨.mv (.c (.int .i64 (1048576))), none⟩] [(3, 0)])
 (.seq (.region [⟨.load true 5 (.t 1), none⟩, ⟨.mv (.t 3), none⟩, ⟨.call (.c (.fn f_l_szParty [] [])) [(.l 0), (.l 1)], none⟩, ⟨.mv (.l 2), none⟩] [(3, 3)])
 (.seq (.seq (.region [⟨.mv (.t 3), none⟩, ⟨.bin 0 .lss (.l 0) (.c (.int .i64 (0))), none⟩] [(7, 1)])
 (.cond (.t 7) (.seq (.region [⟨.mv (.c (.bool true)), none⟩] [(2, 0)])
 .ret) .skip))
 (.seq (.region [⟨.load true 5 (.t 1), none⟩, ⟨.call (.c (.fn f_l_toParty [] [])) [(.l 0)], none⟩, ⟨.call (.c (.fn f_s_IsParty [] [])) [(.l 1)], none⟩, ⟨.mv (.l 2), none⟩] [(4, 3)])
 (.seq (.region [⟨.load true 5 (.t 1), none⟩, ⟨.call (.c (.fn f_l_toParty [] [])) [(.l 0)], none⟩, ⟨.alloc [.int .i64 (0), .int .i64 (0), .int .i64 (0), .slice none 0 0 none, .int .i64 (0)], none⟩, ⟨.store 5 (.l 2) (.l 1), none⟩] [(5, 2)])
 (.seq (.region [⟨.load true 5 (.t 5), none⟩, ⟨.call (.c (.fn f_i_IsParty [] [])) [(.l 0)], none⟩, ⟨.mv (.l 1), none⟩] [(6, 2)])
 (.seq (.seq (.region [⟨.mv (.t 6), none⟩, ⟨.mv (.t 4), none⟩, ⟨.bin 2 .neq (.l 0) (.l 1), none⟩] [(8, 2)])
 (.cond (.t 8) (.seq (.region [⟨.mv (.c (.bool false)), none⟩] [(2, 0)])
 .ret) .skip))
 (.seq (.seq (.draw [⟨.load true 5 (.t 5), none, []⟩, ⟨.load true 5 (.t 1), none, []⟩, ⟨.call (.c (.fn f_l_toParty [] [])) [(.l 1)], none, [(0, ⟨.load true 5 (.t 5), none⟩)]⟩, ⟨.call (.c (.fn f_l_eqParty [] [])) [(.l 0), (.l 2)], none, []⟩, ⟨.un .not (.l 3), none, []⟩] [(9, 4)])
 (.cond (.t 9) (.seq (.region [⟨.mv (.c (.bool false)), none⟩] [(2, 0)])
 .ret) .skip))
 (.seq (.region [⟨.mv (.c (.bool true)), none⟩] [(2, 0)])
 .ret))))))))))
def a_l_FnExactIsParty : AFun := ⟨[0, 1, 2, 3, 4, 5, 6, 11, 21, 26], 27, c_l_FnExactIsParty, [.tmp 2], 1⟩
def c_l_FnExactRestingPlaces : ACode :=
 (.seq (.region [⟨.box (.t 0), none⟩, ⟨.mv (.c (.bool false)), none⟩] [(1, 0), (2, 1)])
 (.seq (.region [⟨.mv (.c (.int .i64 (1048576))), none⟩] [(3, 0)])
 (.seq (.region [⟨.load true 5 (.t 1), none⟩, ⟨.mv (.t 3), none⟩, ⟨.call (.c (.fn f_l_szParty [] [])) [(.l 0), (.l 1)], none⟩, ⟨.mv (.l 2), none⟩] [(3, 3)])
 (.seq (.seq (.region [⟨.mv (.t 3), none⟩, ⟨.bin 0 .lss (.l 0) (.c (.int .i64 (0))), none⟩] [(9, 1)])
 (.cond (.t 9) (.seq (.region [⟨.mv (.c (.bool true)), none⟩] [(2, 0)])
 .ret) .skip))
 (.seq (.region [⟨.load true 5 (.t 1), none⟩, ⟨.call (.c (.fn f_l_toParty [] [])) [(.l 0)], none⟩, ⟨.call (.c (.fn f_s_RestingPlaces [] [])) [(.l 1)], none⟩, ⟨.mv (.l 2), none⟩, ⟨.extract 0 (.l 3), none⟩, ⟨.extract 1 (.l 3), none⟩, ⟨.mv (.l 4), none⟩, ⟨.mv (.l 5), none⟩] [(4, 6), (5, 7)])
 (.seq (.region [⟨.load true 5 (.t 1), none⟩, ⟨.call (.c (.fn f_l_toParty [] [])) [(.l 0)], none⟩, ⟨.alloc [.int .i64 (0), .int .i64 (0), .int .i64 (0), .slice none 0 0 none, .int .i64 (0)], none⟩, ⟨.store 5 (.l 2) (.l 1), none⟩] [(6, 2)])
 (.seq (.region [⟨.load true 5 (.t 6), none⟩, ⟨.call (.c (.fn f_i_RestingPlaces [] [])) [(.l 0)], none⟩, ⟨.mv (.l 1), none⟩, ⟨.extract 0 (.l 2), none⟩, ⟨.extract 1 (.l 2), none⟩, ⟨.mv (.l 3), none⟩, ⟨.mv (.l 4), none⟩] [(7, 5), (8, 6)])
 (.seq (.seq (.region [⟨.mv (.t 7), none⟩, ⟨.mv (.t 4), none⟩, ⟨.bin 0 .neq (.l 0) (.l 1), none⟩, ⟨.mv (.l 2), none⟩, ⟨.mv (.t 8), some ((.l 3), false)⟩, ⟨.mv (.t 5), some ((.l 3), false)⟩, ⟨.bin 2 .neq (.l 4) (.l 5), some ((.l 3), false)⟩, ⟨.pick (.l 3) (.c (.bool true)) (.l 6), none⟩] [(10, 7)])
 (.cond (.t 10) (.seq (.region [⟨.mv (.c (.bool false)), none⟩] [(2, 0)])
 .ret) .skip))
 (.seq (.seq (.draw [⟨.load true 5 (.t 6), none, []⟩, ⟨.load true 5 (.t 1), none, []⟩, ⟨.call (.c (.fn f_l_toParty [] [])) [(.l 1)], none, [(0, ⟨.load true 5 (.t 6), none⟩)]⟩, ⟨.call (.c (.fn f_l_eqParty [] [])) [(.l 0), (.l 2)], none, []⟩, ⟨.un .not (.l 3), none, []⟩] [(11, 4)])
 (.cond (.t 11) (.seq (.region [⟨.mv (.c (.bool false)), none⟩] [(2, 0)])
 .ret) .skip))
 (.seq (.region [⟨.mv (.c (.bool true)), none⟩] [(2, 0)])
 .ret))))))))))
def a_l_FnExactRestingPlaces : AFun := ⟨[0, 1, 2, 3, 4, 5, 6, 7, 8, 13, 34, 39], 40, c_l_FnExactRestingPlaces, [.tmp 2], 1⟩
def c_l_FnExactSafeMoves : ACode :=
 (.seq (.region [⟨.box (.t 0), none⟩, ⟨.mv (.c (.bool false)), none⟩] [(1, 0), (2, 1)])
 (.seq (.region [⟨.mv (.c (.int .i64 (1048576))), none⟩] [(3, 0)])
 (.seq (.region [⟨.load true 5 (.t 1), none⟩, ⟨.mv (.t 3), none⟩, ⟨.call (.c (.fn f_l_szParty [] [])) [(.l 0), (.l 1)], none⟩, ⟨.mv (.l 2), none⟩] [(3, 3)])
 (.seq (.seq (.region [⟨.mv (.t 3), none⟩, ⟨.bin 0 .lss (.l 0) (.c (.int .i64 (0))), none⟩] [(14, 1)])
 (.cond (.t 14) (.seq (.region [⟨.mv (.c (.bool true)), none⟩] [(2, 0)])
 .ret) .skip))
 (.seq (.region [⟨.load true 5 (.t 1), none⟩, ⟨.call (.c (.fn f_l_toParty [] [])) [(.l 0)], none⟩, ⟨.call (.c (.fn f_s_SafeMoves [] [])) [(.l 1)], none⟩, ⟨.mv (.l 2), none⟩, ⟨.extract 0 (.l 3), none⟩, ⟨.extract 1 (.l 3), none⟩, ⟨.mv (.l 4), none⟩, ⟨.mv (.l 5), none⟩] [(4, 6), (5, 7)])
 (.seq (.region [⟨.load true 5 (.t 1), none⟩, ⟨.call (.c (.fn f_l_toParty [] [])) [(.l 0)], none⟩, ⟨.alloc [.int .i64 (0), .int .i64 (0), .int .i64 (0), .slice none 0 0 none, .int .i64 (0)], none⟩, ⟨.store 5 (.l 2) (.l 1), none⟩] [(6, 2)])
 (.seq (.region [⟨.load true 5 (.t 6), none⟩, ⟨.call (.c (.fn f_i_SafeMoves [] [])) [(.l 0)], none⟩, ⟨.mv (.l 1), none⟩, ⟨.extract 0 (.l 2), none⟩, ⟨.extract 1 (.l 2), none⟩, ⟨.mv (.l 3), none⟩, ⟨.mv (.l 4), none⟩] [(7, 5), (8, 6)])
 (.seq (.seq (.region [⟨.mv (.t 7), none⟩, ⟨.mv (.t 4), none⟩, ⟨.call (.c (.fn f_l_eqIntA2S [] [])) [(.l 0), (.l 1)], none⟩, ⟨.un .not (.l 2), none⟩, ⟨.mv (.l 3), none⟩, ⟨.mv (.t 8), some ((.l 4), false)⟩, ⟨.mv (.t 5), some ((.l 4), false)⟩, ⟨.bin 2 .neq (.l 5) (.l 6), some ((.l 4), false)⟩, ⟨.pick (.l 4) (.c (.bool true)) (.l 7), none⟩] [(15, 8)])
 (.cond (.t 15) (.seq (.region [⟨.mv (.c (.bool false)), none⟩] [(2, 0)])
 .ret) .skip))
 (.seq (.seq (.draw [⟨.load true 5 (.t 6), none, []⟩, ⟨.load true 5 (.t 1), none, []⟩, ⟨.call (.c (.fn f_l_toParty [] [])) [(.l 1)], none, [(0, ⟨.load true 5 (.t 6), none⟩)]⟩, ⟨.call (.c (.fn f_l_eqParty [] [])) [(.l 0), (.l 2)], none, []⟩, ⟨.un .not (.l 3), none, []⟩] [(16, 4)])
 (.cond (.t 16) (.seq (.region [⟨.mv (.c (.bool false)), none⟩] [(2, 0)])
 .ret) .skip))
 (.seq (.region [⟨.mv (.c (.int .i64 (1))), none⟩] [(9, 0)])
 (.seq (.region [⟨.load true 5 (.t 6), none⟩, ⟨.mv (.t 9), none⟩, ⟨.call (.c (.fn f_l_markParty [] [])) [(.l 0), (.l 1)], none⟩, ⟨.mv (.l 2), none⟩] [(9, 3)])
 (.seq (.seq (.region [⟨.mv (.t 9), none⟩, ⟨.bin 0 .lss (.l 0) (.c (.int .i64 (0))), none⟩, ⟨.mv (.l 1), none⟩, ⟨.mv (.t 7), some ((.l 2), false)⟩, ⟨.mv (.t 4), some ((.l 2), false)⟩, ⟨.call (.c (.fn f_l_eqIntA2S [] [])) [(.l 3), (.l 4)], some ((.l 2), false)⟩, ⟨.un .not (.l 5), some ((.l 2), false)⟩, ⟨.pick (.l 2) (.c (.bool true)) (.l 6), none⟩, ⟨.mv (.l 7), none⟩, ⟨.mv (.t 8), some ((.l 8), false)⟩, ⟨.mv (.t 5), some ((.l 8), false)⟩, ⟨.bin 2 .neq (.l 9) (.l 10), some ((.l 8), false)⟩, ⟨.pick (.l 8) (.c (.bool true)) (.l 11), none⟩] [(17, 12)])
 (.cond (.t 17) (.seq (.region [⟨.mv (.c (.bool false)), none⟩] [(2, 0)])
 .ret) .skip))
 (.seq (.region [⟨.mv (.c (.int .i64 (1))), none⟩] [(10, 0)])
 (.seq (.region [⟨.mv (.t 7), none⟩, ⟨.mv (.t 10), none⟩, ⟨.call (.c (.fn f_l_markIntA2S [] [])) [(.l 0), (.l 1)], none⟩, ⟨.mv (.l 2), none⟩] [(10, 3)])
 (.seq (.region [⟨.mv (.c (.int .i64 (1))), none⟩] [(11, 0)])
 (.seq (.region [⟨.mv (.t 7), none⟩, ⟨.mv (.t 11), none⟩, ⟨.call (.c (.fn f_l_heldIntA2S [] [])) [(.l 0), (.l 1)], none⟩, ⟨.mv (.l 2), none⟩] [(11, 3)])
 (.seq (.seq (.region [⟨.mv (.t 11), none⟩, ⟨.bin 0 .lss (.l 0) (.c (.int .i64 (0))), none⟩] [(18, 1)])
 (.cond (.t 18) (.seq (.region [⟨.mv (.c (.bool false)), none⟩] [(2, 0)])
 .ret) .skip))
 (.seq (.seq (.region [⟨.mv (.t 11), none⟩, ⟨.mv (.t 10), none⟩, ⟨.bin 0 .neq (.l 0) (.l 1), none⟩] [(19, 2)])
 (.cond (.t 19) (.seq (.region [⟨.mv (.c (.bool false)), none⟩] [(2, 0)])
 .ret) .skip))
 (.seq (.region [⟨.load true 5 (.t 1), none⟩, ⟨.call (.c (.fn f_l_toParty [] [])) [(.l 0)], none⟩, ⟨.call (.c (.fn f_i_SafeMoves [] [])) [(.l 1)], none⟩, ⟨.mv (.l 2), none⟩, ⟨.extract 0 (.l 3), none⟩, ⟨.extract 1 (.l 3), none⟩, ⟨.mv (.l 4), none⟩, ⟨.mv (.l 5), none⟩] [(12, 6), (13, 7)])
 (.seq (.seq (.region [⟨.mv (.t 12), none⟩, ⟨.mv (.t 4), none⟩, ⟨.call (.c (.fn f_l_eqIntA2S [] [])) [(.l 0), (.l 1)], none⟩, ⟨.un .not (.l 2), none⟩, ⟨.mv (.l 3), none⟩, ⟨.mv (.t 13), some ((.l 4), false)⟩, ⟨.mv (.t 5), some ((.l 4), false)⟩, ⟨.bin 2 .neq (.l 5) (.l 6), some ((.l 4), false)⟩, ⟨.pick (.l 4) (.c (.bool true)) (.l 7), none⟩] [(20, 8)])
 (.cond (.t 20) (.seq (.region [⟨.mv (.c (.bool false)), none⟩] [(2, 0)])
 .ret) .skip))
 (.seq (.region [⟨.mv (.c (.int .i64 (1))), none⟩] [(11, 0)])
 (.seq (.region [⟨.mv (.t 7), none⟩, ⟨.mv (.t 11), none⟩, ⟨.call (.c (.fn f_l_heldIntA2S [] [])) [(.l 0), (.l 1)], none⟩, ⟨.mv (.l 2), none⟩] [(11, 3)])
 (.seq (.seq (.region [⟨.mv (.t 11), none⟩, ⟨.bin 0 .lss (.l 0) (.c (.int .i64 (0))), none⟩] [(21, 1)])
 (.cond (.t 21) (.seq (.region [⟨.mv (.c (.bool false)), none⟩] [(2, 0)])
 .ret) .skip))
 (.seq (.seq (.region [⟨.mv (.t 11), none⟩, ⟨.mv (.t 10), none⟩, ⟨.bin 0 .neq (.l 0) (.l 1), none⟩] [(22, 2)])
 (.cond (.t 22) (.seq (.region [⟨.mv (.c (.bool false)), none⟩] [(2, 0)])
 .ret) .skip))
 (.seq (.region [⟨.mv (.c (.bool true)), none⟩] [(2, 0)])
 .ret)))))))))))))))))))))))))
def a_l_FnExactSafeMoves : AFun := ⟨[0, 1, 2, 3, 4, 5, 6, 7, 8, 9, 10, 11, 12, 13, 18, 40, 45, 61, 69, 72, 87, 92, 95], 96, c_l_FnExactSafeMoves, [.tmp 2], 1⟩
def c_l_FnExactMoveOne : ACode :=
 (.seq (.region [⟨.box (.t 0), none⟩, ⟨.box (.t 1), none⟩, ⟨.mv (.c (.bool false)), none⟩] [(2, 0), (3, 1), (4, 2)])
 (.seq (.region [⟨.mv (.c (.int .i64 (1048576))), none⟩] [(5, 0)])
 (.seq (.region [⟨.load true 5 (.t 2), none⟩, ⟨.mv (.t 5), none⟩, ⟨.call (.c (.fn f_l_szParty [] [])) [(.l 0), (.l 1)], none⟩, ⟨.mv (.l 2), none⟩] [(5, 3)])
 (.seq (.seq (.region [⟨.mv (.t 5), none⟩, ⟨.bin 0 .lss (.l 0) (.c (.int .i64 (0))), none⟩] [(16, 1)])
 (.cond (.t 16) (.seq (.region [⟨.mv (.c (.bool true)), none⟩] [(4, 0)])
 .ret) .skip))
 (.seq (.draw [⟨.load true 5 (.t 2), none, []⟩, ⟨.load true 2 (.t 3), none, []⟩, ⟨.call (.c (.fn f_l_toParty [] [])) [(.l 0)], none, [(1, ⟨.load true 2 (.t 3), none⟩)]⟩, ⟨.call (.c (.fn f_l_toIntA2 [] [])) [(.l 1)], none, []⟩, ⟨.call (.c (.fn f_s_MoveOne [] [])) [(.l 2), (.l 3)], none, []⟩, ⟨.mv (.l 4), none, []⟩, ⟨.extract 0 (.l 5), none, []⟩, ⟨.extract 1 (.l 5), none, []⟩, ⟨.alloc [.int .i64 (0), .int .i64 (0), .int .i64 (0), .slice none 0 0 none, .int .i64 (0)], none, [(0, ⟨.load true 5 (.t 2), none⟩), (1, ⟨.load true 2 (.t 3), none⟩)]⟩, ⟨.store 5 (.l 8) (.l 6), none, []⟩, ⟨.mv (.l 7), none, []⟩] [(6, 8), (7, 10)])
 (.seq (.region [⟨.load true 5 (.t 2), none⟩, ⟨.call (.c (.fn f_l_toParty [] [])) [(.l 0)], none⟩, ⟨.alloc [.int .i64 (0), .int .i64 (0), .int .i64 (0), .slice none 0 0 none, .int .i64 (0)], none⟩, ⟨.store 5 (.l 2) (.l 1), none⟩] [(8, 2)])
 (.seq (.draw [⟨.load true 5 (.t 8), none, []⟩, ⟨.load true 2 (.t 3), none, []⟩, ⟨.call (.c (.fn f_l_toIntA2 [] [])) [(.l 1)], none, [(0, ⟨.load true 5 (.t 8), none⟩)]⟩, ⟨.call (.c (.fn f_i_MoveOne [] [])) [(.l 0), (.l 2)], none, []⟩, ⟨.mv (.l 3), none, []⟩, ⟨.extract 0 (.l 4), none, []⟩, ⟨.extract 1 (.l 4), none, []⟩, ⟨.alloc [.int .i64 (0), .int .i64 (0), .int .i64 (0), .slice none 0 0 none, .int .i64 (0)], none, [(0, ⟨.load true 5 (.t 8), none⟩), (1, ⟨.load true 2 (.t 3), none⟩)]⟩, ⟨.store 5 (.l 7) (.l 5), none, []⟩, ⟨.mv (.l 6), none, []⟩] [(9, 7), (10, 9)])
 (.seq (.seq (.region [⟨.load true 5 (.t 9), none⟩, ⟨.load true 5 (.t 6), none⟩, ⟨.call (.c (.fn f_l_eqParty [] [])) [(.l 0), (.l 1)], none⟩, ⟨.un .not (.l 2), none⟩, ⟨.mv (.l 3), none⟩, ⟨.mv (.t 10), some ((.l 4), false)⟩, ⟨.mv (.t 7), some ((.l 4), false)⟩, ⟨.bin 2 .neq (.l 5) (.l 6), some ((.l 4), false)⟩, ⟨.pick (.l 4) (.c (.bool true)) (.l 7), none⟩] [(17, 8)])
 (.cond (.t 17) (.seq (.region [⟨.mv (.c (.bool false)), none⟩] [(4, 0)])
 .ret) .skip))
 (.seq (.seq (.draw [⟨.load true 5 (.t 8), none, []⟩, ⟨.load true 5 (.t 2), none, []⟩, ⟨.call (.c (.fn f_l_toParty [] [])) [(.l 1)], none, [(0, ⟨.load true 5 (.t 8), none⟩)]⟩, ⟨.call (.c (.fn f_l_eqParty [] [])) [(.l 0), (.l 2)], none, []⟩, ⟨.un .not (.l 3), none, []⟩] [(18, 4)])
 (.cond (.t 18) (.seq (.region [⟨.mv (.c (.bool false)), none⟩] [(4, 0)])
 .ret) .skip))
 (.seq (.region [⟨.mv (.c (.int .i64 (1))), none⟩] [(11, 0)])
 (.seq (.region [⟨.load true 5 (.t 8), none⟩, ⟨.mv (.t 11), none⟩, ⟨.call (.c (.fn f_l_markParty [] [])) [(.l 0), (.l 1)], none⟩, ⟨.mv (.l 2), none⟩] [(11, 3)])
 (.seq (.seq (.region [⟨.mv (.t 11), none⟩, ⟨.bin 0 .lss (.l 0) (.c (.int .i64 (0))), none⟩, ⟨.mv (.l 1), none⟩, ⟨.load true 5 (.t 9), some ((.l 2), false)⟩, ⟨.load true 5 (.t 6), some ((.l 2), false)⟩, ⟨.call (.c (.fn f_l_eqParty [] [])) [(.l 3), (.l 4)], some ((.l 2), false)⟩, ⟨.un .not (.l 5), some ((.l 2), false)⟩, ⟨.pick (.l 2) (.c (.bool true)) (.l 6), none⟩, ⟨.mv (.l 7), none⟩, ⟨.mv (.t 10), some ((.l 8), false)⟩, ⟨.mv (.t 7), some ((.l 8), false)⟩, ⟨.bin 2 .neq (.l 9) (.l 10), some ((.l 8), false)⟩, ⟨.pick (.l 8) (.c (.bool true)) (.l 11), none⟩] [(19, 12)])
 (.cond (.t 19) (.seq (.region [⟨.mv (.c (.bool false)), none⟩] [(4, 0)])
 .ret) .skip))
 (.seq (.region [⟨.mv (.c (.int .i64 (1))), none⟩] [(12, 0)])
 (.seq (.region [⟨.load true 5 (.t 9), none⟩, ⟨.mv (.t 12), none⟩, ⟨.call (.c (.fn f_l_markParty [] [])) [(.l 0), (.l 1)], none⟩, ⟨.mv (.l 2), none⟩] [(12, 3)])
 (.seq (.region [⟨.mv (.c (.int .i64 (1))), none⟩] [(13, 0)])
 (.seq (.region [⟨.load true 5 (.t 9), none⟩, ⟨.mv (.t 13), none⟩, ⟨.call (.c (.fn f_l_heldParty [] [])) [(.l 0), (.l 1)], none⟩, ⟨.mv (.l 2), none⟩] [(13, 3)])
 (.seq (.seq (.region [⟨.mv (.t 13), none⟩, ⟨.bin 0 .lss (.l 0) (.c (.int .i64 (0))), none⟩] [(20, 1)])
 (.cond (.t 20) (.seq (.region [⟨.mv (.c (.bool false)), none⟩] [(4, 0)])
 .ret) .skip))
 (.seq (.seq (.region [⟨.mv (.t 13), none⟩, ⟨.mv (.t 12), none⟩, ⟨.bin 0 .neq (.l 0) (.l 1), none⟩] [(21, 2)])
 (.cond (.t 21) (.seq (.region [⟨.mv (.c (.bool false)), none⟩] [(4, 0)])
 .ret) .skip))
 (.seq (.draw [⟨.load true 5 (.t 2), none, []⟩, ⟨.load true 2 (.t 3), none, []⟩, ⟨.call (.c (.fn f_l_toParty [] [])) [(.l 0)], none, [(1, ⟨.load true 2 (.t 3), none⟩)]⟩, ⟨.call (.c (.fn f_l_toIntA2 [] [])) [(.l 1)], none, []⟩, ⟨.call (.c (.fn f_i_MoveOne [] [])) [(.l 2), (.l 3)], none, []⟩, ⟨.mv (.l 4), none, []⟩, ⟨.extract 0 (.l 5), none, []⟩, ⟨.extract 1 (.l 5), none, []⟩, ⟨.alloc [.int .i64 (0), .int .i64 (0), .int .i64 (0), .slice none 0 0 none, .int .i64 (0)], none, [(0, ⟨.load true 5 (.t 2), none⟩), (1, ⟨.load true 2 (.t 3), none⟩)]⟩, ⟨.store 5 (.l 8) (.l 6), none, []⟩, ⟨.mv (.l 7), none, []⟩] [(14, 8), (15, 10)])
 (.seq (.seq (.region [⟨.load true 5 (.t 14), none⟩, ⟨.load true 5 (.t 6), none⟩, ⟨.call (.c (.fn f_l_eqParty [] [])) [(.l 0), (.l 1)], none⟩, ⟨.un .not (.l 2), none⟩, ⟨.mv (.l 3), none⟩, ⟨.mv (.t 15), some ((.l 4), false)⟩, ⟨.mv (.t 7), some ((.l 4), false)⟩, ⟨.bin 2 .neq (.l 5) (.l 6), some ((.l 4), false)⟩, ⟨.pick (.l 4) (.c (.bool true)) (.l 7), none⟩] [(22, 8)])
 (.cond (.t 22) (.seq (.region [⟨.mv (.c (.bool false)), none⟩] [(4, 0)])
 .ret) .skip))
 (.seq (.region [⟨.mv (.c (.int .i64 (1))), none⟩] [(13, 0)])
 (.seq (.region [⟨.load true 5 (.t 9), none⟩, ⟨.mv (.t 13), none⟩, ⟨.call (.c (.fn f_l_heldParty [] [])) [(.l 0), (.l 1)], none⟩, ⟨.mv (.l 2), none⟩] [(13, 3)])
 (.seq (.seq (.region [⟨.mv (.t 13), none⟩, ⟨.bin 0 .lss (.l 0) (.c (.int .i64 (0))), none⟩] [(23, 1)])
 (.cond (.t 23) (.seq (.region [⟨.mv (.c (.bool false)), none⟩] [(4, 0)])
 .ret) .skip))
 (.seq (.seq (.region [⟨.mv (.t 13), none⟩, ⟨.mv (.t 12), none⟩, ⟨.bin 0 .neq (.l 0) (.l 1), none⟩] [(24, 2)])
 (.cond (.t 24) (.seq (.region [⟨.mv (.c (.bool false)), none⟩] [(4, 0)])
 .ret) .skip))
 (.seq (.region [⟨.mv (.c (.bool true)), none⟩] [(4, 0)])
 .ret)))))))))))))))))))))))))
def a_l_FnExactMoveOne : AFun := ⟨[0, 1, 2, 3, 4, 5, 6, 7, 8, 9, 10, 11, 12, 13, 14, 15, 20, 46, 51, 67, 75, 78, 95, 100, 103], 104, c_l_FnExactMoveOne, [.tmp 4], 1⟩
def c_l_FnExactCountPlaces : ACode :=
 (.seq (.region [⟨.box (.t 0), none⟩, ⟨.mv (.c (.bool false)), none⟩] [(1, 0), (2, 1)])
 (.seq (.region [⟨.mv (.c (.int .i64 (1048576))), none⟩] [(3, 0)])
 (.seq (.region [⟨.load true 5 (.t 1), none⟩, ⟨.mv (.t 3), none⟩, ⟨.call (.c (.fn f_l_szParty [] [])) [(.l 0), (.l 1)], none⟩, ⟨.mv (.l 2), none⟩] [(3, 3)])
 (.seq (.seq (.region [⟨.mv (.t 3), none⟩, ⟨.bin 0 .lss (.l 0) (.c (.int .i64 (0))), none⟩] [(9, 1)])
 (.cond (.t 9) (.seq (.region [⟨.mv (.c (.bool true)), none⟩] [(2, 0)])
 .ret) .skip))
 (.seq (.region [⟨.load true 5 (.t 1), none⟩, ⟨.call (.c (.fn f_l_toParty [] [])) [(.l 0)], none⟩, ⟨.call (.c (.fn f_s_CountPlaces [] [])) [(.l 1)], none⟩, ⟨.mv (.l 2), none⟩, ⟨.extract 0 (.l 3), none⟩, ⟨.extract 1 (.l 3), none⟩, ⟨.mv (.l 4), none⟩, ⟨.mv (.l 5), none⟩] [(4, 6), (5, 7)])
 (.seq (.region [⟨.load true 5 (.t 1), none⟩, ⟨.call (.c (.fn f_l_toParty [] [])) [(.l 0)], none⟩, ⟨.alloc [.int .i64 (0), .int .i64 (0), .int .i64 (0), .slice none 0 0 none, .int .i64 (0)], none⟩, ⟨.store 5 (.l 2) (.l 1), none⟩] [(6, 2)])
 (.seq (.region [⟨.load true 5 (.t 6), none⟩, ⟨.call (.c (.fn f_i_CountPlaces [] [])) [(.l 0)], none⟩, ⟨.mv (.l 1), none⟩, ⟨.extract 0 (.l 2), none⟩, ⟨.extract 1 (.l 2), none⟩, ⟨.mv (.l 3), none⟩, ⟨.mv (.l 4), none⟩] [(7, 5), (8, 6)])
 (.seq (.seq (.region [⟨.mv (.t 7), none⟩, ⟨.mv (.t 4), none⟩, ⟨.bin 0 .neq (.l 0) (.l 1), none⟩, ⟨.mv (.l 2), none⟩, ⟨.mv (.t 8), some ((.l 3), false)⟩, ⟨.mv (.t 5), some ((.l 3), false)⟩, ⟨.bin 2 .neq (.l 4) (.l 5), some ((.l 3), false)⟩, ⟨.pick (.l 3) (.c (.bool true)) (.l 6), none⟩] [(10, 7)])
 (.cond (.t 10) (.seq (.region [⟨.mv (.c (.bool false)), none⟩] [(2, 0)])
 .ret) .skip))
 (.seq (.seq (.draw [⟨.load true 5 (.t 6), none, []⟩, ⟨.load true 5 (.t 1), none, []⟩, ⟨.call (.c (.fn f_l_toParty [] [])) [(.l 1)], none, [(0, ⟨.load true 5 (.t 6), none⟩)]⟩, ⟨.call (.c (.fn f_l_eqParty [] [])) [(.l 0), (.l 2)], none, []⟩, ⟨.un .not (.l 3), none, []⟩] [(11, 4)])
 (.cond (.t 11) (.seq (.region [⟨.mv (.c (.bool false)), none⟩] [(2, 0)])
 .ret) .skip))
 (.seq (.region [⟨.mv (.c (.bool true)), none⟩] [(2, 0)])
 .ret))))))))))
def a_l_FnExactCountPlaces : AFun := ⟨[0, 1, 2, 3, 4, 5, 6, 7, 8, 13, 34, 39], 40, c_l_FnExactCountPlaces, [.tmp 2], 1⟩
def c_l_FnExactIsWalkOn : ACode :=
 (.seq (.region [⟨.box (.t 0), none⟩, ⟨.mv (.c (.bool false)), none⟩] [(2, 0), (3, 1)])
 (.seq (.region [⟨.mv (.c (.int .i64 (1048576))), none⟩] [(4, 0)])
 (.seq (.region [⟨.load true 5 (.t 2), none⟩, ⟨.mv (.t 4), none⟩, ⟨.call (.c (.fn f_l_szParty [] [])) [(.l 0), (.l 1)], none⟩, ⟨.mv (.l 2), none⟩] [(4, 3)])
 (.seq (.seq (.region [⟨.mv (.t 4), none⟩, ⟨.bin 0 .lss (.l 0) (.c (.int .i64 (0))), none⟩] [(11, 1)])
 (.cond (.t 11) (.seq (.region [⟨.mv (.c (.bool true)), none⟩] [(3, 0)])
 .ret) .skip))
 (.seq (.region [⟨.mv (.t 1), none⟩, ⟨.mv (.t 4), none⟩, ⟨.call (.c (.fn f_l_szIntA2S [] [])) [(.l 0), (.l 1)], none⟩, ⟨.mv (.l 2), none⟩] [(4, 3)])
 (.seq (.seq (.region [⟨.mv (.t 4), none⟩, ⟨.bin 0 .lss (.l 0) (.c (.int .i64 (0))), none⟩] [(12, 1)])
 (.cond (.t 12) (.seq (.region [⟨.mv (.c (.bool true)), none⟩] [(3, 0)])
 .ret) .skip))
 (.seq (.region [⟨.load true 5 (.t 2), none⟩, ⟨.call (.c (.fn f_l_toParty [] [])) [(.l 0)], none⟩, ⟨.mv (.t 1), none⟩, ⟨.call (.c (.fn f_l_toIntA2S [] [])) [(.l 2)], none⟩, ⟨.call (.c (.fn f_s_IsWalkOn [] [])) [(.l 1), (.l 3)], none⟩, ⟨.mv (.l 4), none⟩, ⟨.extract 0 (.l 5), none⟩, ⟨.extract 1 (.l 5), none⟩, ⟨.mv (.l 6), none⟩, ⟨.mv (.l 7), none⟩] [(5, 8), (6, 9)])
 (.seq (.region [⟨.load true 5 (.t 2), none⟩, ⟨.call (.c (.fn f_l_toParty [] [])) [(.l 0)], none⟩, ⟨.alloc [.int .i64 (0), .int .i64 (0), .int .i64 (0), .slice none 0 0 none, .int .i64 (0)], none⟩, ⟨.store 5 (.l 2) (.l 1), none⟩] [(7, 2)])
 (.seq (.region [⟨.mv (.t 1), none⟩, ⟨.call (.c (.fn f_l_toIntA2S [] [])) [(.l 0)], none⟩, ⟨.mv (.l 1), none⟩] [(8, 2)])
 (.seq (.region [⟨.load true 5 (.t 7), none⟩, ⟨.mv (.t 8), none⟩, ⟨.call (.c (.fn f_i_IsWalkOn [] [])) [(.l 0), (.l 1)], none⟩, ⟨.mv (.l 2), none⟩, ⟨.extract 0 (.l 3), none⟩, ⟨.extract 1 (.l 3), none⟩, ⟨.mv (.l 4), none⟩, ⟨.mv (.l 5), none⟩] [(9, 6), (10, 7)])
 (.seq (.seq (.region [⟨.mv (.t 9), none⟩, ⟨.mv (.t 5), none⟩, ⟨.bin 2 .neq (.l 0) (.l 1), none⟩, ⟨.mv (.l 2), none⟩, ⟨.mv (.t 10), some ((.l 3), false)⟩, ⟨.mv (.t 6), some ((.l 3), false)⟩, ⟨.bin 2 .neq (.l 4) (.l 5), some ((.l 3), false)⟩, ⟨.pick (.l 3) (.c (.bool true)) (.l 6), none⟩] [(13, 7)])
 (.cond (.t 13) (.seq (.region [⟨.mv (.c (.bool false)), none⟩] [(3, 0)])
 .ret) .skip))
 (.seq (.seq (.draw [⟨.load true 5 (.t 7), none, []⟩, ⟨.load true 5 (.t 2), none, []⟩, ⟨.call (.c (.fn f_l_toParty [] [])) [(.l 1)], none, [(0, ⟨.load true 5 (.t 7), none⟩)]⟩, ⟨.call (.c (.fn f_l_eqParty [] [])) [(.l 0), (.l 2)], none, []⟩, ⟨.un .not (.l 3), none, []⟩] [(14, 4)])
 (.cond (.t 14) (.seq (.region [⟨.mv (.c (.bool false)), none⟩] [(3, 0)])
 .ret) .skip))
 (.seq (.seq (.region [⟨.mv (.t 8), none⟩, ⟨.mv (.t 1), none⟩, ⟨.call (.c (.fn f_l_toIntA2S [] [])) [(.l 1)], none⟩, ⟨.call (.c (.fn f_l_eqIntA2S [] [])) [(.l 0), (.l 2)], none⟩, ⟨.un .not (.l 3), none⟩] [(15, 4)])
 (.cond (.t 15) (.seq (.region [⟨.mv (.c (.bool false)), none⟩] [(3, 0)])
 .ret) .skip))
 (.seq (.region [⟨.mv (.c (.bool true)), none⟩] [(3, 0)])
 .ret))))))))))))))
def a_l_FnExactIsWalkOn : AFun := ⟨[0, 1, 2, 4, 5, 6, 7, 8, 9, 10, 11, 16, 21, 47, 52, 57], 58, c_l_FnExactIsWalkOn, [.tmp 3], 1⟩
def c_l_FnExactFarthestOut : ACode :=
 (.seq (.region [⟨.box (.t 0), none⟩, ⟨.mv (.c (.bool false)), none⟩] [(2, 0), (3, 1)])
 (.seq (.region [⟨.mv (.c (.int .i64 (1048576))), none⟩] [(4, 0)])
 (.seq (.region [⟨.load true 5 (.t 2), none⟩, ⟨.mv (.t 4), none⟩, ⟨.call (.c (.fn f_l_szParty [] [])) [(.l 0), (.l 1)], none⟩, ⟨.mv (.l 2), none⟩] [(4, 3)])
 (.seq (.seq (.region [⟨.mv (.t 4), none⟩, ⟨.bin 0 .lss (.l 0) (.c (.int .i64 (0))), none⟩] [(12, 1)])
 (.cond (.t 12) (.seq (.region [⟨.mv (.c (.bool true)), none⟩] [(3, 0)])
 .ret) .skip))
 (.seq (.region [⟨.load true 5 (.t 2), none⟩, ⟨.call (.c (.fn f_l_toParty [] [])) [(.l 0)], none⟩, ⟨.mv (.t 1), none⟩, ⟨.call (.c (.fn f_s_FarthestOut [] [])) [(.l 1), (.l 2)], none⟩, ⟨.mv (.l 3), none⟩, ⟨.extract 0 (.l 4), none⟩, ⟨.extract 1 (.l 4), none⟩, ⟨.extract 2 (.l 4), none⟩, ⟨.mv (.l 5), none⟩, ⟨.mv (.l 6), none⟩, ⟨.mv (.l 7), none⟩] [(5, 8), (6, 9), (7, 10)])
 (.seq (.region [⟨.load true 5 (.t 2), none⟩, ⟨.call (.c (.fn f_l_toParty [] [])) [(.l 0)], none⟩, ⟨.alloc [.int .i64 (0), .int .i64 (0), .int .i64 (0), .slice none 0 0 none, .int .i64 (0)], none⟩, ⟨.store 5 (.l 2) (.l 1), none⟩] [(8, 2)])
 (.seq (.region [⟨.load true 5 (.t 8), none⟩, ⟨.mv (.t 1), none⟩, ⟨.call (.c (.fn f_i_FarthestOut [] [])) [(.l 0), (.l 1)], none⟩, ⟨.mv (.l 2), none⟩, ⟨.extract 0 (.l 3), none⟩, ⟨.extract 1 (.l 3), none⟩, ⟨.extract 2 (.l 3), none⟩, ⟨.mv (.l 4), none⟩, ⟨.mv (.l 5), none⟩, ⟨.mv (.l 6), none⟩] [(9, 7), (10, 8), (11, 9)])
 (.seq (.seq (.region [⟨.mv (.t 9), none⟩, ⟨.mv (.t 5), none⟩, ⟨.bin 0 .neq (.l 0) (.l 1), none⟩, ⟨.mv (.l 2), none⟩, ⟨.mv (.t 10), some ((.l 3), false)⟩, ⟨.mv (.t 6), some ((.l 3), false)⟩, ⟨.bin 0 .neq (.l 4) (.l 5), some ((.l 3), false)⟩, ⟨.pick (.l 3) (.c (.bool true)) (.l 6), none⟩, ⟨.mv (.l 7), none⟩, ⟨.mv (.t 11), some ((.l 8), false)⟩, ⟨.mv (.t 7), some ((.l 8), false)⟩, ⟨.bin 2 .neq (.l 9) (.l 10), some ((.l 8), false)⟩, ⟨.pick (.l 8) (.c (.bool true)) (.l 11), none⟩] [(13, 12)])
 (.cond (.t 13) (.seq (.region [⟨.mv (.c (.bool false)), none⟩] [(3, 0)])
 .ret) .skip))
 (.seq (.seq (.draw [⟨.load true 5 (.t 8), none, []⟩, ⟨.load true 5 (.t 2), none, []⟩, ⟨.call (.c (.fn f_l_toParty [] [])) [(.l 1)], none, [(0, ⟨.load true 5 (.t 8), none⟩)]⟩, ⟨.call (.c (.fn f_l_eqParty [] [])) [(.l 0), (.l 2)], none, []⟩, ⟨.un .not (.l 3), none, []⟩] [(14, 4)])
 (.cond (.t 14) (.seq (.region [⟨.mv (.c (.bool false)), none⟩] [(3, 0)])
 .ret) .skip))
 (.seq (.region [⟨.mv (.c (.bool true)), none⟩] [(3, 0)])
 .ret))))))))))
def a_l_FnExactFarthestOut : AFun := ⟨[0, 1, 2, 4, 5, 6, 7, 8, 9, 10, 11, 12, 17, 47, 52], 53, c_l_FnExactFarthestOut, [.tmp 3], 1⟩
def c_l_FnExactMeetSteps : ACode :=
 (.seq (.region [⟨.box (.t 0), none⟩, ⟨.mv (.c (.bool false)), none⟩] [(1, 0), (2, 1)])
 (.seq (.region [⟨.mv (.c (.int .i64 (1048576))), none⟩] [(3, 0)])
 (.seq (.region [⟨.load true 5 (.t 1), none⟩, ⟨.mv (.t 3), none⟩, ⟨.call (.c (.fn f_l_szParty [] [])) [(.l 0), (.l 1)], none⟩, ⟨.mv (.l 2), none⟩] [(3, 3)])
 (.seq (.seq (.region [⟨.mv (.t 3), none⟩, ⟨.bin 0 .lss (.l 0) (.c (.int .i64 (0))), none⟩] [(11, 1)])
 (.cond (.t 11) (.seq (.region [⟨.mv (.c (.bool true)), none⟩] [(2, 0)])
 .ret) .skip))
 (.seq (.region [⟨.load true 5 (.t 1), none⟩, ⟨.call (.c (.fn f_l_toParty [] [])) [(.l 0)], none⟩, ⟨.call (.c (.fn f_s_MeetSteps [] [])) [(.l 1)], none⟩, ⟨.mv (.l 2), none⟩, ⟨.extract 0 (.l 3), none⟩, ⟨.extract 1 (.l 3), none⟩, ⟨.extract 2 (.l 3), none⟩, ⟨.mv (.l 4), none⟩, ⟨.mv (.l 5), none⟩, ⟨.mv (.l 6), none⟩] [(4, 7), (5, 8), (6, 9)])
 (.seq (.region [⟨.load true 5 (.t 1), none⟩, ⟨.call (.c (.fn f_l_toParty [] [])) [(.l 0)], none⟩, ⟨.alloc [.int .i64 (0), .int .i64 (0), .int .i64 (0), .slice none 0 0 none, .int .i64 (0)], none⟩, ⟨.store 5 (.l 2) (.l 1), none⟩] [(7, 2)])
 (.seq (.region [⟨.load true 5 (.t 7), none⟩, ⟨.call (.c (.fn f_i_MeetSteps [] [])) [(.l 0)], none⟩, ⟨.mv (.l 1), none⟩, ⟨.extract 0 (.l 2), none⟩, ⟨.extract 1 (.l 2), none⟩, ⟨.extract 2 (.l 2), none⟩, ⟨.mv (.l 3), none⟩, ⟨.mv (.l 4), none⟩, ⟨.mv (.l 5), none⟩] [(8, 6), (9, 7), (10, 8)])
 (.seq (.seq (.region [⟨.mv (.t 8), none⟩, ⟨.mv (.t 4), none⟩, ⟨.bin 0 .neq (.l 0) (.l 1), none⟩, ⟨.mv (.l 2), none⟩, ⟨.mv (.t 9), some ((.l 3), false)⟩, ⟨.mv (.t 5), some ((.l 3), false)⟩, ⟨.bin 0 .neq (.l 4) (.l 5), some ((.l 3), false)⟩, ⟨.pick (.l 3) (.c (.bool true)) (.l 6), none⟩, ⟨.mv (.l 7), none⟩, ⟨.mv (.t 10), some ((.l 8), false)⟩, ⟨.mv (.t 6), some ((.l 8), false)⟩, ⟨.bin 2 .neq (.l 9) (.l 10), some ((.l 8), false)⟩, ⟨.pick (.l 8) (.c (.bool true)) (.l 11), none⟩] [(12, 12)])
 (.cond (.t 12) (.seq (.region [⟨.mv (.c (.bool false)), none⟩] [(2, 0)])
 .ret) .skip))
 (.seq (.seq (.draw [⟨.load true 5 (.t 7), none, []⟩, ⟨.load true 5 (.t 1), none, []⟩, ⟨.call (.c (.fn f_l_toParty [] [])) [(.l 1)], none, [(0, ⟨.load true 5 (.t 7), none⟩)]⟩, ⟨.call (.c (.fn f_l_eqParty [] [])) [(.l 0), (.l 2)], none, []⟩, ⟨.un .not (.l 3), none, []⟩] [(13, 4)])
 (.cond (.t 13) (.seq (.region [⟨.mv (.c (.bool false)), none⟩] [(2, 0)])
 .ret) .skip))
 (.seq (.region [⟨.mv (.c (.bool true)), none⟩] [(2, 0)])
 .ret))))))))))
def a_l_FnExactMeetSteps : AFun := ⟨[0, 1, 2, 3, 4, 5, 6, 7, 8, 9, 10, 15, 43, 48], 49, c_l_FnExactMeetSteps, [.tmp 2], 1⟩
def c_l_FnExactWalkTo : ACode :=
 (.seq (.region [⟨.box (.t 0), none⟩, ⟨.mv (.c (.bool false)), none⟩] [(2, 0), (3, 1)])
 (.seq (.region [⟨.mv (.c (.int .i64 (1048576))), none⟩] [(4, 0)])
 (.seq (.region [⟨.load true 5 (.t 2), none⟩, ⟨.mv (.t 4), none⟩, ⟨.call (.c (.fn f_l_szParty [] [])) [(.l 0), (.l 1)], none⟩, ⟨.mv (.l 2), none⟩] [(4, 3)])
 (.seq (.seq (.region [⟨.mv (.t 4), none⟩, ⟨.bin 0 .lss (.l 0) (.c (.int .i64 (0))), none⟩] [(16, 1)])
 (.cond (.t 16) (.seq (.region [⟨.mv (.c (.bool true)), none⟩] [(3, 0)])
 .ret) .skip))
 (.seq (.region [⟨.mv (.t 1), none⟩, ⟨.mv (.t 4), none⟩, ⟨.call (.c (.fn f_l_szIntA2S [] [])) [(.l 0), (.l 1)], none⟩, ⟨.mv (.l 2), none⟩] [(4, 3)])
 (.seq (.seq (.region [⟨.mv (.t 4), none⟩, ⟨.bin 0 .lss (.l 0) (.c (.int .i64 (0))), none⟩] [(17, 1)])
 (.cond (.t 17) (.seq (.region [⟨.mv (.c (.bool true)), none⟩] [(3, 0)])
 .ret) .skip))
 (.seq (.region [⟨.load true 5 (.t 2), none⟩, ⟨.call (.c (.fn f_l_toParty [] [])) [(.l 0)], none⟩, ⟨.mv (.t 1), none⟩, ⟨.call (.c (.fn f_l_toIntA2S [] [])) [(.l 2)], none⟩, ⟨.call (.c (.fn f_s_WalkTo [] [])) [(.l 1), (.l 3)], none⟩, ⟨.mv (.l 4), none⟩, ⟨.extract 0 (.l 5), none⟩, ⟨.extract 1 (.l 5), none⟩, ⟨.alloc [.int .i64 (0), .int .i64 (0), .int .i64 (0), .slice none 0 0 none, .int .i64 (0)], none⟩, ⟨.store 5 (.l 8) (.l 6), none⟩, ⟨.mv (.l 7), none⟩] [(5, 8), (6, 10)])
 (.seq (.region [⟨.load true 5 (.t 2), none⟩, ⟨.call (.c (.fn f_l_toParty [] [])) [(.l 0)], none⟩, ⟨.alloc [.int .i64 (0), .int .i64 (0), .int .i64 (0), .slice none 0 0 none, .int .i64 (0)], none⟩, ⟨.store 5 (.l 2) (.l 1), none⟩] [(7, 2)])
 (.seq (.region [⟨.mv (.t 1), none⟩, ⟨.call (.c (.fn f_l_toIntA2S [] [])) [(.l 0)], none⟩, ⟨.mv (.l 1), none⟩] [(8, 2)])
 (.seq (.region [⟨.load true 5 (.t 7), none⟩, ⟨.mv (.t 8), none⟩, ⟨.call (.c (.fn f_i_WalkTo [] [])) [(.l 0), (.l 1)], none⟩, ⟨.mv (.l 2), none⟩, ⟨.extract 0 (.l 3), none⟩, ⟨.extract 1 (.l 3), none⟩, ⟨.alloc [.int .i64 (0), .int .i64 (0), .int .i64 (0), .slice none 0 0 none, .int .i64 (0)], none⟩, ⟨.store 5 (.l 6) (.l 4), none⟩, ⟨.mv (.l 5), none⟩] [(9, 6), (10, 8)])
 (.seq (.seq (.region [⟨.load true 5 (.t 9), none⟩, ⟨.load true 5 (.t 5), none⟩, ⟨.call (.c (.fn f_l_eqParty [] [])) [(.l 0), (.l 1)], none⟩, ⟨.un .not (.l 2), none⟩, ⟨.mv (.l 3), none⟩, ⟨.mv (.t 10), some ((.l 4), false)⟩, ⟨.mv (.t 6), some ((.l 4), false)⟩, ⟨.bin 2 .neq (.l 5) (.l 6), some ((.l 4), false)⟩, ⟨.pick (.l 4) (.c (.bool true)) (.l 7), none⟩] [(18, 8)])
 (.cond (.t 18) (.seq (.region [⟨.mv (.c (.bool false)), none⟩] [(3, 0)])
 .ret) .skip))
 (.seq (.seq (.draw [⟨.load true 5 (.t 7), none, []⟩, ⟨.load true 5 (.t 2), none, []⟩, ⟨.call (.c (.fn f_l_toParty [] [])) [(.l 1)], none, [(0, ⟨.load true 5 (.t 7), none⟩)]⟩, ⟨.call (.c (.fn f_l_eqParty [] [])) [(.l 0), (.l 2)], none, []⟩, ⟨.un .not (.l 3), none, []⟩] [(19, 4)])
 (.cond (.t 19) (.seq (.region [⟨.mv (.c (.bool false)), none⟩] [(3, 0)])
 .ret) .skip))
 (.seq (.seq (.region [⟨.mv (.t 8), none⟩, ⟨.mv (.t 1), none⟩, ⟨.call (.c (.fn f_l_toIntA2S [] [])) [(.l 1)], none⟩, ⟨.call (.c (.fn f_l_eqIntA2S [] [])) [(.l 0), (.l 2)], none⟩, ⟨.un .not (.l 3), none⟩] [(20, 4)])
 (.cond (.t 20) (.seq (.region [⟨.mv (.c (.bool false)), none⟩] [(3, 0)])
 .ret) .skip))
 (.seq (.region [⟨.mv (.c (.int .i64 (1))), none⟩] [(11, 0)])
 (.seq (.region [⟨.load true 5 (.t 7), none⟩, ⟨.mv (.t 11), none⟩, ⟨.call (.c (.fn f_l_markParty [] [])) [(.l 0), (.l 1)], none⟩, ⟨.mv (.l 2), none⟩] [(11, 3)])
 (.seq (.region [⟨.mv (.t 8), none⟩, ⟨.mv (.t 11), none⟩, ⟨.call (.c (.fn f_l_markIntA2S [] [])) [(.l 0), (.l 1)], none⟩, ⟨.mv (.l 2), none⟩] [(11, 3)])
 (.seq (.seq (.region [⟨.mv (.t 11), none⟩, ⟨.bin 0 .lss (.l 0) (.c (.int .i64 (0))), none⟩, ⟨.mv (.l 1), none⟩, ⟨.load true 5 (.t 9), some ((.l 2), false)⟩, ⟨.load true 5 (.t 5), some ((.l 2), false)⟩, ⟨.call (.c (.fn f_l_eqParty [] [])) [(.l 3), (.l 4)], some ((.l 2), false)⟩, ⟨.un .not (.l 5), some ((.l 2), false)⟩, ⟨.pick (.l 2) (.c (.bool true)) (.l 6), none⟩, ⟨.mv (.l 7), none⟩, ⟨.mv (.t 10), some ((.l 8), false)⟩, ⟨.mv (.t 6), some ((.l 8), false)⟩, ⟨.bin 2 .neq (.l 9) (.l 10), some ((.l 8), false)⟩, ⟨.pick (.l 8) (.c (.bool true)) (.l 11), none⟩] [(21, 12)])
 (.cond (.t 21) (.seq (.region [⟨.mv (.c (.bool false)), none⟩] [(3, 0)])
 .ret) .skip))
 (.seq (.region [⟨.mv (.c (.int .i64 (1))), none⟩] [(12, 0)])
 (.seq (.region [⟨.load true 5 (.t 9), none⟩, ⟨.mv (.t 12), none⟩, ⟨.call (.c (.fn f_l_markParty [] [])) [(.l 0), (.l 1)], none⟩, ⟨.mv (.l 2), none⟩] [(12, 3)])
 (.seq (.region [⟨.mv (.c (.int .i64 (1))), none⟩] [(13, 0)])
 (.seq (.region [⟨.load true 5 (.t 9), none⟩, ⟨.mv (.t 13), none⟩, ⟨.call (.c (.fn f_l_heldParty [] [])) [(.l 0), (.l 1)], none⟩, ⟨.mv (.l 2), none⟩] [(13, 3)])
 (.seq (.seq (.region [⟨.mv (.t 13), none⟩, ⟨.bin 0 .lss (.l 0) (.c (.int .i64 (0))), none⟩] [(22, 1)])
 (.cond (.t 22) (.seq (.region [⟨.mv (.c (.bool false)), none⟩] [(3, 0)])
 .ret) .skip))
 (.seq (.seq (.region [⟨.mv (.t 13), none⟩, ⟨.mv (.t 12), none⟩, ⟨.bin 0 .neq (.l 0) (.l 1), none⟩] [(23, 2)])
 (.cond (.t 23) (.seq (.region [⟨.mv (.c (.bool false)), none⟩] [(3, 0)])
 .ret) .skip))
 (.seq (.region [⟨.load true 5 (.t 2), none⟩, ⟨.call (.c (.fn f_l_toParty [] [])) [(.l 0)], none⟩, ⟨.mv (.t 1), none⟩, ⟨.call (.c (.fn f_l_toIntA2S [] [])) [(.l 2)], none⟩, ⟨.call (.c (.fn f_i_WalkTo [] [])) [(.l 1), (.l 3)], none⟩, ⟨.mv (.l 4), none⟩, ⟨.extract 0 (.l 5), none⟩, ⟨.extract 1 (.l 5), none⟩, ⟨.alloc [.int .i64 (0), .int .i64 (0), .int .i64 (0), .slice none 0 0 none, .int .i64 (0)], none⟩, ⟨.store 5 (.l 8) (.l 6), none⟩, ⟨.mv (.l 7), none⟩] [(14, 8), (15, 10)])
 (.seq (.seq (.region [⟨.load true 5 (.t 14), none⟩, ⟨.load true 5 (.t 5), none⟩, ⟨.call (.c (.fn f_l_eqParty [] [])) [(.l 0), (.l 1)], none⟩, ⟨.un .not (.l 2), none⟩, ⟨.mv (.l 3), none⟩, ⟨.mv (.t 15), some ((.l 4), false)⟩, ⟨.mv (.t 6), some ((.l 4), false)⟩, ⟨.bin 2 .neq (.l 5) (.l 6), some ((.l 4), false)⟩, ⟨.pick (.l 4) (.c (.bool true)) (.l 7), none⟩] [(24, 8)])
 (.cond (.t 24) (.seq (.region [⟨.mv (.c (.bool false)), none⟩] [(3, 0)])
 .ret) .skip))
 (.seq (.region [⟨.mv (.c (.int .i64 (1))), none⟩] [(13, 0)])
 (.seq (.region [⟨.load true 5 (.t 9), none⟩, ⟨.mv (.t 13), none⟩, ⟨.call (.c (.fn f_l_heldParty [] [])) [(.l 0), (.l 1)], none⟩, ⟨.mv (.l 2), none⟩] [(13, 3)])
 (.seq (.seq (.region [⟨.mv (.t 13), none⟩, ⟨.bin 0 .lss (.l 0) (.c (.int .i64 (0))), none⟩] [(25, 1)])
 (.cond (.t 25) (.seq (.region [⟨.mv (.c (.bool false)), none⟩] [(3, 0)])
 .ret) .skip))
 (.seq (.seq (.region [⟨.mv (.t 13), none⟩, ⟨.mv (.t 12), none⟩, ⟨.bin 0 .neq (.l 0) (.l 1), none⟩] [(26, 2)])
 (.cond (.t 26) (.seq (.region [⟨.mv (.c (.bool false)), none⟩] [(3, 0)])
 .ret) .skip))
 (.seq (.region [⟨.mv (.c (.bool true)), none⟩] [(3, 0)])
 .ret))))))))))))))))))))))))))))))
def a_l_FnExactWalkTo : AFun := ⟨[0, 1, 2, 4, 5, 6, 7, 8, 9, 10, 11, 12, 13, 14, 15, 16, 21, 26, 53, 58, 63, 82, 90, 93, 110, 115, 118], 119, c_l_FnExactWalkTo, [.tmp 3], 1⟩
def c_l_FnExactStepsTo : ACode :=
 (.seq (.region [⟨.box (.t 0), none⟩, ⟨.mv (.c (.bool false)), none⟩] [(2, 0), (3, 1)])
 (.seq (.seq (.region [⟨.mv (.t 1), none⟩, ⟨.len (.l 0), none⟩, ⟨.bin 0 .gtr (.l 1) (.c (.int .i64 (1048576))), none⟩] [(11, 2)])
 (.cond (.t 11) (.seq (.region [⟨.mv (.c (.bool true)), none⟩] [(3, 0)])
 .ret) .skip))
 (.seq (.region [⟨.mv (.c (.int .i64 (1048576))), none⟩] [(4, 0)])
 (.seq (.region [⟨.load true 5 (.t 2), none⟩, ⟨.mv (.t 4), none⟩, ⟨.call (.c (.fn f_l_szParty [] [])) [(.l 0), (.l 1)], none⟩, ⟨.mv (.l 2), none⟩] [(4, 3)])
 (.seq (.seq (.region [⟨.mv (.t 4), none⟩, ⟨.bin 0 .lss (.l 0) (.c (.int .i64 (0))), none⟩] [(12, 1)])
 (.cond (.t 12) (.seq (.region [⟨.mv (.c (.bool true)), none⟩] [(3, 0)])
 .ret) .skip))
 (.seq (.region [⟨.load true 5 (.t 2), none⟩, ⟨.call (.c (.fn f_l_toParty [] [])) [(.l 0)], none⟩, ⟨.mv (.t 1), none⟩, ⟨.call (.c (.fn f_l_toIntS [] [])) [(.l 2)], none⟩, ⟨.call (.c (.fn f_s_StepsTo [] [])) [(.l 1), (.l 3)], none⟩, ⟨.mv (.l 4), none⟩, ⟨.extract 0 (.l 5), none⟩, ⟨.extract 1 (.l 5), none⟩, ⟨.mv (.l 6), none⟩, ⟨.mv (.l 7), none⟩] [(5, 8), (6, 9)])
 (.seq (.region [⟨.load true 5 (.t 2), none⟩, ⟨.call (.c (.fn f_l_toParty [] [])) [(.l 0)], none⟩, ⟨.alloc [.int .i64 (0), .int .i64 (0), .int .i64 (0), .slice none 0 0 none, .int .i64 (0)], none⟩, ⟨.store 5 (.l 2) (.l 1), none⟩] [(7, 2)])
 (.seq (.region [⟨.mv (.t 1), none⟩, ⟨.call (.c (.fn f_l_toIntS [] [])) [(.l 0)], none⟩, ⟨.mv (.l 1), none⟩] [(8, 2)])
 (.seq (.region [⟨.load true 5 (.t 7), none⟩, ⟨.mv (.t 8), none⟩, ⟨.call (.c (.fn f_i_StepsTo [] [])) [(.l 0), (.l 1)], none⟩, ⟨.mv (.l 2), none⟩, ⟨.extract 0 (.l 3), none⟩, ⟨.extract 1 (.l 3), none⟩, ⟨.mv (.l 4), none⟩, ⟨.mv (.l 5), none⟩] [(9, 6), (10, 7)])
 (.seq (.seq (.region [⟨.mv (.t 9), none⟩, ⟨.mv (.t 5), none⟩, ⟨.bin 0 .neq (.l 0) (.l 1), none⟩, ⟨.mv (.l 2), none⟩, ⟨.mv (.t 10), some ((.l 3), false)⟩, ⟨.mv (.t 6), some ((.l 3), false)⟩, ⟨.bin 2 .neq (.l 4) (.l 5), some ((.l 3), false)⟩, ⟨.pick (.l 3) (.c (.bool true)) (.l 6), none⟩] [(13, 7)])
 (.cond (.t 13) (.seq (.region [⟨.mv (.c (.bool false)), none⟩] [(3, 0)])
 .ret) .skip))
 (.seq (.seq (.draw [⟨.load true 5 (.t 7), none, []⟩, ⟨.load true 5 (.t 2), none, []⟩, ⟨.call (.c (.fn f_l_toParty [] [])) [(.l 1)], none, [(0, ⟨.load true 5 (.t 7), none⟩)]⟩, ⟨.call (.c (.fn f_l_eqParty [] [])) [(.l 0), (.l 2)], none, []⟩, ⟨.un .not (.l 3), none, []⟩] [(14, 4)])
 (.cond (.t 14) (.seq (.region [⟨.mv (.c (.bool false)), none⟩] [(3, 0)])
 .ret) .skip))
 (.seq (.seq (.region [⟨.mv (.t 8), none⟩, ⟨.mv (.t 1), none⟩, ⟨.call (.c (.fn f_l_toIntS [] [])) [(.l 1)], none⟩, ⟨.call (.c (.fn f_l_eqIntS [] [])) [(.l 0), (.l 2)], none⟩, ⟨.un .not (.l 3), none⟩] [(15, 4)])
 (.cond (.t 15) (.seq (.region [⟨.mv (.c (.bool false)), none⟩] [(3, 0)])
 .ret) .skip))
 (.seq (.region [⟨.mv (.c (.bool true)), none⟩] [(3, 0)])
 .ret)))))))))))))
def a_l_FnExactStepsTo : AFun := ⟨[0, 1, 2, 4, 5, 6, 7, 8, 9, 10, 11, 14, 19, 45, 50, 55], 56, c_l_FnExactStepsTo, [.tmp 3], 1⟩
def c_l_FnExactFirstWalkTo : ACode :=
 (.seq (.region [⟨.box (.t 0), none⟩, ⟨.mv (.c (.bool false)), none⟩] [(2, 0), (3, 1)])
 (.seq (.seq (.region [⟨.mv (.t 1), none⟩, ⟨.len (.l 0), none⟩, ⟨.bin 0 .gtr (.l 1) (.c (.int .i64 (1048576))), none⟩] [(16, 2)])
 (.cond (.t 16) (.seq (.region [⟨.mv (.c (.bool true)), none⟩] [(3, 0)])
 .ret) .skip))
 (.seq (.region [⟨.mv (.c (.int .i64 (1048576))), none⟩] [(4, 0)])
 (.seq (.region [⟨.load true 5 (.t 2), none⟩, ⟨.mv (.t 4), none⟩, ⟨.call (.c (.fn f_l_szParty [] [])) [(.l 0), (.l 1)], none⟩, ⟨.mv (.l 2), none⟩] [(4, 3)])
 (.seq (.seq (.region [⟨.mv (.t 4), none⟩, ⟨.bin 0 .lss (.l 0) (.c (.int .i64 (0))), none⟩] [(17, 1)])
 (.cond (.t 17) (.seq (.region [⟨.mv (.c (.bool true)), none⟩] [(3, 0)])
 .ret) .skip))
 (.seq (.region [⟨.load true 5 (.t 2), none⟩, ⟨.call (.c (.fn f_l_toParty [] [])) [(.l 0)], none⟩, ⟨.mv (.t 1), none⟩, ⟨.call (.c (.fn f_l_toIntS [] [])) [(.l 2)], none⟩, ⟨.call (.c (.fn f_s_FirstWalkTo [] [])) [(.l 1), (.l 3)], none⟩, ⟨.mv (.l 4), none⟩, ⟨.extract 0 (.l 5), none⟩, ⟨.extract 1 (.l 5), none⟩, ⟨.mv (.l 6), none⟩, ⟨.mv (.l 7), none⟩] [(5, 8), (6, 9)])
 (.seq (.region [⟨.load true 5 (.t 2), none⟩, ⟨.call (.c (.fn f_l_toParty [] [])) [(.l 0)], none⟩, ⟨.alloc [.int .i64 (0), .int .i64 (0), .int .i64 (0), .slice none 0 0 none, .int .i64 (0)], none⟩, ⟨.store 5 (.l 2) (.l 1), none⟩] [(7, 2)])
 (.seq (.region [⟨.mv (.t 1), none⟩, ⟨.call (.c (.fn f_l_toIntS [] [])) [(.l 0)], none⟩, ⟨.mv (.l 1), none⟩] [(8, 2)])
 (.seq (.region [⟨.load true 5 (.t 7), none⟩, ⟨.mv (.t 8), none⟩, ⟨.call (.c (.fn f_i_FirstWalkTo [] [])) [(.l 0), (.l 1)], none⟩, ⟨.mv (.l 2), none⟩, ⟨.extract 0 (.l 3), none⟩, ⟨.extract 1 (.l 3), none⟩, ⟨.mv (.l 4), none⟩, ⟨.mv (.l 5), none⟩] [(9, 6), (10, 7)])
 (.seq (.seq (.region [⟨.mv (.t 9), none⟩, ⟨.mv (.t 5), none⟩, ⟨.call (.c (.fn f_l_eqIntA2S [] [])) [(.l 0), (.l 1)], none⟩, ⟨.un .not (.l 2), none⟩, ⟨.mv (.l 3), none⟩, ⟨.mv (.t 10), some ((.l 4), false)⟩, ⟨.mv (.t 6), some ((.l 4), false)⟩, ⟨.bin 2 .neq (.l 5) (.l 6), some ((.l 4), false)⟩, ⟨.pick (.l 4) (.c (.bool true)) (.l 7), none⟩] [(18, 8)])
 (.cond (.t 18) (.seq (.region [⟨.mv (.c (.bool false)), none⟩] [(3, 0)])
 .ret) .skip))
 (.seq (.seq (.draw [⟨.load true 5 (.t 7), none, []⟩, ⟨.load true 5 (.t 2), none, []⟩, ⟨.call (.c (.fn f_l_toParty [] [])) [(.l 1)], none, [(0, ⟨.load true 5 (.t 7), none⟩)]⟩, ⟨.call (.c (.fn f_l_eqParty [] [])) [(.l 0), (.l 2)], none, []⟩, ⟨.un .not (.l 3), none, []⟩] [(19, 4)])
 (.cond (.t 19) (.seq (.region [⟨.mv (.c (.bool false)), none⟩] [(3, 0)])
 .ret) .skip))
 (.seq (.seq (.region [⟨.mv (.t 8), none⟩, ⟨.mv (.t 1), none⟩, ⟨.call (.c (.fn f_l_toIntS [] [])) [(.l 1)], none⟩, ⟨.call (.c (.fn f_l_eqIntS [] [])) [(.l 0), (.l 2)], none⟩, ⟨.un .not (.l 3), none⟩] [(20, 4)])
 (.cond (.t 20) (.seq (.region [⟨.mv (.c (.bool false)), none⟩] [(3, 0)])
 .ret) .skip))
 (.seq (.region [⟨.mv (.c (.int .i64 (1))), none⟩] [(11, 0)])
 (.seq (.region [⟨.load true 5 (.t 7), none⟩, ⟨.mv (.t 11), none⟩, ⟨.call (.c (.fn f_l_markParty [] [])) [(.l 0), (.l 1)], none⟩, ⟨.mv (.l 2), none⟩] [(11, 3)])
 (.seq (.region [⟨.mv (.t 8), none⟩, ⟨.mv (.t 11), none⟩, ⟨.call (.c (.fn f_l_markIntS [] [])) [(.l 0), (.l 1)], none⟩, ⟨.mv (.l 2), none⟩] [(11, 3)])
 (.seq (.seq (.region [⟨.mv (.t 11), none⟩, ⟨.bin 0 .lss (.l 0) (.c (.int .i64 (0))), none⟩, ⟨.mv (.l 1), none⟩, ⟨.mv (.t 9), some ((.l 2), false)⟩, ⟨.mv (.t 5), some ((.l 2), false)⟩, ⟨.call (.c (.fn f_l_eqIntA2S [] [])) [(.l 3), (.l 4)], some ((.l 2), false)⟩, ⟨.un .not (.l 5), some ((.l 2), false)⟩, ⟨.pick (.l 2) (.c (.bool true)) (.l 6), none⟩, ⟨.mv (.l 7), none⟩, ⟨.mv (.t 10), some ((.l 8), false)⟩, ⟨.mv (.t 6), some ((.l 8), false)⟩, ⟨.bin 2 .neq (.l 9) (.l 10), some ((.l 8), false)⟩, ⟨.pick (.l 8) (.c (.bool true)) (.l 11), none⟩] [(21, 12)])
 (.cond (.t 21) (.seq (.region [⟨.mv (.c (.bool false)), none⟩] [(3, 0)])
 .ret) .skip))
 (.seq (.region [⟨.mv (.c (.int .i64 (1))), none⟩] [(12, 0)])
 (.seq (.region [⟨.mv (.t 9), none⟩, ⟨.mv (.t 12), none⟩, ⟨.call (.c (.fn f_l_markIntA2S [] [])) [(.l 0), (.l 1)], none⟩, ⟨.mv (.l 2), none⟩] [(12, 3)])
 (.seq (.region [⟨.mv (.c (.int .i64 (1))), none⟩] [(13, 0)])
 (.seq (.region [⟨.mv (.t 9), none⟩, ⟨.mv (.t 13), none⟩, ⟨.call (.c (.fn f_l_heldIntA2S [] [])) [(.l 0), (.l 1)], none⟩, ⟨.mv (.l 2), none⟩] [(13, 3)])
 (.seq (.seq (.region [⟨.mv (.t 13), none⟩, ⟨.bin 0 .lss (.l 0) (.c (.int .i64 (0))), none⟩] [(22, 1)])
 (.cond (.t 22) (.seq (.region [⟨.mv (.c (.bool false)), none⟩] [(3, 0)])
 .ret) .skip))
 (.seq (.seq (.region [⟨.mv (.t 13), none⟩, ⟨.mv (.t 12), none⟩, ⟨.bin 0 .neq (.l 0) (.l 1), none⟩] [(23, 2)])
 (.cond (.t 23) (.seq (.region [⟨.mv (.c (.bool false)), none⟩] [(3, 0)])
 .ret) .skip))
 (.seq (.region [⟨.load true 5 (.t 2), none⟩, ⟨.call (.c (.fn f_l_toParty [] [])) [(.l 0)], none⟩, ⟨.mv (.t 1), none⟩, ⟨.call (.c (.fn f_l_toIntS [] [])) [(.l 2)], none⟩, ⟨.call (.c (.fn f_i_FirstWalkTo [] [])) [(.l 1), (.l 3)], none⟩, ⟨.mv (.l 4), none⟩, ⟨.extract 0 (.l 5), none⟩, ⟨.extract 1 (.l 5), none⟩, ⟨.mv (.l 6), none⟩, ⟨.mv (.l 7), none⟩] [(14, 8), (15, 9)])
 (.seq (.seq (.region [⟨.mv (.t 14), none⟩, ⟨.mv (.t 5), none⟩, ⟨.call (.c (.fn f_l_eqIntA2S [] [])) [(.l 0), (.l 1)], none⟩, ⟨.un .not (.l 2), none⟩, ⟨.mv (.l 3), none⟩, ⟨.mv (.t 15), some ((.l 4), false)⟩, ⟨.mv (.t 6), some ((.l 4), false)⟩, ⟨.bin 2 .neq (.l 5) (.l 6), some ((.l 4), false)⟩, ⟨.pick (.l 4) (.c (.bool true)) (.l 7), none⟩] [(24, 8)])
 (.cond (.t 24) (.seq (.region [⟨.mv (.c (.bool false)), none⟩] [(3, 0)])
 .ret) .skip))
 (.seq (.region [⟨.mv (.c (.int .i64 (1))), none⟩] [(13, 0)])
 (.seq (.region [⟨.mv (.t 9), none⟩, ⟨.mv (.t 13), none⟩, ⟨.call (.c (.fn f_l_heldIntA2S [] [])) [(.l 0), (.l 1)], none⟩, ⟨.mv (.l 2), none⟩] [(13, 3)])
 (.seq (.seq (.region [⟨.mv (.t 13), none⟩, ⟨.bin 0 .lss (.l 0) (.c (.int .i64 (0))), none⟩] [(25, 1)])
 (.cond (.t 25) (.seq (.region [⟨.mv (.c (.bool false)), none⟩] [(3, 0)])
 .ret) .skip))
 (.seq (.seq (.region [⟨.mv (.t 13), none⟩, ⟨.mv (.t 12), none⟩, ⟨.bin 0 .neq (.l 0) (.l 1), none⟩] [(26, 2)])
 (.cond (.t 26) (.seq (.region [⟨.mv (.c (.bool false)), none⟩] [(3, 0)])
 .ret) .skip))
 (.seq (.region [⟨.mv (.c (.bool true)), none⟩] [(3, 0)])
 .ret)))))))))))))))))))))))))))))
def a_l_FnExactFirstWalkTo : AFun := ⟨[0, 1, 2, 4, 5, 6, 7, 8, 9, 10, 11, 12, 13, 14, 15, 16, 19, 24, 51, 56, 61, 80, 88, 91, 108, 113, 116], 117, c_l_FnExactFirstWalkTo, [.tmp 3], 1⟩
def w_l_FnPlanks_1 : ACode :=
 (.seq (.seq (.region [⟨.mv (.t 27), none⟩, ⟨.fieldAddr 3 (.t 2), none⟩, ⟨.load false 1 (.l 1), none⟩, ⟨.len (.l 2), none⟩, ⟨.bin 0 .lss (.l 0) (.l 3), none⟩] [(38, 4)])
 (.cond (.t 38) .skip (.exit 0)))
 (.seq (.block 1 (.region [⟨.mv (.t 26), none⟩, ⟨.mv (.t 12), none⟩, ⟨.buildSlice 1 1 [.int .i64 (0)] [(0, 1, (.l 1))], none⟩, ⟨.append false 1 8 (.l 0) (.l 2), none⟩, ⟨.mv (.l 3), none⟩] [(26, 4)]))
 (.region [⟨.mv (.t 27), none⟩, ⟨.bin 0 .add (.l 0) (.c (.int .i64 (1))), none⟩, ⟨.mv (.l 1), none⟩] [(27, 2)])))
def c_l_FnPlanks : ACode :=
 (.seq (.region [⟨.mv (.c (.bool false)), none⟩] [(1, 0)])
 (.seq (.seq (.region [⟨.mv (.t 0), none⟩, ⟨.call (.c (.fn f_l_rBig [] [])) [(.l 0)], none⟩] [(30, 1)])
 (.cond (.t 30) (.seq (.region [⟨.mv (.c (.bool true)), none⟩] [(1, 0)])
 .ret) .skip))
 (.seq (.region [⟨.mv (.t 0), none⟩, ⟨.call (.c (.fn f_s_DrawCountPlaces [] [])) [(.l 0)], none⟩, ⟨.alloc [.int .i64 (0), .int .i64 (0), .int .i64 (0), .slice none 0 0 none, .int .i64 (0)], none⟩, ⟨.store 5 (.l 2) (.l 1), none⟩] [(2, 2)])
 (.seq (.region [⟨.load true 5 (.t 2), none⟩, ⟨.call (.c (.fn f_i_CountPlaces [] [])) [(.l 0)], none⟩, ⟨.mv (.l 1), none⟩, ⟨.extract 0 (.l 2), none⟩, ⟨.extract 1 (.l 2), none⟩, ⟨.mv (.l 3), none⟩, ⟨.mv (.l 4), none⟩] [(3, 5), (4, 6)])
 (.seq (.seq (.region [⟨.load true 5 (.t 2), none⟩, ⟨.call (.c (.fn f_s_CountPlaces [] [])) [(.l 0)], none⟩, ⟨.mv (.l 1), none⟩, ⟨.extract 0 (.l 2), none⟩, ⟨.extract 1 (.l 2), none⟩, ⟨.mv (.l 3), none⟩, ⟨.mv (.l 4), none⟩] [(5, 5), (6, 6)])
 (.seq (.region [⟨.mv (.t 3), none⟩, ⟨.mv (.t 5), none⟩, ⟨.bin 0 .neq (.l 0) (.l 1), none⟩, ⟨.mv (.l 2), none⟩, ⟨.mv (.t 4), some ((.l 3), false)⟩, ⟨.mv (.t 6), some ((.l 3), false)⟩, ⟨.bin 2 .neq (.l 4) (.l 5), some ((.l 3), false)⟩, ⟨.pick (.l 3) (.c (.bool true)) (.l 6), none⟩, ⟨.mv (.l 7), none⟩, ⟨.mv (.t 4), some ((.l 8), false)⟩, ⟨.load true 5 (.t 2), some ((.l 8), false)⟩, ⟨.call (.c (.fn f_i_IsParty [] [])) [(.l 10)], some ((.l 8), false)⟩, ⟨.bin 2 .neq (.l 9) (.l 11), some ((.l 8), false)⟩, ⟨.pick (.l 8) (.c (.bool true)) (.l 12), none⟩] [(31, 13)])
 (.cond (.t 31) (.seq (.region [⟨.mv (.c (.bool false)), none⟩] [(1, 0)])
 .ret) .skip)))
 (.seq (.region [⟨.load true 5 (.t 2), none⟩, ⟨.call (.c (.fn f_i_RestingPlaces [] [])) [(.l 0)], none⟩, ⟨.mv (.l 1), none⟩, ⟨.extract 0 (.l 2), none⟩, ⟨.extract 1 (.l 2), none⟩, ⟨.mv (.l 3), none⟩, ⟨.mv (.l 4), none⟩] [(7, 5), (8, 6)])
 (.seq (.seq (.region [⟨.load true 5 (.t 2), none⟩, ⟨.call (.c (.fn f_s_RestingPlaces [] [])) [(.l 0)], none⟩, ⟨.mv (.l 1), none⟩, ⟨.extract 0 (.l 2), none⟩, ⟨.extract 1 (.l 2), none⟩, ⟨.mv (.l 3), none⟩, ⟨.mv (.l 4), none⟩] [(9, 5), (10, 6)])
 (.seq (.region [⟨.mv (.t 7), none⟩, ⟨.mv (.t 9), none⟩, ⟨.bin 0 .neq (.l 0) (.l 1), none⟩, ⟨.mv (.l 2), none⟩, ⟨.mv (.t 8), some ((.l 3), false)⟩, ⟨.mv (.t 10), some ((.l 3), false)⟩, ⟨.bin 2 .neq (.l 4) (.l 5), some ((.l 3), false)⟩, ⟨.pick (.l 3) (.c (.bool true)) (.l 6), none⟩, ⟨.mv (.l 7), none⟩, ⟨.mv (.t 8), some ((.l 8), false)⟩, ⟨.mv (.t 4), some ((.l 8), false)⟩, ⟨.bin 2 .neq (.l 9) (.l 10), some ((.l 8), false)⟩, ⟨.pick (.l 8) (.c (.bool true)) (.l 11), none⟩] [(32, 12)])
 (.cond (.t 32) (.seq (.region [⟨.mv (.c (.bool false)), none⟩] [(1, 0)])
 .ret) .skip)))
 (.seq (.region [⟨.load true 5 (.t 2), none⟩, ⟨.call (.c (.fn f_i_MeetSteps [] [])) [(.l 0)], none⟩, ⟨.mv (.l 1), none⟩, ⟨.extract 0 (.l 2), none⟩, ⟨.extract 1 (.l 2), none⟩, ⟨.extract 2 (.l 2), none⟩, ⟨.mv (.l 3), none⟩, ⟨.mv (.l 4), none⟩, ⟨.mv (.l 5), none⟩] [(11, 6), (12, 7), (13, 8)])
 (.seq (.seq (.region [⟨.load true 5 (.t 2), none⟩, ⟨.call (.c (.fn f_s_MeetSteps [] [])) [(.l 0)], none⟩, ⟨.mv (.l 1), none⟩, ⟨.extract 0 (.l 2), none⟩, ⟨.extract 1 (.l 2), none⟩, ⟨.extract 2 (.l 2), none⟩, ⟨.mv (.l 3), none⟩, ⟨.mv (.l 4), none⟩, ⟨.mv (.l 5), none⟩] [(14, 6), (15, 7), (16, 8)])
 (.seq (.region [⟨.mv (.t 11), none⟩, ⟨.mv (.t 14), none⟩, ⟨.bin 0 .neq (.l 0) (.l 1), none⟩, ⟨.mv (.l 2), none⟩, ⟨.mv (.t 12), some ((.l 3), false)⟩, ⟨.mv (.t 15), some ((.l 3), false)⟩, ⟨.bin 0 .neq (.l 4) (.l 5), some ((.l 3), false)⟩, ⟨.pick (.l 3) (.c (.bool true)) (.l 6), none⟩, ⟨.mv (.l 7), none⟩, ⟨.mv (.t 13), some ((.l 8), false)⟩, ⟨.mv (.t 16), some ((.l 8), false)⟩, ⟨.bin 2 .neq (.l 9) (.l 10), some ((.l 8), false)⟩, ⟨.pick (.l 8) (.c (.bool true)) (.l 11), none⟩, ⟨.mv (.l 12), none⟩, ⟨.mv (.t 13), some ((.l 13), false)⟩, ⟨.mv (.l 14), some ((.l 13), false)⟩, ⟨.mv (.t 4), some ((.l 15), true)⟩, ⟨.un .not (.l 16), some ((.l 15), true)⟩, ⟨.pick (.l 15) (.l 17) (.c (.bool false)), some ((.l 13), false)⟩, ⟨.pick (.l 13) (.c (.bool true)) (.l 18), none⟩] [(33, 19)])
 (.cond (.t 33) (.seq (.region [⟨.mv (.c (.bool false)), none⟩] [(1, 0)])
 .ret) .skip)))
 (.seq (.region [⟨.mv (.t 0), none⟩, ⟨.call (.c (.fn f_s_DrawFarthestOut [] [])) [(.l 0)], none⟩, ⟨.mv (.l 1), none⟩, ⟨.extract 0 (.l 2), none⟩, ⟨.extract 1 (.l 2), none⟩, ⟨.alloc [.int .i64 (0), .int .i64 (0), .int .i64 (0), .slice none 0 0 none, .int .i64 (0)], none⟩, ⟨.store 5 (.l 5) (.l 3), none⟩, ⟨.mv (.l 4), none⟩] [(17, 5), (18, 7)])
 (.seq (.region [⟨.load true 5 (.t 17), none⟩, ⟨.mv (.t 18), none⟩, ⟨.call (.c (.fn f_i_FarthestOut [] [])) [(.l 0), (.l 1)], none⟩, ⟨.mv (.l 2), none⟩, ⟨.extract 0 (.l 3), none⟩, ⟨.extract 1 (.l 3), none⟩, ⟨.extract 2 (.l 3), none⟩, ⟨.mv (.l 4), none⟩, ⟨.mv (.l 5), none⟩, ⟨.mv (.l 6), none⟩] [(19, 7), (20, 8), (21, 9)])
 (.seq (.seq (.region [⟨.load true 5 (.t 17), none⟩, ⟨.mv (.t 18), none⟩, ⟨.call (.c (.fn f_s_FarthestOut [] [])) [(.l 0), (.l 1)], none⟩, ⟨.mv (.l 2), none⟩, ⟨.extract 0 (.l 3), none⟩, ⟨.extract 1 (.l 3), none⟩, ⟨.extract 2 (.l 3), none⟩, ⟨.mv (.l 4), none⟩, ⟨.mv (.l 5), none⟩, ⟨.mv (.l 6), none⟩] [(22, 7), (23, 8), (24, 9)])
 (.seq (.region [⟨.mv (.t 19), none⟩, ⟨.mv (.t 22), none⟩, ⟨.bin 0 .neq (.l 0) (.l 1), none⟩, ⟨.mv (.l 2), none⟩, ⟨.mv (.t 20), some ((.l 3), false)⟩, ⟨.mv (.t 23), some ((.l 3), false)⟩, ⟨.bin 0 .neq (.l 4) (.l 5), some ((.l 3), false)⟩, ⟨.pick (.l 3) (.c (.bool true)) (.l 6), none⟩, ⟨.mv (.l 7), none⟩, ⟨.mv (.t 21), some ((.l 8), false)⟩, ⟨.mv (.t 24), some ((.l 8), false)⟩, ⟨.bin 2 .neq (.l 9) (.l 10), some ((.l 8), false)⟩, ⟨.pick (.l 8) (.c (.bool true)) (.l 11), none⟩] [(34, 12)])
 (.cond (.t 34) (.seq (.region [⟨.mv (.c (.bool false)), none⟩] [(1, 0)])
 .ret) .skip)))
 (.seq (.seq (.region [⟨.mv (.t 21), none⟩] [(35, 0)])
 (.cond (.t 35) (.seq (.region [⟨.fieldAddr 3 (.t 17), none⟩, ⟨.load false 1 (.l 0), none⟩, ⟨.mv (.t 18), none⟩, ⟨.indexAddrS 2 (.l 1) (.l 2), none⟩, ⟨.fieldAddr 0 (.l 3), none⟩, ⟨.load false 1 (.l 4), none⟩, ⟨.mv (.l 5), none⟩] [(25, 6)])
 (.seq (.region [⟨.mv (.t 19), none⟩, ⟨.mv (.t 25), none⟩, ⟨.bin 0 .gtr (.l 0) (.l 1), none⟩, ⟨.mv (.l 2), none⟩, ⟨.mv (.t 20), some ((.l 3), false)⟩, ⟨.mv (.t 25), some ((.l 3), false)⟩, ⟨.bin 0 .lss (.l 4) (.l 5), some ((.l 3), false)⟩, ⟨.pick (.l 3) (.c (.bool true)) (.l 6), none⟩, ⟨.mv (.l 7), none⟩, ⟨.mv (.t 25), some ((.l 8), false)⟩, ⟨.mv (.t 19), some ((.l 8), false)⟩, ⟨.bin 0 .sub (.l 9) (.l 10), some ((.l 8), false)⟩, ⟨.fieldAddr 4 (.t 17), some ((.l 8), false)⟩, ⟨.load false 1 (.l 12), some ((.l 8), false)⟩, ⟨.bin 0 .rem (.l 11) (.l 13), some ((.l 8), false)⟩, ⟨.bin 0 .neq (.l 14) (.c (.int .i64 (0))), some ((.l 8), false)⟩, ⟨.pick (.l 8) (.c (.bool true)) (.l 15), none⟩, ⟨.mv (.l 16), none⟩, ⟨.mv (.t 20), some ((.l 17), false)⟩, ⟨.mv (.t 25), some ((.l 17), false)⟩, ⟨.bin 0 .sub (.l 18) (.l 19), some ((.l 17), false)⟩, ⟨.fieldAddr 4 (.t 17), some ((.l 17), false)⟩, ⟨.load false 1 (.l 21), some ((.l 17), false)⟩, ⟨.bin 0 .rem (.l 20) (.l 22), some ((.l 17), false)⟩, ⟨.bin 0 .neq (.l 23) (.c (.int .i64 (0))), some ((.l 17), false)⟩, ⟨.pick (.l 17) (.c (.bool true)) (.l 24), none⟩] [(36, 25)])
 (.cond (.t 36) (.seq (.region [⟨.mv (.c (.bool false)), none⟩] [(1, 0)])
 .ret) .skip))) .skip))
 (.seq (.seq (.region [⟨.mv (.t 13), none⟩] [(37, 0)])
 (.cond (.t 37) (.seq (.region [⟨.buildSlice 1 0 [] [], none⟩, ⟨.mv (.l 0), none⟩] [(26, 1)])
 (.seq (.seq (.region [⟨.mv (.c (.int .i64 (0))), none⟩] [(27, 0)])
 (.block 0 (.loop w_l_FnPlanks_1)))
 (.seq (.region [⟨.load true 5 (.t 2), none⟩, ⟨.mv (.t 26), none⟩, ⟨.call (.c (.fn f_i_StepsTo [] [])) [(.l 0), (.l 1)], none⟩, ⟨.mv (.l 2), none⟩, ⟨.extract 0 (.l 3), none⟩, ⟨.extract 1 (.l 3), none⟩, ⟨.mv (.l 4), none⟩, ⟨.mv (.l 5), none⟩] [(28, 6), (29, 7)])
 (.seq (.region [⟨.mv (.t 29), none⟩, ⟨.un .not (.l 0), none⟩, ⟨.mv (.l 1), none⟩, ⟨.mv (.t 28), some ((.l 2), false)⟩, ⟨.mv (.t 11), some ((.l 2), false)⟩, ⟨.bin 0 .neq (.l 3) (.l 4), some ((.l 2), false)⟩, ⟨.pick (.l 2) (.c (.bool true)) (.l 5), none⟩] [(39, 6)])
 (.cond (.t 39) (.seq (.region [⟨.mv (.c (.bool false)), none⟩] [(1, 0)])
 .ret) .skip))))) .skip))
 (.seq (.region [⟨.mv (.t 4), none⟩, ⟨.un .not (.l 0), none⟩, ⟨.mv (.l 1), none⟩, ⟨.mv (.t 3), some ((.l 2), false)⟩, ⟨.bin 0 .geq (.l 3) (.c (.int .i64 (1))), some ((.l 2), false)⟩, ⟨.mv (.l 4), some ((.l 2), false)⟩, ⟨.mv (.t 3), some ((.l 5), true)⟩, ⟨.mv (.t 7), some ((.l 5), true)⟩, ⟨.bin 0 .leq (.l 6) (.l 7), some ((.l 5), true)⟩, ⟨.pick (.l 5) (.l 8) (.c (.bool false)), some ((.l 2), false)⟩, ⟨.mv (.l 9), some ((.l 2), false)⟩, ⟨.fieldAddr 4 (.t 2), some ((.l 10), true)⟩, ⟨.load false 1 (.l 11), some ((.l 10), true)⟩, ⟨.bin 0 .gtr (.l 12) (.c (.int .i64 (1))), some ((.l 10), true)⟩, ⟨.mv (.l 13), some ((.l 10), true)⟩, ⟨.mv (.t 3), some ((.l 14), false)⟩, ⟨.mv (.t 7), some ((.l 14), false)⟩, ⟨.bin 0 .eql (.l 15) (.l 16), some ((.l 14), false)⟩, ⟨.pick (.l 14) (.c (.bool true)) (.l 17), some ((.l 10), true)⟩, ⟨.pick (.l 10) (.l 18) (.c (.bool false)), some ((.l 2), false)⟩, ⟨.pick (.l 2) (.c (.bool true)) (.l 19), none⟩, ⟨.mv (.l 20), none⟩] [(1, 21)])
 .ret)))))))))))))))
def a_l_FnPlanks : AFun := ⟨[0, 2, 3, 4, 5, 6, 7, 8, 9, 10, 11, 12, 13, 14, 15, 16, 17, 18, 19, 20, 21, 22, 23, 24, 25, 26, 27, 28, 29, 30, 32, 58, 81, 113, 145, 146, 178, 179, 185, 204], 226, c_l_FnPlanks, [.tmp 1], 1⟩
def w_l_FnParties_1 : ACode :=
 (.seq (.seq (.region [⟨.mv (.t 33), none⟩, ⟨.mv (.t 18), none⟩, ⟨.len (.l 1), none⟩, ⟨.bin 0 .lss (.l 0) (.l 2), none⟩] [(52, 3)])
 (.cond (.t 52) .skip (.exit 0)))
 (.seq (.block 1 (.draw [⟨.mv (.t 32), none, []⟩, ⟨.mv (.l 0), none, []⟩, ⟨.mv (.t 18), some ((.l 1), false), []⟩, ⟨.mv (.t 33), some ((.l 1), false), []⟩, ⟨.indexAddrS 2 (.l 2) (.l 3), some ((.l 1), false), []⟩, ⟨.load true 2 (.l 4), some ((.l 1), false), []⟩, ⟨.load true 2 (.t 13), some ((.l 1), false), []⟩, ⟨.eqCells [0, 0] false (.l 5) (.l 6), some ((.l 1), false), []⟩, ⟨.pick (.l 1) (.c (.bool true)) (.l 7), none, []⟩, ⟨.mv (.l 8), none, []⟩] [(32, 9)]))
 (.region [⟨.mv (.t 33), none⟩, ⟨.bin 0 .add (.l 0) (.c (.int .i64 (1))), none⟩, ⟨.mv (.l 1), none⟩] [(33, 2)])))
def w_l_FnParties_2 : ACode :=
 (.seq (.seq (.region [⟨.mv (.t 37), none⟩, ⟨.mv (.t 3), none⟩, ⟨.len (.l 1), none⟩, ⟨.bin 0 .lss (.l 0) (.l 2), none⟩] [(57, 3)])
 (.cond (.t 57) .skip (.exit 2)))
 (.seq (.block 3 (.seq (.draw [⟨.mv (.t 3), none, []⟩, ⟨.mv (.t 37), none, []⟩, ⟨.indexAddrS 1 (.l 0) (.l 1), none, []⟩, ⟨.load false 1 (.l 2), none, []⟩, ⟨.fieldAddr 3 (.t 2), none, []⟩, ⟨.load false 1 (.l 4), none, []⟩, ⟨.mv (.t 37), none, []⟩, ⟨.indexAddrS 2 (.l 5) (.l 6), none, []⟩, ⟨.fieldAddr 0 (.l 7), none, []⟩, ⟨.load false 1 (.l 8), none, []⟩, ⟨.bin 0 .gtr (.l 3) (.l 9), none, []⟩] [(58, 10)])
 (.cond (.t 58) (.draw [⟨.mv (.t 36), none, []⟩, ⟨.mv (.t 3), none, []⟩, ⟨.mv (.t 37), none, []⟩, ⟨.indexAddrS 1 (.l 1) (.l 2), none, []⟩, ⟨.load false 1 (.l 3), none, []⟩, ⟨.bin 0 .add (.l 0) (.l 4), none, []⟩, ⟨.fieldAddr 3 (.t 2), none, []⟩, ⟨.load false 1 (.l 6), none, []⟩, ⟨.mv (.t 37), none, []⟩, ⟨.indexAddrS 2 (.l 7) (.l 8), none, []⟩, ⟨.fieldAddr 0 (.l 9), none, []⟩, ⟨.load false 1 (.l 10), none, []⟩, ⟨.bin 0 .sub (.l 5) (.l 11), none, []⟩, ⟨.mv (.l 12), none, []⟩] [(36, 13)]) (.draw [⟨.mv (.t 36), none, []⟩, ⟨.fieldAddr 3 (.t 2), none, []⟩, ⟨.load false 1 (.l 1), none, []⟩, ⟨.mv (.t 37), none, []⟩, ⟨.indexAddrS 2 (.l 2) (.l 3), none, []⟩, ⟨.fieldAddr 0 (.l 4), none, []⟩, ⟨.load false 1 (.l 5), none, []⟩, ⟨.bin 0 .add (.l 0) (.l 6), none, []⟩, ⟨.mv (.t 3), none, []⟩, ⟨.mv (.t 37), none, []⟩, ⟨.indexAddrS 1 (.l 8) (.l 9), none, []⟩, ⟨.load false 1 (.l 10), none, []⟩, ⟨.bin 0 .sub (.l 7) (.l 11), none, []⟩, ⟨.mv (.l 12), none, []⟩] [(36, 13)]))))
 (.region [⟨.mv (.t 37), none⟩, ⟨.bin 0 .add (.l 0) (.c (.int .i64 (1))), none⟩, ⟨.mv (.l 1), none⟩] [(37, 2)])))
def w_l_FnParties_3 : ACode :=
 (.seq (.seq (.region [⟨.mv (.t 41), none⟩, ⟨.mv (.t 3), none⟩, ⟨.len (.l 1), none⟩, ⟨.bin 0 .lss (.l 0) (.l 2), none⟩] [(62, 3)])
 (.cond (.t 62) .skip (.exit 4)))
 (.seq (.block 5 (.seq (.seq (.draw [⟨.fieldAddr 3 (.t 38), none, []⟩, ⟨.load false 1 (.l 0), none, []⟩, ⟨.mv (.t 41), none, []⟩, ⟨.indexAddrS 2 (.l 1) (.l 2), none, []⟩, ⟨.fieldAddr 0 (.l 3), none, []⟩, ⟨.load false 1 (.l 4), none, []⟩, ⟨.mv (.t 3), none, []⟩, ⟨.mv (.t 41), none, []⟩, ⟨.indexAddrS 1 (.l 6) (.l 7), none, []⟩, ⟨.load false 1 (.l 8), none, []⟩, ⟨.bin 0 .neq (.l 5) (.l 9), none, []⟩] [(63, 10)])
 (.cond (.t 63) (.seq (.region [⟨.mv (.c (.bool false)), none⟩] [(1, 0)])
 .ret) .skip))
 (.region [⟨.mv (.t 40), none⟩, ⟨.fieldAddr 3 (.t 2), none⟩, ⟨.load false 1 (.l 1), none⟩, ⟨.mv (.t 41), none⟩, ⟨.indexAddrS 2 (.l 2) (.l 3), none⟩, ⟨.fieldAddr 0 (.l 4), none⟩, ⟨.load false 1 (.l 5), none⟩, ⟨.buildSlice 1 1 [.int .i64 (0)] [(0, 1, (.l 6))], none⟩, ⟨.append false 1 8 (.l 0) (.l 7), none⟩, ⟨.mv (.l 8), none⟩] [(40, 9)])))
 (.region [⟨.mv (.t 41), none⟩, ⟨.bin 0 .add (.l 0) (.c (.int .i64 (1))), none⟩, ⟨.mv (.l 1), none⟩] [(41, 2)])))
def c_l_FnParties : ACode :=
 (.seq (.region [⟨.mv (.c (.bool false)), none⟩] [(1, 0)])
 (.seq (.seq (.region [⟨.mv (.t 0), none⟩, ⟨.call (.c (.fn f_l_rBig [] [])) [(.l 0)], none⟩] [(44, 1)])
 (.cond (.t 44) (.seq (.region [⟨.mv (.c (.bool true)), none⟩] [(1, 0)])
 .ret) .skip))
 (.seq (.region [⟨.mv (.t 0), none⟩, ⟨.call (.c (.fn f_s_DrawFirstWalkTo [] [])) [(.l 0)], none⟩, ⟨.mv (.l 1), none⟩, ⟨.extract 0 (.l 2), none⟩, ⟨.extract 1 (.l 2), none⟩, ⟨.alloc [.int .i64 (0), .int .i64 (0), .int .i64 (0), .slice none 0 0 none, .int .i64 (0)], none⟩, ⟨.store 5 (.l 5) (.l 3), none⟩, ⟨.mv (.l 4), none⟩] [(2, 5), (3, 7)])
 (.seq (.region [⟨.load true 5 (.t 2), none⟩, ⟨.mv (.t 3), none⟩, ⟨.call (.c (.fn f_i_FirstWalkTo [] [])) [(.l 0), (.l 1)], none⟩, ⟨.mv (.l 2), none⟩, ⟨.extract 0 (.l 3), none⟩, ⟨.extract 1 (.l 3), none⟩, ⟨.mv (.l 4), none⟩, ⟨.mv (.l 5), none⟩] [(4, 6), (5, 7)])
 (.seq (.seq (.region [⟨.load true 5 (.t 2), none⟩, ⟨.mv (.t 3), none⟩, ⟨.call (.c (.fn f_s_FirstWalkTo [] [])) [(.l 0), (.l 1)], none⟩, ⟨.mv (.l 2), none⟩, ⟨.extract 0 (.l 3), none⟩, ⟨.extract 1 (.l 3), none⟩, ⟨.mv (.l 4), none⟩, ⟨.mv (.l 5), none⟩] [(6, 6), (7, 7)])
 (.seq (.region [⟨.mv (.t 5), none⟩, ⟨.mv (.t 7), none⟩, ⟨.bin 2 .neq (.l 0) (.l 1), none⟩, ⟨.mv (.l 2), none⟩, ⟨.mv (.t 4), some ((.l 3), false)⟩, ⟨.mv (.t 6), some ((.l 3), false)⟩, ⟨.call (.c (.fn f_l_rCells [] [])) [(.l 4), (.l 5)], some ((.l 3), false)⟩, ⟨.un .not (.l 6), some ((.l 3), false)⟩, ⟨.pick (.l 3) (.c (.bool true)) (.l 7), none⟩] [(45, 8)])
 (.cond (.t 45) (.seq (.region [⟨.mv (.c (.bool false)), none⟩] [(1, 0)])
 .ret) .skip)))
 (.seq (.region [⟨.load true 5 (.t 2), none⟩, ⟨.mv (.t 3), none⟩, ⟨.call (.c (.fn f_i_StepsTo [] [])) [(.l 0), (.l 1)], none⟩, ⟨.mv (.l 2), none⟩, ⟨.extract 0 (.l 3), none⟩, ⟨.extract 1 (.l 3), none⟩, ⟨.mv (.l 4), none⟩, ⟨.mv (.l 5), none⟩] [(8, 6), (9, 7)])
 (.seq (.seq (.region [⟨.load true 5 (.t 2), none⟩, ⟨.mv (.t 3), none⟩, ⟨.call (.c (.fn f_s_StepsTo [] [])) [(.l 0), (.l 1)], none⟩, ⟨.mv (.l 2), none⟩, ⟨.extract 0 (.l 3), none⟩, ⟨.extract 1 (.l 3), none⟩, ⟨.mv (.l 4), none⟩, ⟨.mv (.l 5), none⟩] [(10, 6), (11, 7)])
 (.seq (.region [⟨.mv (.t 8), none⟩, ⟨.mv (.t 10), none⟩, ⟨.bin 0 .neq (.l 0) (.l 1), none⟩, ⟨.mv (.l 2), none⟩, ⟨.mv (.t 9), some ((.l 3), false)⟩, ⟨.mv (.t 11), some ((.l 3), false)⟩, ⟨.bin 2 .neq (.l 4) (.l 5), some ((.l 3), false)⟩, ⟨.pick (.l 3) (.c (.bool true)) (.l 6), none⟩, ⟨.mv (.l 7), none⟩, ⟨.mv (.t 5), some ((.l 8), false)⟩, ⟨.mv (.l 9), some ((.l 8), false)⟩, ⟨.mv (.t 9), some ((.l 10), true)⟩, ⟨.un .not (.l 11), some ((.l 10), true)⟩, ⟨.pick (.l 10) (.l 12) (.c (.bool false)), some ((.l 8), false)⟩, ⟨.pick (.l 8) (.c (.bool true)) (.l 13), none⟩] [(46, 14)])
 (.cond (.t 46) (.seq (.region [⟨.mv (.c (.bool false)), none⟩] [(1, 0)])
 .ret) .skip)))
 (.seq (.region [⟨.mv (.t 0), none⟩, ⟨.call (.c (.fn f_s_DrawMoveOne [] [])) [(.l 0)], none⟩, ⟨.mv (.l 1), none⟩, ⟨.extract 0 (.l 2), none⟩, ⟨.extract 1 (.l 2), none⟩, ⟨.alloc [.int .i64 (0), .int .i64 (0), .int .i64 (0), .slice none 0 0 none, .int .i64 (0)], none⟩, ⟨.alloc [.int .i64 (0), .int .i64 (0)], none⟩, ⟨.store 5 (.l 5) (.l 3), none⟩, ⟨.store 2 (.l 6) (.l 4), none⟩] [(12, 5), (13, 6)])
 (.seq (.region [⟨.load true 5 (.t 12), none⟩, ⟨.load true 2 (.t 13), none⟩, ⟨.call (.c (.fn f_i_MoveOne [] [])) [(.l 0), (.l 1)], none⟩, ⟨.mv (.l 2), none⟩, ⟨.extract 0 (.l 3), none⟩, ⟨.extract 1 (.l 3), none⟩, ⟨.alloc [.int .i64 (0), .int .i64 (0), .int .i64 (0), .slice none 0 0 none, .int .i64 (0)], none⟩, ⟨.store 5 (.l 6) (.l 4), none⟩, ⟨.mv (.l 5), none⟩] [(14, 6), (15, 8)])
 (.seq (.seq (.region [⟨.load true 5 (.t 12), none⟩, ⟨.load true 2 (.t 13), none⟩, ⟨.call (.c (.fn f_s_MoveOne [] [])) [(.l 0), (.l 1)], none⟩, ⟨.mv (.l 2), none⟩, ⟨.extract 0 (.l 3), none⟩, ⟨.extract 1 (.l 3), none⟩, ⟨.alloc [.int .i64 (0), .int .i64 (0), .int .i64 (0), .slice none 0 0 none, .int .i64 (0)], none⟩, ⟨.store 5 (.l 6) (.l 4), none⟩, ⟨.mv (.l 5), none⟩] [(16, 6), (17, 8)])
 (.seq (.region [⟨.mv (.t 15), none⟩, ⟨.mv (.t 17), none⟩, ⟨.bin 2 .neq (.l 0) (.l 1), none⟩, ⟨.mv (.l 2), none⟩, ⟨.load true 5 (.t 14), some ((.l 3), false)⟩, ⟨.load true 5 (.t 16), some ((.l 3), false)⟩, ⟨.call (.c (.fn f_l_rParty [] [])) [(.l 4), (.l 5)], some ((.l 3), false)⟩, ⟨.un .not (.l 6), some ((.l 3), false)⟩, ⟨.pick (.l 3) (.c (.bool true)) (.l 7), none⟩] [(47, 8)])
 (.cond (.t 47) (.seq (.region [⟨.mv (.c (.bool false)), none⟩] [(1, 0)])
 .ret) .skip)))
 (.seq (.region [⟨.load true 5 (.t 12), none⟩, ⟨.call (.c (.fn f_i_SafeMoves [] [])) [(.l 0)], none⟩, ⟨.mv (.l 1), none⟩, ⟨.extract 0 (.l 2), none⟩, ⟨.extract 1 (.l 2), none⟩, ⟨.mv (.l 3), none⟩, ⟨.mv (.l 4), none⟩] [(18, 5), (19, 6)])
 (.seq (.seq (.region [⟨.load true 5 (.t 12), none⟩, ⟨.call (.c (.fn f_s_SafeMoves [] [])) [(.l 0)], none⟩, ⟨.mv (.l 1), none⟩, ⟨.extract 0 (.l 2), none⟩, ⟨.extract 1 (.l 2), none⟩, ⟨.mv (.l 3), none⟩, ⟨.mv (.l 4), none⟩] [(20, 5), (21, 6)])
 (.seq (.region [⟨.mv (.t 19), none⟩, ⟨.mv (.t 21), none⟩, ⟨.bin 2 .neq (.l 0) (.l 1), none⟩, ⟨.mv (.l 2), none⟩, ⟨.mv (.t 19), some ((.l 3), false)⟩, ⟨.load true 5 (.t 12), some ((.l 3), false)⟩, ⟨.call (.c (.fn f_i_IsParty [] [])) [(.l 5)], some ((.l 3), false)⟩, ⟨.bin 2 .neq (.l 4) (.l 6), some ((.l 3), false)⟩, ⟨.pick (.l 3) (.c (.bool true)) (.l 7), none⟩, ⟨.mv (.l 8), none⟩, ⟨.mv (.t 18), some ((.l 9), false)⟩, ⟨.mv (.t 20), some ((.l 9), false)⟩, ⟨.call (.c (.fn f_l_rCells [] [])) [(.l 10), (.l 11)], some ((.l 9), false)⟩, ⟨.un .not (.l 12), some ((.l 9), false)⟩, ⟨.pick (.l 9) (.c (.bool true)) (.l 13), none⟩] [(48, 14)])
 (.cond (.t 48) (.seq (.region [⟨.mv (.c (.bool false)), none⟩] [(1, 0)])
 .ret) .skip)))
 (.seq (.region [⟨.mv (.t 0), none⟩, ⟨.call (.c (.fn f_s_DrawWalkTo [] [])) [(.l 0)], none⟩, ⟨.mv (.l 1), none⟩, ⟨.extract 0 (.l 2), none⟩, ⟨.extract 1 (.l 2), none⟩, ⟨.alloc [.int .i64 (0), .int .i64 (0), .int .i64 (0), .slice none 0 0 none, .int .i64 (0)], none⟩, ⟨.store 5 (.l 5) (.l 3), none⟩, ⟨.mv (.l 4), none⟩] [(22, 5), (23, 7)])
 (.seq (.region [⟨.load true 5 (.t 22), none⟩, ⟨.mv (.t 23), none⟩, ⟨.call (.c (.fn f_i_WalkTo [] [])) [(.l 0), (.l 1)], none⟩, ⟨.mv (.l 2), none⟩, ⟨.extract 0 (.l 3), none⟩, ⟨.extract 1 (.l 3), none⟩, ⟨.alloc [.int .i64 (0), .int .i64 (0), .int .i64 (0), .slice none 0 0 none, .int .i64 (0)], none⟩, ⟨.store 5 (.l 6) (.l 4), none⟩, ⟨.mv (.l 5), none⟩] [(24, 6), (25, 8)])
 (.seq (.seq (.region [⟨.load true 5 (.t 22), none⟩, ⟨.mv (.t 23), none⟩, ⟨.call (.c (.fn f_s_WalkTo [] [])) [(.l 0), (.l 1)], none⟩, ⟨.mv (.l 2), none⟩, ⟨.extract 0 (.l 3), none⟩, ⟨.extract 1 (.l 3), none⟩, ⟨.alloc [.int .i64 (0), .int .i64 (0), .int .i64 (0), .slice none 0 0 none, .int .i64 (0)], none⟩, ⟨.store 5 (.l 6) (.l 4), none⟩, ⟨.mv (.l 5), none⟩] [(26, 6), (27, 8)])
 (.seq (.region [⟨.mv (.t 25), none⟩, ⟨.mv (.t 27), none⟩, ⟨.bin 2 .neq (.l 0) (.l 1), none⟩, ⟨.mv (.l 2), none⟩, ⟨.load true 5 (.t 24), some ((.l 3), false)⟩, ⟨.load true 5 (.t 26), some ((.l 3), false)⟩, ⟨.call (.c (.fn f_l_rParty [] [])) [(.l 4), (.l 5)], some ((.l 3), false)⟩, ⟨.un .not (.l 6), some ((.l 3), false)⟩, ⟨.pick (.l 3) (.c (.bool true)) (.l 7), none⟩] [(49, 8)])
 (.cond (.t 49) (.seq (.region [⟨.mv (.c (.bool false)), none⟩] [(1, 0)])
 .ret) .skip)))
 (.seq (.region [⟨.load true 5 (.t 22), none⟩, ⟨.mv (.t 23), none⟩, ⟨.call (.c (.fn f_i_IsWalkOn [] [])) [(.l 0), (.l 1)], none⟩, ⟨.mv (.l 2), none⟩, ⟨.extract 0 (.l 3), none⟩, ⟨.extract 1 (.l 3), none⟩, ⟨.mv (.l 4), none⟩, ⟨.mv (.l 5), none⟩] [(28, 6), (29, 7)])
 (.seq (.seq (.region [⟨.load true 5 (.t 22), none⟩, ⟨.mv (.t 23), none⟩, ⟨.call (.c (.fn f_s_IsWalkOn [] [])) [(.l 0), (.l 1)], none⟩, ⟨.mv (.l 2), none⟩, ⟨.extract 0 (.l 3), none⟩, ⟨.extract 1 (.l 3), none⟩, ⟨.mv (.l 4), none⟩, ⟨.mv (.l 5), none⟩] [(30, 6), (31, 7)])
 (.seq (.region [⟨.mv (.t 28), none⟩, ⟨.mv (.t 30), none⟩, ⟨.bin 2 .neq (.l 0) (.l 1), none⟩, ⟨.mv (.l 2), none⟩, ⟨.mv (.t 29), some ((.l 3), false)⟩, ⟨.mv (.t 31), some ((.l 3), false)⟩, ⟨.bin 2 .neq (.l 4) (.l 5), some ((.l 3), false)⟩, ⟨.pick (.l 3) (.c (.bool true)) (.l 6), none⟩, ⟨.mv (.l 7), none⟩, ⟨.mv (.t 25), some ((.l 8), false)⟩, ⟨.mv (.t 29), some ((.l 8), false)⟩, ⟨.mv (.l 10), some ((.l 8), false)⟩, ⟨.mv (.t 28), some ((.l 11), true)⟩, ⟨.pick (.l 11) (.l 12) (.c (.bool false)), some ((.l 8), false)⟩, ⟨.bin 2 .neq (.l 9) (.l 13), some ((.l 8), false)⟩, ⟨.pick (.l 8) (.c (.bool true)) (.l 14), none⟩] [(50, 15)])
 (.cond (.t 50) (.seq (.region [⟨.mv (.c (.bool false)), none⟩] [(1, 0)])
 .ret) .skip)))
 (.seq (.seq (.region [⟨.mv (.t 19), none⟩] [(51, 0)])
 (.cond (.t 51) (.seq (.region [⟨.mv (.c (.bool false)), none⟩] [(32, 0)])
 (.seq (.seq (.region [⟨.mv (.c (.int .i64 (0))), none⟩] [(33, 0)])
 (.block 0 (.loop w_l_FnParties_1)))
 (.seq (.region [⟨.mv (.t 32), none⟩, ⟨.mv (.t 15), none⟩, ⟨.bin 2 .neq (.l 0) (.l 1), none⟩] [(53, 2)])
 (.cond (.t 53) (.seq (.region [⟨.mv (.c (.bool false)), none⟩] [(1, 0)])
 .ret) .skip)))) .skip))
 (.seq (.seq (.region [⟨.mv (.t 15), none⟩] [(54, 0)])
 (.cond (.t 54) (.seq (.draw [⟨.load true 5 (.t 14), none, []⟩, ⟨.indexAddrA 2 1 (.t 13) (.c (.int .i64 (0))), none, []⟩, ⟨.load false 1 (.l 1), none, []⟩, ⟨.fieldAddr 3 (.t 12), none, []⟩, ⟨.load false 1 (.l 3), none, []⟩, ⟨.indexAddrA 2 1 (.t 13) (.c (.int .i64 (0))), none, []⟩, ⟨.load false 1 (.l 5), none, []⟩, ⟨.indexAddrS 2 (.l 4) (.l 6), none, []⟩, ⟨.fieldAddr 0 (.l 7), none, []⟩, ⟨.load false 1 (.l 8), none, []⟩, ⟨.build [.int .i64 (0), .int .i64 (0)] [(0, 1, (.l 2)), (1, 1, (.l 9))], none, []⟩, ⟨.call (.c (.fn f_i_MoveOne [] [])) [(.l 0), (.l 10)], none, []⟩, ⟨.mv (.l 11), none, []⟩, ⟨.extract 0 (.l 12), none, []⟩, ⟨.extract 1 (.l 12), none, []⟩, ⟨.alloc [.int .i64 (0), .int .i64 (0), .int .i64 (0), .slice none 0 0 none, .int .i64 (0)], none, [(0, ⟨.load true 5 (.t 14), none⟩), (2, ⟨.load false 1 (.l 1), none⟩), (4, ⟨.load false 1 (.l 3), none⟩), (6, ⟨.load false 1 (.l 5), none⟩), (9, ⟨.load false 1 (.l 8), none⟩)]⟩, ⟨.store 5 (.l 15) (.l 13), none, []⟩, ⟨.mv (.l 14), none, []⟩] [(34, 15), (35, 17)])
 (.seq (.region [⟨.mv (.t 35), none⟩, ⟨.un .not (.l 0), none⟩, ⟨.mv (.l 1), none⟩, ⟨.load true 5 (.t 34), some ((.l 2), false)⟩, ⟨.load true 5 (.t 12), some ((.l 2), false)⟩, ⟨.call (.c (.fn f_l_rParty [] [])) [(.l 3), (.l 4)], some ((.l 2), false)⟩, ⟨.un .not (.l 5), some ((.l 2), false)⟩, ⟨.pick (.l 2) (.c (.bool true)) (.l 6), none⟩] [(55, 7)])
 (.cond (.t 55) (.seq (.region [⟨.mv (.c (.bool false)), none⟩] [(1, 0)])
 .ret) .skip))) .skip))
 (.seq (.seq (.region [⟨.mv (.t 9), none⟩, ⟨.mv (.l 0), none⟩, ⟨.fieldAddr 4 (.t 2), some ((.l 1), true)⟩, ⟨.load false 1 (.l 2), some ((.l 1), true)⟩, ⟨.bin 0 .eql (.l 3) (.c (.int .i64 (1))), some ((.l 1), true)⟩, ⟨.pick (.l 1) (.l 4) (.c (.bool false)), none⟩] [(56, 5)])
 (.cond (.t 56) (.seq (.region [⟨.mv (.c (.int .i64 (0))), none⟩] [(36, 0)])
 (.seq (.seq (.region [⟨.mv (.c (.int .i64 (0))), none⟩] [(37, 0)])
 (.block 2 (.loop w_l_FnParties_2)))
 (.seq (.region [⟨.mv (.t 36), none⟩, ⟨.mv (.t 8), none⟩, ⟨.bin 0 .neq (.l 0) (.l 1), none⟩] [(59, 2)])
 (.cond (.t 59) (.seq (.region [⟨.mv (.c (.bool false)), none⟩] [(1, 0)])
 .ret) .skip)))) .skip))
 (.seq (.seq (.region [⟨.mv (.t 5), none⟩, ⟨.un .not (.l 0), none⟩] [(60, 1)])
 (.cond (.t 60) (.seq (.region [⟨.mv (.c (.bool true)), none⟩] [(1, 0)])
 .ret) .skip))
 (.seq (.region [⟨.load true 5 (.t 2), none⟩, ⟨.mv (.t 4), none⟩, ⟨.call (.c (.fn f_i_WalkTo [] [])) [(.l 0), (.l 1)], none⟩, ⟨.mv (.l 2), none⟩, ⟨.extract 0 (.l 3), none⟩, ⟨.extract 1 (.l 3), none⟩, ⟨.alloc [.int .i64 (0), .int .i64 (0), .int .i64 (0), .slice none 0 0 none, .int .i64 (0)], none⟩, ⟨.store 5 (.l 6) (.l 4), none⟩, ⟨.mv (.l 5), none⟩] [(38, 6), (39, 8)])
 (.seq (.seq (.region [⟨.mv (.t 39), none⟩, ⟨.un .not (.l 0), none⟩, ⟨.mv (.l 1), none⟩, ⟨.mv (.t 4), some ((.l 2), false)⟩, ⟨.len (.l 3), some ((.l 2), false)⟩, ⟨.mv (.t 8), some ((.l 2), false)⟩, ⟨.bin 0 .neq (.l 4) (.l 5), some ((.l 2), false)⟩, ⟨.pick (.l 2) (.c (.bool true)) (.l 6), none⟩, ⟨.mv (.l 7), none⟩, ⟨.fieldAddr 3 (.t 38), some ((.l 8), false)⟩, ⟨.load false 1 (.l 9), some ((.l 8), false)⟩, ⟨.len (.l 10), some ((.l 8), false)⟩, ⟨.mv (.t 3), some ((.l 8), false)⟩, ⟨.len (.l 12), some ((.l 8), false)⟩, ⟨.bin 0 .neq (.l 11) (.l 13), some ((.l 8), false)⟩, ⟨.pick (.l 8) (.c (.bool true)) (.l 14), none⟩] [(61, 15)])
 (.cond (.t 61) (.seq (.region [⟨.mv (.c (.bool false)), none⟩] [(1, 0)])
 .ret) .skip))
 (.seq (.region [⟨.buildSlice 1 0 [] [], none⟩, ⟨.mv (.l 0), none⟩] [(40, 1)])
 (.seq (.seq (.region [⟨.mv (.c (.int .i64 (0))), none⟩] [(41, 0)])
 (.block 4 (.loop w_l_FnParties_3)))
 (.seq (.region [⟨.load true 5 (.t 38), none⟩, ⟨.mv (.t 40), none⟩, ⟨.call (.c (.fn f_i_StepsTo [] [])) [(.l 0), (.l 1)], none⟩, ⟨.mv (.l 2), none⟩, ⟨.extract 0 (.l 3), none⟩, ⟨.extract 1 (.l 3), none⟩, ⟨.mv (.l 4), none⟩, ⟨.mv (.l 5), none⟩] [(42, 6), (43, 7)])
 (.seq (.region [⟨.mv (.t 43), none⟩, ⟨.mv (.l 0), none⟩, ⟨.mv (.t 42), some ((.l 1), true)⟩, ⟨.mv (.t 8), some ((.l 1), true)⟩, ⟨.bin 0 .eql (.l 2) (.l 3), some ((.l 1), true)⟩, ⟨.pick (.l 1) (.l 4) (.c (.bool false)), none⟩, ⟨.mv (.l 5), none⟩] [(1, 6)])
 .ret)))))))))))))))))))))))))))
def a_l_FnParties : AFun := ⟨[0, 2, 3, 4, 5, 6, 7, 8, 9, 10, 11, 12, 13, 14, 15, 16, 17, 18, 19, 20, 21, 22, 23, 24, 25, 26, 27, 28, 29, 30, 31, 32, 33, 34, 35, 36, 37, 38, 39, 40, 41, 42, 43, 44, 46, 72, 99, 125, 150, 176, 204, 205, 209, 223, 224, 247, 253, 257, 270, 299, 301, 323, 328, 341], 363, c_l_FnParties, [.tmp 1], 1⟩
def c_l_szParty : ACode :=
 (.seq (.region [⟨.box (.t 0), none⟩, ⟨.mv (.c (.int .i64 (0))), none⟩] [(2, 0), (3, 1)])
 (.seq (.region [⟨.fieldAddr 3 (.t 2), none⟩, ⟨.load false 1 (.l 0), none⟩, ⟨.mv (.t 1), none⟩, ⟨.call (.c (.fn f_l_szLoadS [] [])) [(.l 1), (.l 2)], none⟩, ⟨.mv (.l 3), none⟩] [(1, 4)])
 (.seq (.seq (.region [⟨.mv (.t 1), none⟩, ⟨.bin 0 .lss (.l 0) (.c (.int .i64 (0))), none⟩] [(4, 1)])
 (.cond (.t 4) (.seq (.region [⟨.mv (.c (.int .i64 (-1))), none⟩] [(3, 0)])
 .ret) .skip))
 (.seq (.region [⟨.mv (.t 1), none⟩, ⟨.mv (.l 0), none⟩] [(3, 1)])
 .ret))))
def a_l_szParty : AFun := ⟨[0, 1, 2, 4, 10], 12, c_l_szParty, [.tmp 3], 1⟩
def c_s_IsParty : ACode :=
 (.seq (.region [⟨.box (.t 0), none⟩, ⟨.mv (.c (.bool false)), none⟩] [(1, 0), (2, 1)])
 (.seq (.region [⟨.load true 5 (.t 1), none⟩, ⟨.call (.c (.fn f_s_l11Party [] [])) [(.l 0)], none⟩, ⟨.mv (.l 1), none⟩] [(2, 2)])
 .ret))
def a_s_IsParty : AFun := ⟨[0, 1, 2], 5, c_s_IsParty, [.tmp 2], 1⟩
def c_l_toParty : ACode :=
 (.seq (.region [⟨.box (.t 0), none⟩, ⟨.alloc [.int .i64 (0), .int .i64 (0), .int .i64 (0), .slice none 0 0 none, .int .i64 (0)], none⟩] [(1, 0), (2, 1)])
 (.seq (.region [⟨.alloc [.int .i64 (0), .int .i64 (0), .int .i64 (0), .slice none 0 0 none, .int .i64 (0)], none⟩] [(3, 0)])
 (.seq (.region [⟨.fieldAddr 0 (.t 1), none⟩, ⟨.load true 3 (.l 0), none⟩, ⟨.call (.c (.fn f_l_toBeam [] [])) [(.l 1)], none⟩, ⟨.fieldAddr 0 (.t 3), none⟩, ⟨.store 3 (.l 3) (.l 2), none⟩] [])
 (.seq (.region [⟨.fieldAddr 3 (.t 1), none⟩, ⟨.load false 1 (.l 0), none⟩, ⟨.call (.c (.fn f_l_toLoadS [] [])) [(.l 1)], none⟩, ⟨.fieldAddr 3 (.t 3), none⟩, ⟨.store 1 (.l 3) (.l 2), none⟩] [])
 (.seq (.region [⟨.fieldAddr 4 (.t 1), none⟩, ⟨.load false 1 (.l 0), none⟩, ⟨.fieldAddr 4 (.t 3), none⟩, ⟨.store 1 (.l 2) (.l 1), none⟩] [])
 (.seq (.region [⟨.load true 5 (.t 3), none⟩, ⟨.store 5 (.t 2) (.l 0), none⟩] [])
 .ret))))))
def a_l_toParty : AFun := ⟨[0, 1, 2, 3], 16, c_l_toParty, [.cell 2 true 5], 2⟩
def c_i_IsParty : ACode :=
 (.seq (.region [⟨.box (.t 0), none⟩, ⟨.mv (.c (.bool false)), none⟩] [(1, 0), (2, 1)])
 (.seq (.region [⟨.fieldAddr 0 (.t 1), none⟩, ⟨.load true 3 (.l 0), none⟩, ⟨.fieldAddr 3 (.t 1), none⟩, ⟨.load false 1 (.l 2), none⟩, ⟨.call (.c (.fn f_i_isOn [] [])) [(.l 1), (.l 3)], none⟩, ⟨.mv (.l 4), none⟩, ⟨.fieldAddr 0 (.t 1), some ((.l 5), true)⟩, ⟨.fieldAddr 0 (.l 6), some ((.l 5), true)⟩, ⟨.load false 1 (.l 7), some ((.l 5), true)⟩, ⟨.bin 0 .leq (.l 8) (.c (.int .i64 (12))), some ((.l 5), true)⟩, ⟨.pick (.l 5) (.l 9) (.c (.bool false)), none⟩, ⟨.mv (.l 10), none⟩, ⟨.fieldAddr 3 (.t 1), some ((.l 11), true)⟩, ⟨.load false 1 (.l 12), some ((.l 11), true)⟩, ⟨.len (.l 13), some ((.l 11), true)⟩, ⟨.call (.c (.fn f_i_within [] [])) [(.l 14), (.c (.int .i64 (1))), (.c (.int .i64 (3)))], some ((.l 11), true)⟩, ⟨.pick (.l 11) (.l 15) (.c (.bool false)), none⟩, ⟨.mv (.l 16), none⟩, ⟨.fieldAddr 0 (.t 1), some ((.l 17), true)⟩, ⟨.load true 3 (.l 18), some ((.l 17), true)⟩, ⟨.fieldAddr 3 (.t 1), some ((.l 17), true)⟩, ⟨.load false 1 (.l 20), some ((.l 17), true)⟩, ⟨.call (.c (.fn f_i_Beam_rests [] [])) [(.l 19), (.l 21)], some ((.l 17), true)⟩, ⟨.pick (.l 17) (.l 22) (.c (.bool false)), none⟩, ⟨.mv (.l 23), none⟩, ⟨.fieldAddr 4 (.t 1), some ((.l 24), true)⟩, ⟨.load false 1 (.l 25), some ((.l 24), true)⟩, ⟨.call (.c (.fn f_i_within [] [])) [(.l 26), (.c (.int .i64 (1))), (.c (.int .i64 (4)))], some ((.l 24), true)⟩, ⟨.pick (.l 24) (.l 27) (.c (.bool false)), none⟩, ⟨.mv (.l 28), none⟩] [(2, 29)])
 .ret))
def a_i_IsParty : AFun := ⟨[0, 1, 2], 32, c_i_IsParty, [.tmp 2], 1⟩
def c_l_eqParty : ACode :=
 (.seq (.region [⟨.box (.t 0), none⟩, ⟨.box (.t 1), none⟩, ⟨.mv (.c (.bool false)), none⟩] [(2, 0), (3, 1), (4, 2)])
 (.seq (.seq (.region [⟨.fieldAddr 0 (.t 2), none⟩, ⟨.load true 3 (.l 0), none⟩, ⟨.fieldAddr 0 (.t 3), none⟩, ⟨.load true 3 (.l 2), none⟩, ⟨.call (.c (.fn f_l_eqBeam [] [])) [(.l 1), (.l 3)], none⟩, ⟨.un .not (.l 4), none⟩] [(5, 5)])
 (.cond (.t 5) (.seq (.region [⟨.mv (.c (.bool false)), none⟩] [(4, 0)])
 .ret) .skip))
 (.seq (.seq (.region [⟨.fieldAddr 3 (.t 2), none⟩, ⟨.load false 1 (.l 0), none⟩, ⟨.fieldAddr 3 (.t 3), none⟩, ⟨.load false 1 (.l 2), none⟩, ⟨.call (.c (.fn f_l_eqLoadS [] [])) [(.l 1), (.l 3)], none⟩, ⟨.un .not (.l 4), none⟩] [(6, 5)])
 (.cond (.t 6) (.seq (.region [⟨.mv (.c (.bool false)), none⟩] [(4, 0)])
 .ret) .skip))
 (.seq (.seq (.region [⟨.fieldAddr 4 (.t 2), none⟩, ⟨.load false 1 (.l 0), none⟩, ⟨.fieldAddr 4 (.t 3), none⟩, ⟨.load false 1 (.l 2), none⟩, ⟨.bin 0 .neq (.l 1) (.l 3), none⟩] [(7, 4)])
 (.cond (.t 7) (.seq (.region [⟨.mv (.c (.bool false)), none⟩] [(4, 0)])
 .ret) .skip))
 (.seq (.region [⟨.mv (.c (.bool true)), none⟩] [(4, 0)])
 .ret)))))
def a_l_eqParty : AFun := ⟨[0, 1, 2, 3, 4, 10, 16, 21], 22, c_l_eqParty, [.tmp 4], 1⟩
def w_s_RestingPlaces_1 : ACode :=
 (.seq (.seq (.region [⟨.mv (.t 5), none⟩, ⟨.load true 5 (.t 1), none⟩, ⟨.call (.c (.fn f_s_l11Size [] [])) [(.l 1)], none⟩, ⟨.bin 0 .lss (.l 0) (.l 2), none⟩] [(7, 3)])
 (.cond (.t 7) .skip (.exit 0)))
 (.seq (.block 1 (.seq (.region [⟨.load true 5 (.t 1), none⟩, ⟨.mv (.t 5), none⟩, ⟨.call (.c (.fn f_s_l11At [] [])) [(.l 0), (.l 1)], none⟩, ⟨.call (.c (.fn f_s_l11Rests [] [])) [(.l 2)], none⟩] [(8, 3)])
 (.cond (.t 8) (.region [⟨.mv (.t 4), none⟩, ⟨.bin 0 .add (.l 0) (.c (.int .i64 (1))), none⟩, ⟨.mv (.l 1), none⟩] [(4, 2)]) .skip)))
 (.region [⟨.mv (.t 5), none⟩, ⟨.bin 0 .add (.l 0) (.c (.int .i64 (1))), none⟩, ⟨.mv (.l 1), none⟩] [(5, 2)])))
def c_s_RestingPlaces : ACode :=
 (.seq (.region [⟨.box (.t 0), none⟩, ⟨.mv (.c (.int .i64 (0))), none⟩, ⟨.mv (.c (.bool false)), none⟩] [(1, 0), (2, 1), (3, 2)])
 (.seq (.seq (.region [⟨.load true 5 (.t 1), none⟩, ⟨.call (.c (.fn f_s_l11Party [] [])) [(.l 0)], none⟩, ⟨.un .not (.l 1), none⟩] [(6, 2)])
 (.cond (.t 6) (.seq (.region [⟨.mv (.c (.int .i64 (0))), none⟩, ⟨.mv (.c (.bool false)), none⟩] [(2, 0), (3, 1)])
 .ret) .skip))
 (.seq (.region [⟨.mv (.c (.int .i64 (0))), none⟩] [(4, 0)])
 (.seq (.seq (.region [⟨.mv (.c (.int .i64 (0))), none⟩] [(5, 0)])
 (.block 0 (.loop w_s_RestingPlaces_1)))
 (.seq (.region [⟨.mv (.t 4), none⟩, ⟨.mv (.l 0), none⟩, ⟨.mv (.c (.bool true)), none⟩] [(2, 1), (3, 2)])
 .ret)))))
def a_s_RestingPlaces : AFun := ⟨[0, 1, 2, 3, 4, 5, 8, 12, 18], 22, c_s_RestingPlaces, [.tmp 2, .tmp 3], 1⟩
def w_i_RestingPlaces_1 : ACode :=
 (.seq (.region [⟨.bin 0 .lss (.t 11) (.t 10), none⟩] [(12, 0)])
 (.seq (.cond (.t 12) .skip (.exit 0))
 (.seq (.block 1 (.region [⟨.mv (.t 5), none⟩, ⟨.fieldAddr 0 (.t 1), none⟩, ⟨.fieldAddr 0 (.l 1), none⟩, ⟨.load false 1 (.l 2), none⟩, ⟨.bin 0 .add (.l 3) (.c (.int .i64 (1))), none⟩, ⟨.bin 0 .mul (.l 0) (.l 4), none⟩, ⟨.mv (.l 5), none⟩] [(5, 6)]))
 (.region [⟨.bin 0 .add (.t 11) (.c (.int .i64 (1))), none⟩, ⟨.mv (.l 0), none⟩] [(11, 1)]))))
def w_i_RestingPlaces_2 : ACode :=
 (.seq (.region [⟨.bin 0 .lss (.t 17) (.t 16), none⟩] [(18, 0)])
 (.seq (.cond (.t 18) .skip (.exit 4))
 (.seq (.block 5 (.seq (.region [⟨.mv (.t 17), none⟩, ⟨.mv (.l 0), none⟩] [(8, 1)])
 (.seq (.region [⟨.mv (.t 8), none⟩, ⟨.mv (.t 6), none⟩, ⟨.fieldAddr 0 (.t 1), none⟩, ⟨.fieldAddr 0 (.l 2), none⟩, ⟨.load false 1 (.l 3), none⟩, ⟨.bin 0 .add (.l 4) (.c (.int .i64 (1))), none⟩, ⟨.bin 0 .rem (.l 1) (.l 5), none⟩, ⟨.indexAddrA 3 1 (.t 7) (.l 0), none⟩, ⟨.store 1 (.l 7) (.l 6), none⟩] [])
 (.region [⟨.mv (.t 6), none⟩, ⟨.fieldAddr 0 (.t 1), none⟩, ⟨.fieldAddr 0 (.l 1), none⟩, ⟨.load false 1 (.l 2), none⟩, ⟨.bin 0 .add (.l 3) (.c (.int .i64 (1))), none⟩, ⟨.bin 0 .quo (.l 0) (.l 4), none⟩, ⟨.mv (.l 5), none⟩] [(6, 6)]))))
 (.region [⟨.bin 0 .add (.t 17) (.c (.int .i64 (1))), none⟩, ⟨.mv (.l 0), none⟩] [(17, 1)]))))
def w_i_RestingPlaces_3 : ACode :=
 (.seq (.region [⟨.bin 0 .lss (.t 14) (.t 13), none⟩] [(15, 0)])
 (.seq (.cond (.t 15) .skip (.exit 2))
 (.seq (.block 3 (.seq (.region [⟨.mv (.t 14), none⟩, ⟨.mv (.l 0), none⟩] [(6, 1)])
 (.seq (.region [⟨.build [.int .i64 (0), .int .i64 (0), .int .i64 (0)] [], none⟩, ⟨.alloc [.int .i64 (0), .int .i64 (0), .int .i64 (0)], none⟩, ⟨.store 3 (.l 1) (.l 0), none⟩] [(7, 1)])
 (.seq (.seq (.region [⟨.fieldAddr 3 (.t 1), none⟩, ⟨.load false 1 (.l 0), none⟩, ⟨.len (.l 1), none⟩, ⟨.mv (.c (.int .i64 (0))), none⟩] [(16, 2), (17, 3)])
 (.block 4 (.loop w_i_RestingPlaces_2)))
 (.seq (.region [⟨.load true 5 (.t 1), none⟩, ⟨.load true 3 (.t 7), none⟩, ⟨.call (.c (.fn f_i_Party_rests [] [])) [(.l 0), (.l 1)], none⟩] [(19, 2)])
 (.cond (.t 19) (.region [⟨.mv (.t 4), none⟩, ⟨.bin 0 .add (.l 0) (.c (.int .i64 (1))), none⟩, ⟨.mv (.l 1), none⟩] [(4, 2)]) .skip))))))
 (.region [⟨.bin 0 .add (.t 14) (.c (.int .i64 (1))), none⟩, ⟨.mv (.l 0), none⟩] [(14, 1)]))))
def c_i_RestingPlaces : ACode :=
 (.seq (.region [⟨.box (.t 0), none⟩, ⟨.mv (.c (.int .i64 (0))), none⟩, ⟨.mv (.c (.bool false)), none⟩] [(1, 0), (2, 1), (3, 2)])
 (.seq (.seq (.region [⟨.load true 5 (.t 1), none⟩, ⟨.call (.c (.fn f_i_IsParty [] [])) [(.l 0)], none⟩, ⟨.un .not (.l 1), none⟩] [(9, 2)])
 (.cond (.t 9) (.seq (.region [⟨.mv (.c (.int .i64 (0))), none⟩, ⟨.mv (.c (.bool false)), none⟩] [(2, 0), (3, 1)])
 .ret) .skip))
 (.seq (.region [⟨.mv (.c (.int .i64 (0))), none⟩, ⟨.mv (.c (.int .i64 (1))), none⟩] [(4, 0), (5, 1)])
 (.seq (.seq (.region [⟨.fieldAddr 3 (.t 1), none⟩, ⟨.load false 1 (.l 0), none⟩, ⟨.len (.l 1), none⟩, ⟨.mv (.c (.int .i64 (0))), none⟩] [(10, 2), (11, 3)])
 (.block 0 (.loop w_i_RestingPlaces_1)))
 (.seq (.seq (.region [⟨.mv (.t 5), none⟩, ⟨.mv (.c (.int .i64 (0))), none⟩] [(13, 0), (14, 1)])
 (.block 2 (.loop w_i_RestingPlaces_3)))
 (.seq (.region [⟨.mv (.t 4), none⟩, ⟨.mv (.l 0), none⟩, ⟨.mv (.c (.bool true)), none⟩] [(2, 1), (3, 2)])
 .ret))))))
def a_i_RestingPlaces : AFun := ⟨[0, 1, 2, 3, 4, 5, 6, 7, 8, 11, 14, 15, 16, 24, 25, 26, 31, 32, 33, 52], 57, c_i_RestingPlaces, [.tmp 2, .tmp 3], 1⟩
def c_s_SafeMoves : ACode :=
 (.seq (.region [⟨.box (.t 0), none⟩, ⟨.mv (.c (.slice none 0 0 none)), none⟩, ⟨.mv (.c (.bool false)), none⟩] [(1, 0), (2, 1), (3, 2)])
 (.seq (.seq (.region [⟨.load true 5 (.t 1), none⟩, ⟨.call (.c (.fn f_s_l11Party [] [])) [(.l 0)], none⟩, ⟨.un .not (.l 1), none⟩] [(4, 2)])
 (.cond (.t 4) (.seq (.region [⟨.buildSlice 2 0 [] [], none⟩, ⟨.mv (.l 0), none⟩, ⟨.mv (.c (.bool false)), none⟩] [(2, 1), (3, 2)])
 .ret) .skip))
 (.seq (.region [⟨.load true 5 (.t 1), none⟩, ⟨.call (.c (.fn f_s_l11Moves [] [])) [(.l 0)], none⟩, ⟨.mv (.l 1), none⟩, ⟨.mv (.c (.bool true)), none⟩] [(2, 2), (3, 3)])
 .ret)))
def a_s_SafeMoves : AFun := ⟨[0, 1, 2, 3, 6], 10, c_s_SafeMoves, [.tmp 2, .tmp 3], 2⟩
def c_i_SafeMoves : ACode :=
 (.seq (.region [⟨.box (.t 0), none⟩, ⟨.mv (.c (.slice none 0 0 none)), none⟩, ⟨.mv (.c (.bool false)), none⟩] [(1, 0), (2, 1), (3, 2)])
 (.seq (.seq (.region [⟨.load true 5 (.t 1), none⟩, ⟨.call (.c (.fn f_i_IsParty [] [])) [(.l 0)], none⟩, ⟨.un .not (.l 1), none⟩] [(4, 2)])
 (.cond (.t 4) (.seq (.region [⟨.mv (.c (.slice none 0 0 none)), none⟩, ⟨.mv (.c (.bool false)), none⟩] [(2, 0), (3, 1)])
 .ret) .skip))
 (.seq (.draw [⟨.load true 5 (.t 1), none, []⟩, ⟨.load true 5 (.t 1), none, []⟩, ⟨.call (.c (.fn f_i_Party_spots [] [])) [(.l 1)], none, [(0, ⟨.load true 5 (.t 1), none⟩)]⟩, ⟨.call (.c (.fn f_i_Party_moves [] [])) [(.l 0), (.l 2)], none, []⟩, ⟨.mv (.l 3), none, []⟩, ⟨.mv (.c (.bool true)), none, []⟩] [(2, 4), (3, 5)])
 .ret)))
def a_i_SafeMoves : AFun := ⟨[0, 1, 2, 3, 6], 11, c_i_SafeMoves, [.tmp 2, .tmp 3], 2⟩
def w_l_eqIntA2S_1 : ACode :=
 (.seq (.seq (.region [⟨.mv (.t 3), none⟩, ⟨.mv (.t 0), none⟩, ⟨.len (.l 1), none⟩, ⟨.bin 0 .lss (.l 0) (.l 2), none⟩] [(5, 3)])
 (.cond (.t 5) .skip (.exit 0)))
 (.seq (.block 1 (.seq (.draw [⟨.mv (.t 0), none, []⟩, ⟨.mv (.t 3), none, []⟩, ⟨.indexAddrS 2 (.l 0) (.l 1), none, []⟩, ⟨.load true 2 (.l 2), none, []⟩, ⟨.mv (.t 1), none, []⟩, ⟨.mv (.t 3), none, []⟩, ⟨.indexAddrS 2 (.l 4) (.l 5), none, []⟩, ⟨.load true 2 (.l 6), none, []⟩, ⟨.call (.c (.fn f_l_eqIntA2 [] [])) [(.l 3), (.l 7)], none, []⟩, ⟨.un .not (.l 8), none, []⟩] [(6, 9)])
 (.cond (.t 6) (.seq (.region [⟨.mv (.c (.bool false)), none⟩] [(2, 0)])
 .ret) .skip)))
 (.region [⟨.mv (.t 3), none⟩, ⟨.bin 0 .add (.l 0) (.c (.int .i64 (1))), none⟩, ⟨.mv (.l 1), none⟩] [(3, 2)])))
def c_l_eqIntA2S : ACode :=
 (.seq (.region [⟨.mv (.c (.bool false)), none⟩] [(2, 0)])
 (.seq (.seq (.region [⟨.mv (.t 0), none⟩, ⟨.len (.l 0), none⟩, ⟨.mv (.t 1), none⟩, ⟨.len (.l 2), none⟩, ⟨.bin 0 .neq (.l 1) (.l 3), none⟩] [(4, 4)])
 (.cond (.t 4) (.seq (.region [⟨.mv (.c (.bool false)), none⟩] [(2, 0)])
 .ret) .skip))
 (.seq (.seq (.region [⟨.mv (.c (.int .i64 (0))), none⟩] [(3, 0)])
 (.block 0 (.loop w_l_eqIntA2S_1)))
 (.seq (.region [⟨.mv (.c (.bool true)), none⟩] [(2, 0)])
 .ret))))
def a_l_eqIntA2S : AFun := ⟨[0, 1, 4, 5, 10, 14, 26], 27, c_l_eqIntA2S, [.tmp 2], 1⟩
def c_l_markParty : ACode :=
 (.seq (.region [⟨.box (.t 0), none⟩, ⟨.mv (.c (.int .i64 (0))), none⟩] [(2, 0), (3, 1)])
 (.seq (.region [⟨.fieldAddr 3 (.t 2), none⟩, ⟨.load false 1 (.l 0), none⟩, ⟨.mv (.t 1), none⟩, ⟨.call (.c (.fn f_l_markLoadS [] [])) [(.l 1), (.l 2)], none⟩, ⟨.mv (.l 3), none⟩] [(1, 4)])
 (.seq (.region [⟨.mv (.t 1), none⟩, ⟨.mv (.l 0), none⟩] [(3, 1)])
 .ret)))
def a_l_markParty : AFun := ⟨[0, 1, 2, 4], 10, c_l_markParty, [.tmp 3], 1⟩
def w_l_markIntA2S_1 : ACode :=
 (.seq (.seq (.region [⟨.mv (.t 4), none⟩, ⟨.bin 0 .lss (.l 0) (.c (.int .i64 (2))), none⟩] [(6, 1)])
 (.cond (.t 6) .skip (.exit 2)))
 (.seq (.block 3 (.seq (.region [⟨.mv (.t 0), none⟩, ⟨.mv (.t 3), none⟩, ⟨.mv (.t 4), none⟩, ⟨.mv (.t 1), none⟩, ⟨.indexAddrS 2 (.l 0) (.l 1), none⟩, ⟨.indexAddrA 2 1 (.l 4) (.l 2), none⟩, ⟨.store 1 (.l 5) (.l 3), none⟩] [])
 (.region [⟨.mv (.t 1), none⟩, ⟨.bin 0 .add (.l 0) (.c (.int .i64 (1))), none⟩, ⟨.mv (.l 1), none⟩] [(1, 2)])))
 (.region [⟨.mv (.t 4), none⟩, ⟨.bin 0 .add (.l 0) (.c (.int .i64 (1))), none⟩, ⟨.mv (.l 1), none⟩] [(4, 2)])))
def w_l_markIntA2S_2 : ACode :=
 (.seq (.seq (.region [⟨.mv (.t 3), none⟩, ⟨.mv (.t 0), none⟩, ⟨.len (.l 1), none⟩, ⟨.bin 0 .lss (.l 0) (.l 2), none⟩] [(5, 3)])
 (.cond (.t 5) .skip (.exit 0)))
 (.seq (.block 1 (.seq (.region [⟨.mv (.c (.int .i64 (0))), none⟩] [(4, 0)])
 (.block 2 (.loop w_l_markIntA2S_1))))
 (.region [⟨.mv (.t 3), none⟩, ⟨.bin 0 .add (.l 0) (.c (.int .i64 (1))), none⟩, ⟨.mv (.l 1), none⟩] [(3, 2)])))
def c_l_markIntA2S : ACode :=
 (.seq (.region [⟨.mv (.c (.int .i64 (0))), none⟩] [(2, 0)])
 (.seq (.seq (.region [⟨.mv (.c (.int .i64 (0))), none⟩] [(3, 0)])
 (.block 0 (.loop w_l_markIntA2S_2)))
 (.seq (.region [⟨.mv (.t 1), none⟩, ⟨.mv (.l 0), none⟩] [(2, 1)])
 .ret)))
def a_l_markIntA2S : AFun := ⟨[0, 1, 4, 5, 6, 10, 14], 26, c_l_markIntA2S, [.tmp 2], 1⟩
def w_l_heldIntA2S_1 : ACode :=
 (.seq (.seq (.region [⟨.mv (.t 4), none⟩, ⟨.bin 0 .lss (.l 0) (.c (.int .i64 (2))), none⟩] [(6, 1)])
 (.cond (.t 6) .skip (.exit 2)))
 (.seq (.block 3 (.seq (.seq (.region [⟨.mv (.t 0), none⟩, ⟨.mv (.t 3), none⟩, ⟨.mv (.t 4), none⟩, ⟨.indexAddrS 2 (.l 0) (.l 1), none⟩, ⟨.indexAddrA 2 1 (.l 3) (.l 2), none⟩, ⟨.load false 1 (.l 4), none⟩, ⟨.mv (.t 1), none⟩, ⟨.bin 0 .neq (.l 5) (.l 6), none⟩] [(7, 7)])
 (.cond (.t 7) (.seq (.region [⟨.mv (.c (.int .i64 (-1))), none⟩] [(2, 0)])
 .ret) .skip))
 (.region [⟨.mv (.t 1), none⟩, ⟨.bin 0 .add (.l 0) (.c (.int .i64 (1))), none⟩, ⟨.mv (.l 1), none⟩] [(1, 2)])))
 (.region [⟨.mv (.t 4), none⟩, ⟨.bin 0 .add (.l 0) (.c (.int .i64 (1))), none⟩, ⟨.mv (.l 1), none⟩] [(4, 2)])))
def w_l_heldIntA2S_2 : ACode :=
 (.seq (.seq (.region [⟨.mv (.t 3), none⟩, ⟨.mv (.t 0), none⟩, ⟨.len (.l 1), none⟩, ⟨.bin 0 .lss (.l 0) (.l 2), none⟩] [(5, 3)])
 (.cond (.t 5) .skip (.exit 0)))
 (.seq (.block 1 (.seq (.region [⟨.mv (.c (.int .i64 (0))), none⟩] [(4, 0)])
 (.block 2 (.loop w_l_heldIntA2S_1))))
 (.region [⟨.mv (.t 3), none⟩, ⟨.bin 0 .add (.l 0) (.c (.int .i64 (1))), none⟩, ⟨.mv (.l 1), none⟩] [(3, 2)])))
def c_l_heldIntA2S : ACode :=
 (.seq (.region [⟨.mv (.c (.int .i64 (0))), none⟩] [(2, 0)])
 (.seq (.seq (.region [⟨.mv (.c (.int .i64 (0))), none⟩] [(3, 0)])
 (.block 0 (.loop w_l_heldIntA2S_2)))
 (.seq (.region [⟨.mv (.t 1), none⟩, ⟨.mv (.l 0), none⟩] [(2, 1)])
 .ret)))
def a_l_heldIntA2S : AFun := ⟨[0, 1, 4, 5, 6, 10, 14, 24], 28, c_l_heldIntA2S, [.tmp 2], 1⟩
def c_s_MoveOne : ACode :=
 (.seq (.region [⟨.box (.t 0), none⟩, ⟨.box (.t 1), none⟩, ⟨.alloc [.int .i64 (0), .int .i64 (0), .int .i64 (0), .slice none 0 0 none, .int .i64 (0)], none⟩, ⟨.mv (.c (.bool false)), none⟩] [(2, 0), (3, 1), (4, 2), (5, 3)])
 (.seq (.seq (.region [⟨.load true 5 (.t 2), none⟩, ⟨.call (.c (.fn f_s_l11Party [] [])) [(.l 0)], none⟩, ⟨.un .not (.l 1), none⟩, ⟨.mv (.l 2), none⟩, ⟨.load true 5 (.t 2), some ((.l 3), false)⟩, ⟨.load true 2 (.t 3), some ((.l 3), false)⟩, ⟨.call (.c (.fn f_s_l11Safe [] [])) [(.l 4), (.l 5)], some ((.l 3), false)⟩, ⟨.un .not (.l 6), some ((.l 3), false)⟩, ⟨.pick (.l 3) (.c (.bool true)) (.l 7), none⟩] [(6, 8)])
 (.cond (.t 6) (.seq (.region [⟨.build [.int .i64 (0), .int .i64 (0), .int .i64 (0), .slice none 0 0 none, .int .i64 (0)] [], none⟩, ⟨.store 5 (.t 4) (.l 0), none⟩, ⟨.mv (.c (.bool false)), none⟩] [(5, 2)])
 .ret) .skip))
 (.seq (.region [⟨.load true 5 (.t 2), none⟩, ⟨.load true 2 (.t 3), none⟩, ⟨.call (.c (.fn f_s_l11Moved [] [])) [(.l 0), (.l 1)], none⟩, ⟨.store 5 (.t 4) (.l 2), none⟩, ⟨.mv (.c (.bool true)), none⟩] [(5, 4)])
 .ret)))
def a_s_MoveOne : AFun := ⟨[0, 1, 2, 3, 4, 5, 14], 19, c_s_MoveOne, [.cell 4 true 5, .tmp 5], 2⟩
def w_l_toIntA2_1 : ACode :=
 (.seq (.seq (.region [⟨.mv (.t 4), none⟩, ⟨.bin 0 .lss (.l 0) (.c (.int .i64 (2))), none⟩] [(5, 1)])
 (.cond (.t 5) .skip (.exit 0)))
 (.seq (.block 1 (.region [⟨.mv (.t 4), none⟩, ⟨.mv (.t 4), none⟩, ⟨.indexAddrA 2 1 (.t 1) (.l 1), none⟩, ⟨.load false 1 (.l 2), none⟩, ⟨.indexAddrA 2 1 (.t 3) (.l 0), none⟩, ⟨.store 1 (.l 4) (.l 3), none⟩] []))
 (.region [⟨.mv (.t 4), none⟩, ⟨.bin 0 .add (.l 0) (.c (.int .i64 (1))), none⟩, ⟨.mv (.l 1), none⟩] [(4, 2)])))
def c_l_toIntA2 : ACode :=
 (.seq (.region [⟨.box (.t 0), none⟩, ⟨.alloc [.int .i64 (0), .int .i64 (0)], none⟩] [(1, 0), (2, 1)])
 (.seq (.region [⟨.alloc [.int .i64 (0), .int .i64 (0)], none⟩] [(3, 0)])
 (.seq (.seq (.region [⟨.mv (.c (.int .i64 (0))), none⟩] [(4, 0)])
 (.block 0 (.loop w_l_toIntA2_1)))
 (.seq (.region [⟨.load true 2 (.t 3), none⟩, ⟨.store 2 (.t 2) (.l 0), none⟩] [])
 .ret))))
def a_l_toIntA2 : AFun := ⟨[0, 1, 2, 3, 4, 6], 15, c_l_toIntA2, [.cell 2 true 2], 1⟩
def c_i_MoveOne : ACode :=
 (.seq (.region [⟨.box (.t 0), none⟩, ⟨.box (.t 1), none⟩, ⟨.alloc [.int .i64 (0), .int .i64 (0), .int .i64 (0), .slice none 0 0 none, .int .i64 (0)], none⟩, ⟨.mv (.c (.bool false)), none⟩] [(2, 0), (3, 1), (4, 2), (5, 3)])
 (.seq (.region [⟨.load true 5 (.t 2), none⟩, ⟨.load true 2 (.t 3), none⟩, ⟨.buildSlice 2 1 [.int .i64 (0), .int .i64 (0)] [(0, 2, (.l 1))], none⟩, ⟨.call (.c (.fn f_i_WalkTo [] [])) [(.l 0), (.l 2)], none⟩, ⟨.extract 0 (.l 3), none⟩, ⟨.extract 1 (.l 3), none⟩, ⟨.store 5 (.t 4) (.l 4), none⟩, ⟨.mv (.l 5), none⟩] [(5, 7)])
 .ret))
def a_i_MoveOne : AFun := ⟨[0, 1, 2, 3, 4, 5], 12, c_i_MoveOne, [.cell 4 true 5, .tmp 5], 2⟩
def c_l_heldParty : ACode :=
 (.seq (.region [⟨.box (.t 0), none⟩, ⟨.mv (.c (.int .i64 (0))), none⟩] [(2, 0), (3, 1)])
 (.seq (.region [⟨.fieldAddr 3 (.t 2), none⟩, ⟨.load false 1 (.l 0), none⟩, ⟨.mv (.t 1), none⟩, ⟨.call (.c (.fn f_l_heldLoadS [] [])) [(.l 1), (.l 2)], none⟩, ⟨.mv (.l 3), none⟩] [(1, 4)])
 (.seq (.seq (.region [⟨.mv (.t 1), none⟩, ⟨.bin 0 .lss (.l 0) (.c (.int .i64 (0))), none⟩] [(4, 1)])
 (.cond (.t 4) (.seq (.region [⟨.mv (.c (.int .i64 (-1))), none⟩] [(3, 0)])
 .ret) .skip))
 (.seq (.region [⟨.mv (.t 1), none⟩, ⟨.mv (.l 0), none⟩] [(3, 1)])
 .ret))))
def a_l_heldParty : AFun := ⟨[0, 1, 2, 4, 10], 12, c_l_heldParty, [.tmp 3], 1⟩
def w_s_CountPlaces_1 : ACode :=
 (.seq (.seq (.region [⟨.mv (.t 6), none⟩, ⟨.mv (.t 5), none⟩, ⟨.len (.l 1), none⟩, ⟨.bin 0 .lss (.l 0) (.l 2), none⟩] [(8, 3)])
 (.cond (.t 8) .skip (.exit 0)))
 (.seq (.block 1 (.seq (.region [⟨.mv (.t 5), none⟩, ⟨.mv (.t 6), none⟩, ⟨.indexAddrS 1 (.l 0) (.l 1), none⟩, ⟨.load false 1 (.l 2), none⟩, ⟨.bin 0 .geq (.l 3) (.c (.int .i64 (0))), none⟩] [(9, 4)])
 (.cond (.t 9) (.region [⟨.mv (.t 4), none⟩, ⟨.bin 0 .add (.l 0) (.c (.int .i64 (1))), none⟩, ⟨.mv (.l 1), none⟩] [(4, 2)]) .skip)))
 (.region [⟨.mv (.t 6), none⟩, ⟨.bin 0 .add (.l 0) (.c (.int .i64 (1))), none⟩, ⟨.mv (.l 1), none⟩] [(6, 2)])))
def c_s_CountPlaces : ACode :=
 (.seq (.region [⟨.box (.t 0), none⟩, ⟨.mv (.c (.int .i64 (0))), none⟩, ⟨.mv (.c (.bool false)), none⟩] [(1, 0), (2, 1), (3, 2)])
 (.seq (.seq (.region [⟨.load true 5 (.t 1), none⟩, ⟨.call (.c (.fn f_s_l11Party [] [])) [(.l 0)], none⟩, ⟨.un .not (.l 1), none⟩] [(7, 2)])
 (.cond (.t 7) (.seq (.region [⟨.mv (.c (.int .i64 (0))), none⟩, ⟨.mv (.c (.bool false)), none⟩] [(2, 0), (3, 1)])
 .ret) .skip))
 (.seq (.region [⟨.load true 5 (.t 1), none⟩, ⟨.call (.c (.fn f_s_l11Spread [] [])) [(.l 0)], none⟩, ⟨.mv (.c (.int .i64 (0))), none⟩, ⟨.mv (.l 1), none⟩] [(4, 2), (5, 3)])
 (.seq (.seq (.region [⟨.mv (.c (.int .i64 (0))), none⟩] [(6, 0)])
 (.block 0 (.loop w_s_CountPlaces_1)))
 (.seq (.region [⟨.mv (.t 4), none⟩, ⟨.mv (.l 0), none⟩, ⟨.mv (.c (.bool true)), none⟩] [(2, 1), (3, 2)])
 .ret)))))
def a_s_CountPlaces : AFun := ⟨[0, 1, 2, 3, 4, 5, 6, 9, 15, 22], 26, c_s_CountPlaces, [.tmp 2, .tmp 3], 1⟩
def c_i_CountPlaces : ACode :=
 (.seq (.region [⟨.box (.t 0), none⟩, ⟨.mv (.c (.int .i64 (0))), none⟩, ⟨.mv (.c (.bool false)), none⟩] [(1, 0), (2, 1), (3, 2)])
 (.seq (.seq (.region [⟨.load true 5 (.t 1), none⟩, ⟨.call (.c (.fn f_i_IsParty [] [])) [(.l 0)], none⟩, ⟨.un .not (.l 1), none⟩] [(4, 2)])
 (.cond (.t 4) (.seq (.region [⟨.mv (.c (.int .i64 (0))), none⟩, ⟨.mv (.c (.bool false)), none⟩] [(2, 0), (3, 1)])
 .ret) .skip))
 (.seq (.draw [⟨.load true 5 (.t 1), none, []⟩, ⟨.load true 5 (.t 1), none, []⟩, ⟨.call (.c (.fn f_i_Party_spots [] [])) [(.l 1)], none, [(0, ⟨.load true 5 (.t 1), none⟩)]⟩, ⟨.call (.c (.fn f_i_Party_stepsFrom [] [])) [(.l 0), (.l 2)], none, []⟩, ⟨.lenMap (.l 3), none, []⟩, ⟨.mv (.l 4), none, []⟩, ⟨.mv (.c (.bool true)), none, []⟩] [(2, 5), (3, 6)])
 .ret)))
def a_i_CountPlaces : AFun := ⟨[0, 1, 2, 3, 6], 12, c_i_CountPlaces, [.tmp 2, .tmp 3], 1⟩
def c_l_szIntA2S : ACode :=
 (.seq (.region [⟨.mv (.c (.int .i64 (0))), none⟩] [(2, 0)])
 (.seq (.region [⟨.mv (.t 1), none⟩, ⟨.mv (.t 0), none⟩, ⟨.len (.l 1), none⟩, ⟨.bin 0 .sub (.l 0) (.l 2), none⟩, ⟨.mv (.l 3), none⟩] [(1, 4)])
 (.seq (.seq (.region [⟨.mv (.t 1), none⟩, ⟨.bin 0 .lss (.l 0) (.c (.int .i64 (0))), none⟩] [(3, 1)])
 (.cond (.t 3) (.seq (.region [⟨.mv (.c (.int .i64 (-1))), none⟩] [(2, 0)])
 .ret) .skip))
 (.seq (.region [⟨.mv (.t 1), none⟩, ⟨.mv (.l 0), none⟩] [(2, 1)])
 .ret))))
def a_l_szIntA2S : AFun := ⟨[0, 1, 4, 10], 12, c_l_szIntA2S, [.tmp 2], 1⟩
def c_s_IsWalkOn : ACode :=
 (.seq (.region [⟨.box (.t 0), none⟩, ⟨.mv (.c (.bool false)), none⟩, ⟨.mv (.c (.bool false)), none⟩] [(2, 0), (3, 1), (4, 2)])
 (.seq (.seq (.region [⟨.load true 5 (.t 2), none⟩, ⟨.call (.c (.fn f_s_l11Party [] [])) [(.l 0)], none⟩, ⟨.un .not (.l 1), none⟩] [(6, 2)])
 (.cond (.t 6) (.seq (.region [⟨.mv (.c (.bool false)), none⟩, ⟨.mv (.c (.bool false)), none⟩] [(3, 0), (4, 1)])
 .ret) .skip))
 (.seq (.region [⟨.load true 5 (.t 2), none⟩, ⟨.mv (.t 1), none⟩, ⟨.call (.c (.fn f_s_l11Walk [] [])) [(.l 0), (.l 1)], none⟩, ⟨.mv (.l 2), none⟩, ⟨.extract 0 (.l 3), none⟩, ⟨.extract 1 (.l 3), none⟩, ⟨.alloc [.int .i64 (0), .int .i64 (0), .int .i64 (0), .slice none 0 0 none, .int .i64 (0)], none⟩, ⟨.store 5 (.l 6) (.l 4), none⟩, ⟨.mv (.l 5), none⟩] [(5, 8)])
 (.seq (.region [⟨.mv (.t 5), none⟩, ⟨.mv (.l 0), none⟩, ⟨.mv (.c (.bool true)), none⟩] [(3, 1), (4, 2)])
 .ret))))
def a_s_IsWalkOn : AFun := ⟨[0, 1, 2, 4, 5, 7, 10], 18, c_s_IsWalkOn, [.tmp 3, .tmp 4], 1⟩
def w_l_toIntA2S_1 : ACode :=
 (.seq (.seq (.region [⟨.mv (.t 3), none⟩, ⟨.mv (.t 0), none⟩, ⟨.len (.l 1), none⟩, ⟨.bin 0 .lss (.l 0) (.l 2), none⟩] [(4, 3)])
 (.cond (.t 4) .skip (.exit 0)))
 (.seq (.block 1 (.region [⟨.mv (.t 2), none⟩, ⟨.mv (.t 3), none⟩, ⟨.mv (.t 0), none⟩, ⟨.mv (.t 3), none⟩, ⟨.indexAddrS 2 (.l 2) (.l 3), none⟩, ⟨.load true 2 (.l 4), none⟩, ⟨.call (.c (.fn f_l_toIntA2 [] [])) [(.l 5)], none⟩, ⟨.indexAddrS 2 (.l 0) (.l 1), none⟩, ⟨.store 2 (.l 7) (.l 6), none⟩] []))
 (.region [⟨.mv (.t 3), none⟩, ⟨.bin 0 .add (.l 0) (.c (.int .i64 (1))), none⟩, ⟨.mv (.l 1), none⟩] [(3, 2)])))
def c_l_toIntA2S : ACode :=
 (.seq (.region [⟨.mv (.c (.slice none 0 0 none)), none⟩] [(1, 0)])
 (.seq (.region [⟨.mv (.t 0), none⟩, ⟨.len (.l 0), none⟩, ⟨.makeSlice 2 16 [.int .i64 (0), .int .i64 (0)] (.l 1) (.l 1), none⟩, ⟨.mv (.l 2), none⟩] [(2, 3)])
 (.seq (.seq (.region [⟨.mv (.c (.int .i64 (0))), none⟩] [(3, 0)])
 (.block 0 (.loop w_l_toIntA2S_1)))
 (.seq (.region [⟨.mv (.t 2), none⟩, ⟨.mv (.l 0), none⟩] [(1, 1)])
 .ret))))
def a_l_toIntA2S : AFun := ⟨[0, 2, 3, 4, 11], 23, c_l_toIntA2S, [.tmp 1], 2⟩
def c_i_IsWalkOn : ACode :=
 (.seq (.region [⟨.box (.t 0), none⟩, ⟨.mv (.c (.bool false)), none⟩, ⟨.mv (.c (.bool false)), none⟩] [(2, 0), (3, 1), (4, 2)])
 (.seq (.seq (.region [⟨.load true 5 (.t 2), none⟩, ⟨.call (.c (.fn f_i_IsParty [] [])) [(.l 0)], none⟩, ⟨.un .not (.l 1), none⟩] [(6, 2)])
 (.cond (.t 6) (.seq (.region [⟨.mv (.c (.bool false)), none⟩, ⟨.mv (.c (.bool false)), none⟩] [(3, 0), (4, 1)])
 .ret) .skip))
 (.seq (.seq (.region [⟨.mv (.t 1), none⟩, ⟨.len (.l 0), none⟩, ⟨.bin 0 .gtr (.l 1) (.c (.int .i64 (60))), none⟩] [(7, 2)])
 (.cond (.t 7) (.seq (.region [⟨.mv (.c (.bool false)), none⟩, ⟨.mv (.c (.bool true)), none⟩] [(3, 0), (4, 1)])
 .ret) .skip))
 (.seq (.region [⟨.load true 5 (.t 2), none⟩, ⟨.mv (.t 1), none⟩, ⟨.call (.c (.fn f_i_Party_walk [] [])) [(.l 0), (.l 1)], none⟩, ⟨.mv (.l 2), none⟩, ⟨.extract 0 (.l 3), none⟩, ⟨.extract 1 (.l 3), none⟩, ⟨.alloc [.int .i64 (0), .int .i64 (0), .int .i64 (0)], none⟩, ⟨.store 3 (.l 6) (.l 4), none⟩, ⟨.mv (.l 5), none⟩] [(5, 8)])
 (.seq (.region [⟨.mv (.t 5), none⟩, ⟨.mv (.l 0), none⟩, ⟨.mv (.c (.bool true)), none⟩] [(3, 1), (4, 2)])
 .ret)))))
def a_i_IsWalkOn : AFun := ⟨[0, 1, 2, 4, 5, 7, 10, 13], 21, c_i_IsWalkOn, [.tmp 3, .tmp 4], 1⟩
def w_s_FarthestOut_1 : ACode :=
 (.seq (.seq (.region [⟨.mv (.t 9), none⟩, ⟨.mv (.t 8), none⟩, ⟨.len (.l 1), none⟩, ⟨.bin 0 .lss (.l 0) (.l 2), none⟩] [(11, 3)])
 (.cond (.t 11) .skip (.exit 0)))
 (.seq (.block 1 (.seq (.region [⟨.mv (.t 8), none⟩, ⟨.mv (.t 9), none⟩, ⟨.indexAddrS 1 (.l 0) (.l 1), none⟩, ⟨.load false 1 (.l 2), none⟩, ⟨.bin 0 .geq (.l 3) (.c (.int .i64 (0))), none⟩] [(12, 4)])
 (.cond (.t 12) (.seq (.region [⟨.mv (.t 6), none⟩, ⟨.load true 5 (.t 2), none⟩, ⟨.mv (.t 9), none⟩, ⟨.call (.c (.fn f_s_l11At [] [])) [(.l 1), (.l 2)], none⟩, ⟨.field false 3 1 (.l 3), none⟩, ⟨.mv (.t 1), none⟩, ⟨.indexAddrS 2 (.l 4) (.l 5), none⟩, ⟨.fieldAddr 0 (.l 6), none⟩, ⟨.load false 1 (.l 7), none⟩, ⟨.call (.c (.fn f_s_l1Least [] [])) [(.l 0), (.l 8)], none⟩, ⟨.mv (.l 9), none⟩] [(6, 10)])
 (.region [⟨.mv (.t 7), none⟩, ⟨.load true 5 (.t 2), none⟩, ⟨.mv (.t 9), none⟩, ⟨.call (.c (.fn f_s_l11At [] [])) [(.l 1), (.l 2)], none⟩, ⟨.field false 3 1 (.l 3), none⟩, ⟨.mv (.t 1), none⟩, ⟨.indexAddrS 2 (.l 4) (.l 5), none⟩, ⟨.fieldAddr 0 (.l 6), none⟩, ⟨.load false 1 (.l 7), none⟩, ⟨.call (.c (.fn f_s_l1Most [] [])) [(.l 0), (.l 8)], none⟩, ⟨.mv (.l 9), none⟩] [(7, 10)])) .skip)))
 (.region [⟨.mv (.t 9), none⟩, ⟨.bin 0 .add (.l 0) (.c (.int .i64 (1))), none⟩, ⟨.mv (.l 1), none⟩] [(9, 2)])))
def c_s_FarthestOut : ACode :=
 (.seq (.region [⟨.box (.t 0), none⟩, ⟨.mv (.c (.int .i64 (0))), none⟩, ⟨.mv (.c (.int .i64 (0))), none⟩, ⟨.mv (.c (.bool false)), none⟩] [(2, 0), (3, 1), (4, 2), (5, 3)])
 (.seq (.seq (.region [⟨.load true 5 (.t 2), none⟩, ⟨.call (.c (.fn f_s_l11Party [] [])) [(.l 0)], none⟩, ⟨.un .not (.l 1), none⟩, ⟨.mv (.l 2), none⟩, ⟨.mv (.t 1), some ((.l 3), false)⟩, ⟨.fieldAddr 3 (.t 2), some ((.l 3), false)⟩, ⟨.load false 1 (.l 5), some ((.l 3), false)⟩, ⟨.len (.l 6), some ((.l 3), false)⟩, ⟨.bin 0 .sub (.l 7) (.c (.int .i64 (1))), some ((.l 3), false)⟩, ⟨.call (.c (.fn f_s_l1In [] [])) [(.l 4), (.c (.int .i64 (0))), (.l 8)], some ((.l 3), false)⟩, ⟨.un .not (.l 9), some ((.l 3), false)⟩, ⟨.pick (.l 3) (.c (.bool true)) (.l 10), none⟩] [(10, 11)])
 (.cond (.t 10) (.seq (.region [⟨.mv (.c (.int .i64 (0))), none⟩, ⟨.mv (.c (.int .i64 (0))), none⟩, ⟨.mv (.c (.bool false)), none⟩] [(3, 0), (4, 1), (5, 2)])
 .ret) .skip))
 (.seq (.draw [⟨.fieldAddr 0 (.t 2), none, []⟩, ⟨.fieldAddr 0 (.l 0), none, []⟩, ⟨.load false 1 (.l 1), none, []⟩, ⟨.load true 5 (.t 2), none, []⟩, ⟨.call (.c (.fn f_s_l11Spread [] [])) [(.l 3)], none, [(2, ⟨.load false 1 (.l 1), none⟩)]⟩, ⟨.mv (.l 2), none, []⟩, ⟨.mv (.c (.int .i64 (0))), none, []⟩, ⟨.mv (.l 4), none, []⟩] [(6, 5), (7, 6), (8, 7)])
 (.seq (.seq (.region [⟨.mv (.c (.int .i64 (0))), none⟩] [(9, 0)])
 (.block 0 (.loop w_s_FarthestOut_1)))
 (.seq (.region [⟨.mv (.t 6), none⟩, ⟨.mv (.t 7), none⟩, ⟨.mv (.l 0), none⟩, ⟨.mv (.l 1), none⟩, ⟨.mv (.c (.bool true)), none⟩] [(3, 2), (4, 3), (5, 4)])
 .ret)))))
def a_s_FarthestOut : AFun := ⟨[0, 1, 2, 4, 5, 6, 7, 8, 9, 10, 22, 31, 38], 61, c_s_FarthestOut, [.tmp 3, .tmp 4, .tmp 5], 1⟩
def w_i_FarthestOut_1 : ACode :=
 (.draw [⟨.mv (.t 6), none, []⟩, ⟨.mv (.t 1), none, []⟩, ⟨.indexAddrA 3 1 (.t 8) (.l 1), none, []⟩, ⟨.load false 1 (.l 2), none, []⟩, ⟨.min2 (.l 0) (.l 3), none, []⟩, ⟨.mv (.t 7), none, []⟩, ⟨.mv (.t 1), none, []⟩, ⟨.indexAddrA 3 1 (.t 8) (.l 6), none, []⟩, ⟨.load false 1 (.l 7), none, []⟩, ⟨.max2 (.l 5) (.l 8), none, []⟩, ⟨.mv (.l 4), none, []⟩, ⟨.mv (.l 9), none, []⟩] [(6, 10), (7, 11)])
def c_i_FarthestOut : ACode :=
 (.seq (.region [⟨.box (.t 0), none⟩, ⟨.mv (.c (.int .i64 (0))), none⟩, ⟨.mv (.c (.int .i64 (0))), none⟩, ⟨.mv (.c (.bool false)), none⟩] [(2, 0), (3, 1), (4, 2), (5, 3)])
 (.seq (.seq (.region [⟨.load true 5 (.t 2), none⟩, ⟨.call (.c (.fn f_i_IsParty [] [])) [(.l 0)], none⟩, ⟨.un .not (.l 1), none⟩, ⟨.mv (.l 2), none⟩, ⟨.mv (.t 1), some ((.l 3), false)⟩, ⟨.fieldAddr 3 (.t 2), some ((.l 3), false)⟩, ⟨.load false 1 (.l 5), some ((.l 3), false)⟩, ⟨.len (.l 6), some ((.l 3), false)⟩, ⟨.bin 0 .sub (.l 7) (.c (.int .i64 (1))), some ((.l 3), false)⟩, ⟨.call (.c (.fn f_i_within [] [])) [(.l 4), (.c (.int .i64 (0))), (.l 8)], some ((.l 3), false)⟩, ⟨.un .not (.l 9), some ((.l 3), false)⟩, ⟨.pick (.l 3) (.c (.bool true)) (.l 10), none⟩] [(9, 11)])
 (.cond (.t 9) (.seq (.region [⟨.mv (.c (.int .i64 (0))), none⟩, ⟨.mv (.c (.int .i64 (0))), none⟩, ⟨.mv (.c (.bool false)), none⟩] [(3, 0), (4, 1), (5, 2)])
 .ret) .skip))
 (.seq (.draw [⟨.fieldAddr 3 (.t 2), none, []⟩, ⟨.load false 1 (.l 0), none, []⟩, ⟨.mv (.t 1), none, []⟩, ⟨.indexAddrS 2 (.l 1) (.l 2), none, []⟩, ⟨.fieldAddr 0 (.l 3), none, []⟩, ⟨.load false 1 (.l 4), none, []⟩, ⟨.fieldAddr 3 (.t 2), none, []⟩, ⟨.load false 1 (.l 6), none, []⟩, ⟨.mv (.t 1), none, []⟩, ⟨.indexAddrS 2 (.l 7) (.l 8), none, []⟩, ⟨.fieldAddr 0 (.l 9), none, []⟩, ⟨.load false 1 (.l 10), none, []⟩, ⟨.mv (.l 5), none, []⟩, ⟨.mv (.l 11), none, []⟩] [(6, 12), (7, 13)])
 (.seq (.mloop [⟨.load true 5 (.t 2), none, []⟩, ⟨.load true 5 (.t 2), none, []⟩, ⟨.call (.c (.fn f_i_Party_spots [] [])) [(.l 1)], none, [(0, ⟨.load true 5 (.t 2), none⟩)]⟩, ⟨.call (.c (.fn f_i_Party_stepsFrom [] [])) [(.l 0), (.l 2)], none, []⟩] [(10, 4)] (.l 3) (.t 10) (.t 10) (.t 11) [(11, 1)] [⟨.extract 0 (.l 0), none⟩, ⟨.alloc [.int .i64 (0), .int .i64 (0), .int .i64 (0)], none⟩, ⟨.store 3 (.l 2) (.l 1), none⟩] [(8, 2)] 1 w_i_FarthestOut_1)
 (.seq (.region [⟨.mv (.t 6), none⟩, ⟨.mv (.t 7), none⟩, ⟨.mv (.l 0), none⟩, ⟨.mv (.l 1), none⟩, ⟨.mv (.c (.bool true)), none⟩] [(3, 2), (4, 3), (5, 4)])
 .ret)))))
def a_i_FarthestOut : AFun := ⟨[0, 1, 2, 4, 5, 6, 7, 8, 9, 21, 38, 40], 55, c_i_FarthestOut, [.tmp 3, .tmp 4, .tmp 5], 1⟩
def w_s_MeetSteps_1 : ACode :=
 (.seq (.seq (.region [⟨.mv (.t 10), none⟩, ⟨.fieldAddr 3 (.t 9), none⟩, ⟨.load false 1 (.l 1), none⟩, ⟨.len (.l 2), none⟩, ⟨.bin 0 .lss (.l 0) (.l 3), none⟩] [(14, 4)])
 (.cond (.t 14) .skip (.exit 2)))
 (.seq (.block 3 (.region [⟨.fieldAddr 3 (.t 9), none⟩, ⟨.load false 1 (.l 0), none⟩, ⟨.mv (.t 10), none⟩, ⟨.mv (.t 8), none⟩, ⟨.indexAddrS 2 (.l 1) (.l 2), none⟩, ⟨.fieldAddr 0 (.l 4), none⟩, ⟨.store 1 (.l 5) (.l 3), none⟩] []))
 (.region [⟨.mv (.t 10), none⟩, ⟨.bin 0 .add (.l 0) (.c (.int .i64 (1))), none⟩, ⟨.mv (.l 1), none⟩] [(10, 2)])))
def w_s_MeetSteps_2 : ACode :=
 (.seq (.seq (.region [⟨.mv (.t 8), none⟩, ⟨.fieldAddr 0 (.t 1), none⟩, ⟨.fieldAddr 0 (.l 1), none⟩, ⟨.load false 1 (.l 2), none⟩, ⟨.bin 0 .leq (.l 0) (.l 3), none⟩] [(13, 4)])
 (.cond (.t 13) .skip (.exit 0)))
 (.seq (.block 1 (.seq (.region [⟨.load true 5 (.t 1), none⟩, ⟨.call (.c (.fn f_s_l11At [] [])) [(.l 0), (.c (.int .i64 (0)))], none⟩, ⟨.alloc [.int .i64 (0), .int .i64 (0), .int .i64 (0), .slice none 0 0 none, .int .i64 (0)], none⟩, ⟨.store 5 (.l 2) (.l 1), none⟩] [(9, 2)])
 (.seq (.seq (.region [⟨.mv (.c (.int .i64 (0))), none⟩] [(10, 0)])
 (.block 2 (.loop w_s_MeetSteps_1)))
 (.seq (.region [⟨.mv (.t 7), none⟩, ⟨.load true 5 (.t 9), none⟩, ⟨.call (.c (.fn f_s_l11Key [] [])) [(.l 1)], none⟩, ⟨.indexAddrS 1 (.l 0) (.l 2), none⟩, ⟨.load false 1 (.l 3), none⟩, ⟨.mv (.l 4), none⟩] [(11, 5)])
 (.seq (.region [⟨.mv (.t 11), none⟩, ⟨.bin 0 .geq (.l 0) (.c (.int .i64 (0))), none⟩, ⟨.mv (.l 1), none⟩, ⟨.mv (.t 5), some ((.l 2), true)⟩, ⟨.bin 0 .lss (.l 3) (.c (.int .i64 (0))), some ((.l 2), true)⟩, ⟨.mv (.l 4), some ((.l 2), true)⟩, ⟨.mv (.t 11), some ((.l 5), false)⟩, ⟨.mv (.t 5), some ((.l 5), false)⟩, ⟨.bin 0 .lss (.l 6) (.l 7), some ((.l 5), false)⟩, ⟨.pick (.l 5) (.c (.bool true)) (.l 8), some ((.l 2), true)⟩, ⟨.pick (.l 2) (.l 9) (.c (.bool false)), none⟩] [(15, 10)])
 (.cond (.t 15) (.seq (.region [⟨.mv (.t 11), none⟩, ⟨.mv (.l 0), none⟩] [(5, 1)])
 (.region [⟨.mv (.t 8), none⟩, ⟨.mv (.l 0), none⟩] [(6, 1)])) .skip))))))
 (.region [⟨.mv (.t 8), none⟩, ⟨.bin 0 .add (.l 0) (.c (.int .i64 (1))), none⟩, ⟨.mv (.l 1), none⟩] [(8, 2)])))
def c_s_MeetSteps : ACode :=
 (.seq (.region [⟨.box (.t 0), none⟩, ⟨.mv (.c (.int .i64 (0))), none⟩, ⟨.mv (.c (.int .i64 (0))), none⟩, ⟨.mv (.c (.bool false)), none⟩] [(1, 0), (2, 1), (3, 2), (4, 3)])
 (.seq (.seq (.region [⟨.load true 5 (.t 1), none⟩, ⟨.call (.c (.fn f_s_l11Party [] [])) [(.l 0)], none⟩, ⟨.un .not (.l 1), none⟩] [(12, 2)])
 (.cond (.t 12) (.seq (.region [⟨.mv (.c (.int .i64 (0))), none⟩, ⟨.mv (.c (.int .i64 (0))), none⟩, ⟨.mv (.c (.bool false)), none⟩] [(2, 0), (3, 1), (4, 2)])
 .ret) .skip))
 (.seq (.region [⟨.load true 5 (.t 1), none⟩, ⟨.call (.c (.fn f_s_l11Spread [] [])) [(.l 0)], none⟩, ⟨.mv (.c (.int .i64 (-1))), none⟩, ⟨.mv (.c (.int .i64 (0))), none⟩, ⟨.mv (.l 1), none⟩] [(5, 2), (6, 3), (7, 4)])
 (.seq (.seq (.region [⟨.mv (.c (.int .i64 (0))), none⟩] [(8, 0)])
 (.block 0 (.loop w_s_MeetSteps_2)))
 (.seq (.region [⟨.mv (.t 5), none⟩, ⟨.call (.c (.fn f_s_l1Most [] [])) [(.l 0), (.c (.int .i64 (0)))], none⟩, ⟨.mv (.t 6), none⟩, ⟨.mv (.t 5), none⟩, ⟨.bin 0 .geq (.l 3) (.c (.int .i64 (0))), none⟩, ⟨.mv (.l 1), none⟩, ⟨.mv (.l 2), none⟩, ⟨.mv (.l 4), none⟩] [(2, 5), (3, 6), (4, 7)])
 .ret)))))
def a_s_MeetSteps : AFun := ⟨[0, 1, 2, 3, 4, 5, 6, 7, 8, 9, 10, 11, 14, 21, 30, 54], 62, c_s_MeetSteps, [.tmp 2, .tmp 3, .tmp 4], 1⟩
def w_i_MeetSteps_1 : ACode :=
 (.seq (.region [⟨.bin 0 .lss (.t 18) (.t 17), none⟩] [(19, 0)])
 (.seq (.cond (.t 19) .skip (.exit 2))
 (.seq (.block 3 (.seq (.region [⟨.mv (.t 18), none⟩, ⟨.mv (.l 0), none⟩] [(10, 1)])
 (.region [⟨.mv (.t 10), none⟩, ⟨.mv (.t 8), none⟩, ⟨.indexAddrA 3 1 (.t 9) (.l 0), none⟩, ⟨.store 1 (.l 2) (.l 1), none⟩] [])))
 (.region [⟨.bin 0 .add (.t 18) (.c (.int .i64 (1))), none⟩, ⟨.mv (.l 0), none⟩] [(18, 1)]))))
def w_i_MeetSteps_2 : ACode :=
 (.seq (.region [⟨.bin 0 .lss (.t 15) (.t 14), none⟩] [(16, 0)])
 (.seq (.cond (.t 16) .skip (.exit 0))
 (.seq (.block 1 (.seq (.region [⟨.mv (.t 15), none⟩, ⟨.mv (.l 0), none⟩] [(8, 1)])
 (.seq (.region [⟨.build [.int .i64 (0), .int .i64 (0), .int .i64 (0)] [], none⟩, ⟨.alloc [.int .i64 (0), .int .i64 (0), .int .i64 (0)], none⟩, ⟨.store 3 (.l 1) (.l 0), none⟩] [(9, 1)])
 (.seq (.seq (.region [⟨.fieldAddr 3 (.t 1), none⟩, ⟨.load false 1 (.l 0), none⟩, ⟨.len (.l 1), none⟩, ⟨.mv (.c (.int .i64 (0))), none⟩] [(17, 2), (18, 3)])
 (.block 2 (.loop w_i_MeetSteps_1)))
 (.seq (.region [⟨.mv (.t 5), none⟩, ⟨.load true 3 (.t 9), none⟩, ⟨.getMap true (.l 0) (.l 1), none⟩, ⟨.mv (.l 2), none⟩, ⟨.extract 0 (.l 3), none⟩, ⟨.extract 1 (.l 3), none⟩, ⟨.mv (.l 4), none⟩, ⟨.mv (.l 5), none⟩] [(11, 6), (12, 7)])
 (.seq (.region [⟨.mv (.t 12), none⟩, ⟨.mv (.l 0), none⟩, ⟨.mv (.t 6), some ((.l 1), true)⟩, ⟨.bin 0 .lss (.l 2) (.c (.int .i64 (0))), some ((.l 1), true)⟩, ⟨.mv (.l 3), some ((.l 1), true)⟩, ⟨.mv (.t 11), some ((.l 4), false)⟩, ⟨.mv (.t 6), some ((.l 4), false)⟩, ⟨.bin 0 .lss (.l 5) (.l 6), some ((.l 4), false)⟩, ⟨.pick (.l 4) (.c (.bool true)) (.l 7), some ((.l 1), true)⟩, ⟨.pick (.l 1) (.l 8) (.c (.bool false)), none⟩] [(20, 9)])
 (.cond (.t 20) (.region [⟨.mv (.t 11), none⟩, ⟨.mv (.t 8), none⟩, ⟨.mv (.l 0), none⟩, ⟨.mv (.l 1), none⟩] [(6, 2), (7, 3)]) .skip)))))))
 (.region [⟨.bin 0 .add (.t 15) (.c (.int .i64 (1))), none⟩, ⟨.mv (.l 0), none⟩] [(15, 1)]))))
def c_i_MeetSteps : ACode :=
 (.seq (.region [⟨.box (.t 0), none⟩, ⟨.mv (.c (.int .i64 (0))), none⟩, ⟨.mv (.c (.int .i64 (0))), none⟩, ⟨.mv (.c (.bool false)), none⟩] [(1, 0), (2, 1), (3, 2), (4, 3)])
 (.seq (.seq (.region [⟨.load true 5 (.t 1), none⟩, ⟨.call (.c (.fn f_i_IsParty [] [])) [(.l 0)], none⟩, ⟨.un .not (.l 1), none⟩] [(13, 2)])
 (.cond (.t 13) (.seq (.region [⟨.mv (.c (.int .i64 (0))), none⟩, ⟨.mv (.c (.int .i64 (0))), none⟩, ⟨.mv (.c (.bool false)), none⟩] [(2, 0), (3, 1), (4, 2)])
 .ret) .skip))
 (.seq (.draw [⟨.load true 5 (.t 1), none, []⟩, ⟨.load true 5 (.t 1), none, []⟩, ⟨.call (.c (.fn f_i_Party_spots [] [])) [(.l 1)], none, [(0, ⟨.load true 5 (.t 1), none⟩)]⟩, ⟨.call (.c (.fn f_i_Party_stepsFrom [] [])) [(.l 0), (.l 2)], none, []⟩, ⟨.mv (.l 3), none, []⟩] [(5, 4)])
 (.seq (.region [⟨.mv (.c (.int .i64 (-1))), none⟩, ⟨.mv (.c (.int .i64 (0))), none⟩] [(6, 0), (7, 1)])
 (.seq (.seq (.region [⟨.fieldAddr 0 (.t 1), none⟩, ⟨.fieldAddr 0 (.l 0), none⟩, ⟨.load false 1 (.l 1), none⟩, ⟨.bin 0 .add (.l 2) (.c (.int .i64 (1))), none⟩, ⟨.mv (.c (.int .i64 (0))), none⟩] [(14, 3), (15, 4)])
 (.block 0 (.loop w_i_MeetSteps_2)))
 (.seq (.seq (.region [⟨.mv (.t 6), none⟩, ⟨.bin 0 .lss (.l 0) (.c (.int .i64 (0))), none⟩] [(21, 1)])
 (.cond (.t 21) (.seq (.region [⟨.mv (.c (.int .i64 (0))), none⟩, ⟨.mv (.c (.int .i64 (0))), none⟩, ⟨.mv (.c (.bool false)), none⟩] [(2, 0), (3, 1), (4, 2)])
 .ret) .skip))
 (.seq (.region [⟨.mv (.t 6), none⟩, ⟨.mv (.t 7), none⟩, ⟨.mv (.l 0), none⟩, ⟨.mv (.l 1), none⟩, ⟨.mv (.c (.bool true)), none⟩] [(2, 2), (3, 3), (4, 4)])
 .ret)))))))
def a_i_MeetSteps : AFun := ⟨[0, 1, 2, 3, 4, 5, 6, 7, 8, 9, 10, 11, 12, 15, 23, 24, 25, 30, 31, 32, 53, 58], 61, c_i_MeetSteps, [.tmp 2, .tmp 3, .tmp 4], 1⟩
def c_s_WalkTo : ACode :=
 (.seq (.region [⟨.box (.t 0), none⟩, ⟨.alloc [.int .i64 (0), .int .i64 (0), .int .i64 (0), .slice none 0 0 none, .int .i64 (0)], none⟩, ⟨.mv (.c (.bool false)), none⟩] [(2, 0), (3, 1), (4, 2)])
 (.seq (.seq (.region [⟨.load true 5 (.t 2), none⟩, ⟨.call (.c (.fn f_s_l11Party [] [])) [(.l 0)], none⟩, ⟨.un .not (.l 1), none⟩] [(5, 2)])
 (.cond (.t 5) (.seq (.region [⟨.build [.int .i64 (0), .int .i64 (0), .int .i64 (0), .slice none 0 0 none, .int .i64 (0)] [], none⟩, ⟨.store 5 (.t 3) (.l 0), none⟩, ⟨.mv (.c (.bool false)), none⟩] [(4, 2)])
 .ret) .skip))
 (.seq (.region [⟨.load true 5 (.t 2), none⟩, ⟨.mv (.t 1), none⟩, ⟨.call (.c (.fn f_s_l11Walk [] [])) [(.l 0), (.l 1)], none⟩, ⟨.extract 0 (.l 2), none⟩, ⟨.extract 1 (.l 2), none⟩, ⟨.store 5 (.t 3) (.l 3), none⟩, ⟨.mv (.l 4), none⟩] [(4, 6)])
 .ret)))
def a_s_WalkTo : AFun := ⟨[0, 1, 2, 4, 5, 8], 15, c_s_WalkTo, [.cell 3 true 5, .tmp 4], 2⟩
def c_i_WalkTo : ACode :=
 (.seq (.region [⟨.box (.t 0), none⟩, ⟨.alloc [.int .i64 (0), .int .i64 (0), .int .i64 (0), .slice none 0 0 none, .int .i64 (0)], none⟩, ⟨.mv (.c (.bool false)), none⟩] [(2, 0), (3, 1), (4, 2)])
 (.seq (.seq (.region [⟨.load true 5 (.t 2), none⟩, ⟨.call (.c (.fn f_i_IsParty [] [])) [(.l 0)], none⟩, ⟨.un .not (.l 1), none⟩, ⟨.mv (.l 2), none⟩, ⟨.mv (.t 1), some ((.l 3), false)⟩, ⟨.len (.l 4), some ((.l 3), false)⟩, ⟨.bin 0 .gtr (.l 5) (.c (.int .i64 (60))), some ((.l 3), false)⟩, ⟨.pick (.l 3) (.c (.bool true)) (.l 6), none⟩] [(7, 7)])
 (.cond (.t 7) (.seq (.region [⟨.build [.int .i64 (0), .int .i64 (0), .int .i64 (0), .slice none 0 0 none, .int .i64 (0)] [], none⟩, ⟨.store 5 (.t 3) (.l 0), none⟩, ⟨.mv (.c (.bool false)), none⟩] [(4, 2)])
 .ret) .skip))
 (.seq (.region [⟨.load true 5 (.t 2), none⟩, ⟨.mv (.t 1), none⟩, ⟨.call (.c (.fn f_i_Party_walk [] [])) [(.l 0), (.l 1)], none⟩, ⟨.mv (.l 2), none⟩, ⟨.extract 0 (.l 3), none⟩, ⟨.extract 1 (.l 3), none⟩, ⟨.alloc [.int .i64 (0), .int .i64 (0), .int .i64 (0)], none⟩, ⟨.store 3 (.l 6) (.l 4), none⟩, ⟨.mv (.l 5), none⟩] [(5, 6), (6, 8)])
 (.seq (.seq (.region [⟨.mv (.t 6), none⟩, ⟨.un .not (.l 0), none⟩] [(8, 1)])
 (.cond (.t 8) (.seq (.region [⟨.build [.int .i64 (0), .int .i64 (0), .int .i64 (0), .slice none 0 0 none, .int .i64 (0)] [], none⟩, ⟨.store 5 (.t 3) (.l 0), none⟩, ⟨.mv (.c (.bool false)), none⟩] [(4, 2)])
 .ret) .skip))
 (.seq (.region [⟨.load true 5 (.t 2), none⟩, ⟨.load true 3 (.t 5), none⟩, ⟨.call (.c (.fn f_i_Party_at [] [])) [(.l 0), (.l 1)], none⟩, ⟨.store 5 (.t 3) (.l 2), none⟩, ⟨.mv (.c (.bool true)), none⟩] [(4, 4)])
 .ret)))))
def a_i_WalkTo : AFun := ⟨[0, 1, 2, 4, 5, 6, 7, 15, 24], 29, c_i_WalkTo, [.cell 3 true 5, .tmp 4], 2⟩
def c_s_StepsTo : ACode :=
 (.seq (.region [⟨.box (.t 0), none⟩, ⟨.mv (.c (.int .i64 (0))), none⟩, ⟨.mv (.c (.bool false)), none⟩] [(2, 0), (3, 1), (4, 2)])
 (.seq (.seq (.region [⟨.load true 5 (.t 2), none⟩, ⟨.call (.c (.fn f_s_l11Party [] [])) [(.l 0)], none⟩, ⟨.un .not (.l 1), none⟩] [(8, 2)])
 (.cond (.t 8) (.seq (.region [⟨.mv (.c (.int .i64 (0))), none⟩, ⟨.mv (.c (.bool false)), none⟩] [(3, 0), (4, 1)])
 .ret) .skip))
 (.seq (.region [⟨.load true 5 (.t 2), none⟩, ⟨.mv (.t 1), none⟩, ⟨.call (.c (.fn f_s_l11Placed [] [])) [(.l 0), (.l 1)], none⟩, ⟨.mv (.l 2), none⟩, ⟨.extract 0 (.l 3), none⟩, ⟨.extract 1 (.l 3), none⟩, ⟨.alloc [.int .i64 (0), .int .i64 (0), .int .i64 (0), .slice none 0 0 none, .int .i64 (0)], none⟩, ⟨.store 5 (.l 6) (.l 4), none⟩, ⟨.mv (.l 5), none⟩] [(5, 6), (6, 8)])
 (.seq (.seq (.region [⟨.mv (.t 6), none⟩, ⟨.un .not (.l 0), none⟩] [(9, 1)])
 (.cond (.t 9) (.seq (.region [⟨.mv (.c (.int .i64 (0))), none⟩, ⟨.mv (.c (.bool false)), none⟩] [(3, 0), (4, 1)])
 .ret) .skip))
 (.seq (.draw [⟨.load true 5 (.t 2), none, []⟩, ⟨.load true 5 (.t 5), none, []⟩, ⟨.call (.c (.fn f_s_l11Spread [] [])) [(.l 0)], none, [(1, ⟨.load true 5 (.t 5), none⟩)]⟩, ⟨.call (.c (.fn f_s_l11Key [] [])) [(.l 1)], none, []⟩, ⟨.indexAddrS 1 (.l 2) (.l 3), none, []⟩, ⟨.load false 1 (.l 4), none, []⟩, ⟨.mv (.l 5), none, []⟩] [(7, 6)])
 (.seq (.region [⟨.mv (.t 7), none⟩, ⟨.call (.c (.fn f_s_l1Most [] [])) [(.l 0), (.c (.int .i64 (0)))], none⟩, ⟨.mv (.t 7), none⟩, ⟨.bin 0 .geq (.l 2) (.c (.int .i64 (0))), none⟩, ⟨.mv (.l 1), none⟩, ⟨.mv (.l 3), none⟩] [(3, 4), (4, 5)])
 .ret))))))
def a_s_StepsTo : AFun := ⟨[0, 1, 2, 4, 5, 6, 7, 8, 11, 19], 30, c_s_StepsTo, [.tmp 3, .tmp 4], 1⟩
def w_l_toIntS_1 : ACode :=
 (.seq (.seq (.region [⟨.mv (.t 3), none⟩, ⟨.mv (.t 0), none⟩, ⟨.len (.l 1), none⟩, ⟨.bin 0 .lss (.l 0) (.l 2), none⟩] [(4, 3)])
 (.cond (.t 4) .skip (.exit 0)))
 (.seq (.block 1 (.region [⟨.mv (.t 2), none⟩, ⟨.mv (.t 3), none⟩, ⟨.mv (.t 0), none⟩, ⟨.mv (.t 3), none⟩, ⟨.indexAddrS 1 (.l 2) (.l 3), none⟩, ⟨.load false 1 (.l 4), none⟩, ⟨.indexAddrS 1 (.l 0) (.l 1), none⟩, ⟨.store 1 (.l 6) (.l 5), none⟩] []))
 (.region [⟨.mv (.t 3), none⟩, ⟨.bin 0 .add (.l 0) (.c (.int .i64 (1))), none⟩, ⟨.mv (.l 1), none⟩] [(3, 2)])))
def c_l_toIntS : ACode :=
 (.seq (.region [⟨.mv (.c (.slice none 0 0 none)), none⟩] [(1, 0)])
 (.seq (.region [⟨.mv (.t 0), none⟩, ⟨.len (.l 0), none⟩, ⟨.makeSlice 1 8 [.int .i64 (0)] (.l 1) (.l 1), none⟩, ⟨.mv (.l 2), none⟩] [(2, 3)])
 (.seq (.seq (.region [⟨.mv (.c (.int .i64 (0))), none⟩] [(3, 0)])
 (.block 0 (.loop w_l_toIntS_1)))
 (.seq (.region [⟨.mv (.t 2), none⟩, ⟨.mv (.l 0), none⟩] [(1, 1)])
 .ret))))
def a_l_toIntS : AFun := ⟨[0, 2, 3, 4, 11], 22, c_l_toIntS, [.tmp 1], 2⟩
def c_i_StepsTo : ACode :=
 (.seq (.region [⟨.box (.t 0), none⟩, ⟨.mv (.c (.int .i64 (0))), none⟩, ⟨.mv (.c (.bool false)), none⟩] [(2, 0), (3, 1), (4, 2)])
 (.seq (.region [⟨.load true 5 (.t 2), none⟩, ⟨.mv (.t 1), none⟩, ⟨.call (.c (.fn f_i_Party_spotsOf [] [])) [(.l 0), (.l 1)], none⟩, ⟨.mv (.l 2), none⟩, ⟨.extract 0 (.l 3), none⟩, ⟨.extract 1 (.l 3), none⟩, ⟨.alloc [.int .i64 (0), .int .i64 (0), .int .i64 (0)], none⟩, ⟨.store 3 (.l 6) (.l 4), none⟩, ⟨.mv (.l 5), none⟩] [(5, 6), (6, 8)])
 (.seq (.seq (.region [⟨.mv (.t 6), none⟩, ⟨.un .not (.l 0), none⟩] [(9, 1)])
 (.cond (.t 9) (.seq (.region [⟨.mv (.c (.int .i64 (0))), none⟩, ⟨.mv (.c (.bool false)), none⟩] [(3, 0), (4, 1)])
 .ret) .skip))
 (.seq (.draw [⟨.load true 5 (.t 2), none, []⟩, ⟨.load true 5 (.t 2), none, []⟩, ⟨.load true 3 (.t 5), none, []⟩, ⟨.call (.c (.fn f_i_Party_spots [] [])) [(.l 1)], none, [(0, ⟨.load true 5 (.t 2), none⟩), (2, ⟨.load true 3 (.t 5), none⟩)]⟩, ⟨.call (.c (.fn f_i_Party_stepsFrom [] [])) [(.l 0), (.l 3)], none, [(2, ⟨.load true 3 (.t 5), none⟩)]⟩, ⟨.getMap true (.l 4) (.l 2), none, []⟩, ⟨.mv (.l 5), none, []⟩, ⟨.extract 0 (.l 6), none, []⟩, ⟨.extract 1 (.l 6), none, []⟩, ⟨.mv (.l 7), none, []⟩, ⟨.mv (.l 8), none, []⟩] [(7, 9), (8, 10)])
 (.seq (.region [⟨.mv (.t 7), none⟩, ⟨.mv (.t 8), none⟩, ⟨.mv (.l 0), none⟩, ⟨.mv (.l 1), none⟩] [(3, 2), (4, 3)])
 .ret)))))
def a_i_StepsTo : AFun := ⟨[0, 1, 2, 4, 5, 6, 7, 8, 9, 17], 29, c_i_StepsTo, [.tmp 3, .tmp 4], 1⟩
def w_l_eqIntS_1 : ACode :=
 (.seq (.seq (.region [⟨.mv (.t 3), none⟩, ⟨.mv (.t 0), none⟩, ⟨.len (.l 1), none⟩, ⟨.bin 0 .lss (.l 0) (.l 2), none⟩] [(5, 3)])
 (.cond (.t 5) .skip (.exit 0)))
 (.seq (.block 1 (.seq (.draw [⟨.mv (.t 0), none, []⟩, ⟨.mv (.t 3), none, []⟩, ⟨.indexAddrS 1 (.l 0) (.l 1), none, []⟩, ⟨.load false 1 (.l 2), none, []⟩, ⟨.mv (.t 1), none, []⟩, ⟨.mv (.t 3), none, []⟩, ⟨.indexAddrS 1 (.l 4) (.l 5), none, []⟩, ⟨.load false 1 (.l 6), none, []⟩, ⟨.bin 0 .neq (.l 3) (.l 7), none, []⟩] [(6, 8)])
 (.cond (.t 6) (.seq (.region [⟨.mv (.c (.bool false)), none⟩] [(2, 0)])
 .ret) .skip)))
 (.region [⟨.mv (.t 3), none⟩, ⟨.bin 0 .add (.l 0) (.c (.int .i64 (1))), none⟩, ⟨.mv (.l 1), none⟩] [(3, 2)])))
def c_l_eqIntS : ACode :=
 (.seq (.region [⟨.mv (.c (.bool false)), none⟩] [(2, 0)])
 (.seq (.seq (.region [⟨.mv (.t 0), none⟩, ⟨.len (.l 0), none⟩, ⟨.mv (.t 1), none⟩, ⟨.len (.l 2), none⟩, ⟨.bin 0 .neq (.l 1) (.l 3), none⟩] [(4, 4)])
 (.cond (.t 4) (.seq (.region [⟨.mv (.c (.bool false)), none⟩] [(2, 0)])
 .ret) .skip))
 (.seq (.seq (.region [⟨.mv (.c (.int .i64 (0))), none⟩] [(3, 0)])
 (.block 0 (.loop w_l_eqIntS_1)))
 (.seq (.region [⟨.mv (.c (.bool true)), none⟩] [(2, 0)])
 .ret))))
def a_l_eqIntS : AFun := ⟨[0, 1, 4, 5, 10, 14, 25], 26, c_l_eqIntS, [.tmp 2], 1⟩
def w_s_FirstWalkTo_1 : ACode :=
 (.seq (.seq (.draw [⟨.mv (.t 9), none, []⟩, ⟨.load true 5 (.t 10), none, []⟩, ⟨.mv (.t 11), none, []⟩, ⟨.mv (.t 12), none, []⟩, ⟨.indexAddrS 2 (.l 2) (.l 3), none, []⟩, ⟨.load true 2 (.l 4), none, []⟩, ⟨.mv (.t 9), none, []⟩, ⟨.load true 5 (.t 10), none, []⟩, ⟨.call (.c (.fn f_s_l11Moved [] [])) [(.l 1), (.l 5)], none, [(7, ⟨.load true 5 (.t 10), none⟩)]⟩, ⟨.call (.c (.fn f_s_l11Key [] [])) [(.l 8)], none, [(7, ⟨.load true 5 (.t 10), none⟩)]⟩, ⟨.indexAddrS 1 (.l 0) (.l 9), none, []⟩, ⟨.load false 1 (.l 10), none, []⟩, ⟨.call (.c (.fn f_s_l11Key [] [])) [(.l 7)], none, [(11, ⟨.load false 1 (.l 10), none⟩)]⟩, ⟨.indexAddrS 1 (.l 6) (.l 12), none, []⟩, ⟨.load false 1 (.l 13), none, []⟩, ⟨.bin 0 .sub (.l 14) (.c (.int .i64 (1))), none, []⟩, ⟨.bin 0 .neq (.l 11) (.l 15), none, []⟩] [(15, 16)])
 (.cond (.t 15) .skip (.exit 2)))
 (.block 3 (.region [⟨.mv (.t 12), none⟩, ⟨.bin 0 .add (.l 0) (.c (.int .i64 (1))), none⟩, ⟨.mv (.l 1), none⟩] [(12, 2)])))
def w_s_FirstWalkTo_2 : ACode :=
 (.seq (.seq (.region [⟨.mv (.t 5), none⟩, ⟨.len (.l 0), none⟩, ⟨.mv (.t 6), none⟩, ⟨.bin 0 .lss (.l 1) (.l 2), none⟩] [(14, 3)])
 (.cond (.t 14) .skip (.exit 0)))
 (.block 1 (.seq (.region [⟨.load true 5 (.t 10), none⟩, ⟨.call (.c (.fn f_s_l11Moves [] [])) [(.l 0)], none⟩, ⟨.mv (.l 1), none⟩, ⟨.mv (.c (.int .i64 (0))), none⟩] [(11, 2), (12, 3)])
 (.seq (.block 2 (.loop w_s_FirstWalkTo_1))
 (.seq (.region [⟨.mv (.t 5), none⟩, ⟨.mv (.t 11), none⟩, ⟨.mv (.t 12), none⟩, ⟨.indexAddrS 2 (.l 1) (.l 2), none⟩, ⟨.load true 2 (.l 3), none⟩, ⟨.buildSlice 2 1 [.int .i64 (0), .int .i64 (0)] [(0, 2, (.l 4))], none⟩, ⟨.append false 2 16 (.l 0) (.l 5), none⟩, ⟨.mv (.l 6), none⟩] [(5, 7)])
 (.draw [⟨.load true 5 (.t 10), none, []⟩, ⟨.mv (.t 11), none, []⟩, ⟨.mv (.t 12), none, []⟩, ⟨.indexAddrS 2 (.l 1) (.l 2), none, []⟩, ⟨.load true 2 (.l 3), none, []⟩, ⟨.call (.c (.fn f_s_l11Moved [] [])) [(.l 0), (.l 4)], none, []⟩, ⟨.store 5 (.t 10) (.l 5), none, []⟩] []))))))
def c_s_FirstWalkTo : ACode :=
 (.seq (.region [⟨.box (.t 0), none⟩, ⟨.mv (.c (.slice none 0 0 none)), none⟩, ⟨.mv (.c (.bool false)), none⟩] [(2, 0), (3, 1), (4, 2)])
 (.seq (.region [⟨.buildSlice 2 0 [] [], none⟩, ⟨.mv (.l 0), none⟩] [(5, 1)])
 (.seq (.region [⟨.load true 5 (.t 2), none⟩, ⟨.mv (.t 1), none⟩, ⟨.call (.c (.fn f_s_StepsTo [] [])) [(.l 0), (.l 1)], none⟩, ⟨.mv (.l 2), none⟩, ⟨.extract 0 (.l 3), none⟩, ⟨.extract 1 (.l 3), none⟩, ⟨.mv (.l 4), none⟩, ⟨.mv (.l 5), none⟩] [(6, 6), (7, 7)])
 (.seq (.seq (.region [⟨.mv (.t 7), none⟩, ⟨.un .not (.l 0), none⟩, ⟨.mv (.l 1), none⟩, ⟨.mv (.t 6), some ((.l 2), false)⟩, ⟨.bin 0 .gtr (.l 3) (.c (.int .i64 (60))), some ((.l 2), false)⟩, ⟨.pick (.l 2) (.c (.bool true)) (.l 4), none⟩] [(13, 5)])
 (.cond (.t 13) (.seq (.region [⟨.mv (.t 5), none⟩, ⟨.mv (.l 0), none⟩, ⟨.mv (.c (.bool false)), none⟩] [(3, 1), (4, 2)])
 .ret) .skip))
 (.seq (.region [⟨.load true 5 (.t 2), none⟩, ⟨.mv (.t 1), none⟩, ⟨.call (.c (.fn f_s_l11Placed [] [])) [(.l 0), (.l 1)], none⟩, ⟨.mv (.l 2), none⟩, ⟨.extract 0 (.l 3), none⟩, ⟨.extract 1 (.l 3), none⟩, ⟨.alloc [.int .i64 (0), .int .i64 (0), .int .i64 (0), .slice none 0 0 none, .int .i64 (0)], none⟩, ⟨.store 5 (.l 6) (.l 4), none⟩, ⟨.mv (.l 5), none⟩] [(8, 6)])
 (.seq (.draw [⟨.load true 5 (.t 8), none, []⟩, ⟨.load true 5 (.t 2), none, []⟩, ⟨.call (.c (.fn f_s_l11Spread [] [])) [(.l 0)], none, [(1, ⟨.load true 5 (.t 2), none⟩)]⟩, ⟨.alloc [.int .i64 (0), .int .i64 (0), .int .i64 (0), .slice none 0 0 none, .int .i64 (0)], none, [(0, ⟨.load true 5 (.t 8), none⟩), (1, ⟨.load true 5 (.t 2), none⟩)]⟩, ⟨.mv (.l 2), none, []⟩, ⟨.store 5 (.l 3) (.l 1), none, []⟩] [(9, 4), (10, 3)])
 (.seq (.block 0 (.loop w_s_FirstWalkTo_2))
 (.seq (.region [⟨.mv (.t 5), none⟩, ⟨.mv (.l 0), none⟩, ⟨.mv (.c (.bool true)), none⟩] [(3, 1), (4, 2)])
 .ret))))))))
def a_s_FirstWalkTo : AFun := ⟨[0, 1, 2, 4, 5, 6, 7, 8, 9, 11, 12, 13, 14, 27, 41, 60], 77, c_s_FirstWalkTo, [.tmp 3, .tmp 4], 2⟩
def w_i_FirstWalkTo_1 : ACode :=
 (.seq (.region [⟨.bin 0 .lss (.t 19) (.t 18), none⟩] [(20, 0)])
 (.seq (.cond (.t 20) .skip (.exit 2))
 (.seq (.block 3 (.seq (.region [⟨.indexAddrS 2 (.t 17) (.t 19), none⟩, ⟨.load true 2 (.l 0), none⟩, ⟨.alloc [.int .i64 (0), .int .i64 (0)], none⟩, ⟨.store 2 (.l 2) (.l 1), none⟩] [(12, 2)])
 (.seq (.region [⟨.load true 3 (.t 8), none⟩, ⟨.alloc [.int .i64 (0), .int .i64 (0), .int .i64 (0)], none⟩, ⟨.store 3 (.l 1) (.l 0), none⟩] [(13, 1)])
 (.seq (.region [⟨.indexAddrA 2 1 (.t 12) (.c (.int .i64 (0))), none⟩, ⟨.load false 1 (.l 0), none⟩, ⟨.indexAddrA 2 1 (.t 12) (.c (.int .i64 (1))), none⟩, ⟨.load false 1 (.l 2), none⟩, ⟨.indexAddrA 3 1 (.t 13) (.l 1), none⟩, ⟨.store 1 (.l 4) (.l 3), none⟩] [])
 (.seq (.region [⟨.mv (.t 7), none⟩, ⟨.load true 3 (.t 13), none⟩, ⟨.getMap false (.l 0) (.l 1), none⟩, ⟨.mv (.t 9), none⟩, ⟨.bin 0 .sub (.l 3) (.c (.int .i64 (1))), none⟩, ⟨.bin 0 .eql (.l 2) (.l 4), none⟩] [(21, 5)])
 (.cond (.t 21) (.seq (.draw [⟨.mv (.t 11), none, []⟩, ⟨.load true 2 (.t 12), none, []⟩, ⟨.load true 3 (.t 13), none, []⟩, ⟨.buildSlice 2 1 [.int .i64 (0), .int .i64 (0)] [(0, 2, (.l 1))], none, [(2, ⟨.load true 3 (.t 13), none⟩)]⟩, ⟨.append false 2 16 (.l 0) (.l 3), none, [(2, ⟨.load true 3 (.t 13), none⟩)]⟩, ⟨.mv (.l 4), none, []⟩, ⟨.store 3 (.t 8) (.l 2), none, []⟩] [(11, 5)])
 (.exit 2)) .skip))))))
 (.region [⟨.bin 0 .add (.t 19) (.c (.int .i64 (1))), none⟩, ⟨.mv (.l 0), none⟩] [(19, 1)]))))
def w_i_FirstWalkTo_2 : ACode :=
 (.seq (.seq (.region [⟨.mv (.t 9), none⟩, ⟨.bin 0 .gtr (.l 0) (.c (.int .i64 (0))), none⟩] [(16, 1)])
 (.cond (.t 16) .skip (.exit 0)))
 (.seq (.block 1 (.seq (.region [⟨.load true 5 (.t 2), none⟩, ⟨.load true 3 (.t 8), none⟩, ⟨.call (.c (.fn f_i_Party_moves [] [])) [(.l 0), (.l 1)], none⟩, ⟨.len (.l 2), none⟩, ⟨.mv (.c (.int .i64 (0))), none⟩] [(17, 2), (18, 3), (19, 4)])
 (.block 2 (.loop w_i_FirstWalkTo_1))))
 (.region [⟨.mv (.t 9), none⟩, ⟨.bin 0 .sub (.l 0) (.c (.int .i64 (1))), none⟩, ⟨.mv (.l 1), none⟩] [(9, 2)])))
def c_i_FirstWalkTo : ACode :=
 (.seq (.region [⟨.box (.t 0), none⟩, ⟨.mv (.c (.slice none 0 0 none)), none⟩, ⟨.mv (.c (.bool false)), none⟩] [(2, 0), (3, 1), (4, 2)])
 (.seq (.region [⟨.load true 5 (.t 2), none⟩, ⟨.mv (.t 1), none⟩, ⟨.call (.c (.fn f_i_Party_spotsOf [] [])) [(.l 0), (.l 1)], none⟩, ⟨.mv (.l 2), none⟩, ⟨.extract 0 (.l 3), none⟩, ⟨.extract 1 (.l 3), none⟩, ⟨.alloc [.int .i64 (0), .int .i64 (0), .int .i64 (0)], none⟩, ⟨.store 3 (.l 6) (.l 4), none⟩, ⟨.mv (.l 5), none⟩] [(5, 6), (6, 8)])
 (.seq (.seq (.region [⟨.mv (.t 6), none⟩, ⟨.un .not (.l 0), none⟩, ⟨.mv (.l 1), none⟩, ⟨.load true 5 (.t 2), some ((.l 2), false)⟩, ⟨.load true 3 (.t 5), some ((.l 2), false)⟩, ⟨.call (.c (.fn f_i_Party_rests [] [])) [(.l 3), (.l 4)], some ((.l 2), false)⟩, ⟨.un .not (.l 5), some ((.l 2), false)⟩, ⟨.pick (.l 2) (.c (.bool true)) (.l 6), none⟩] [(14, 7)])
 (.cond (.t 14) (.seq (.region [⟨.mv (.c (.slice none 0 0 none)), none⟩, ⟨.mv (.c (.bool false)), none⟩] [(3, 0), (4, 1)])
 .ret) .skip))
 (.seq (.draw [⟨.load true 5 (.t 2), none, []⟩, ⟨.load true 3 (.t 5), none, []⟩, ⟨.load true 5 (.t 2), none, []⟩, ⟨.call (.c (.fn f_i_Party_stepsFrom [] [])) [(.l 0), (.l 1)], none, [(2, ⟨.load true 5 (.t 2), none⟩)]⟩, ⟨.call (.c (.fn f_i_Party_spots [] [])) [(.l 2)], none, []⟩, ⟨.alloc [.int .i64 (0), .int .i64 (0), .int .i64 (0)], none, [(0, ⟨.load true 5 (.t 2), none⟩), (1, ⟨.load true 3 (.t 5), none⟩), (2, ⟨.load true 5 (.t 2), none⟩)]⟩, ⟨.mv (.l 3), none, []⟩, ⟨.store 3 (.l 5) (.l 4), none, []⟩] [(7, 6), (8, 5)])
 (.seq (.region [⟨.mv (.t 7), none⟩, ⟨.load true 3 (.t 8), none⟩, ⟨.getMap true (.l 0) (.l 1), none⟩, ⟨.mv (.l 2), none⟩, ⟨.extract 0 (.l 3), none⟩, ⟨.extract 1 (.l 3), none⟩, ⟨.mv (.l 4), none⟩, ⟨.mv (.l 5), none⟩] [(9, 6), (10, 7)])
 (.seq (.seq (.region [⟨.mv (.t 10), none⟩, ⟨.un .not (.l 0), none⟩, ⟨.mv (.l 1), none⟩, ⟨.mv (.t 9), some ((.l 2), false)⟩, ⟨.bin 0 .gtr (.l 3) (.c (.int .i64 (60))), some ((.l 2), false)⟩, ⟨.pick (.l 2) (.c (.bool true)) (.l 4), none⟩] [(15, 5)])
 (.cond (.t 15) (.seq (.region [⟨.mv (.c (.slice none 0 0 none)), none⟩, ⟨.mv (.c (.bool false)), none⟩] [(3, 0), (4, 1)])
 .ret) .skip))
 (.seq (.region [⟨.buildSlice 2 0 [] [], none⟩, ⟨.mv (.l 0), none⟩] [(11, 1)])
 (.seq (.block 0 (.loop w_i_FirstWalkTo_2))
 (.seq (.region [⟨.mv (.t 11), none⟩, ⟨.mv (.l 0), none⟩, ⟨.mv (.c (.bool true)), none⟩] [(3, 1), (4, 2)])
 .ret)))))))))
def a_i_FirstWalkTo : AFun := ⟨[0, 1, 2, 4, 5, 6, 7, 8, 9, 10, 11, 12, 14, 15, 29, 46, 49, 54, 55, 56, 57, 71], 79, c_i_FirstWalkTo, [.tmp 3, .tmp 4], 2⟩
def w_l_markIntS_1 : ACode :=
 (.seq (.seq (.region [⟨.mv (.t 3), none⟩, ⟨.mv (.t 0), none⟩, ⟨.len (.l 1), none⟩, ⟨.bin 0 .lss (.l 0) (.l 2), none⟩] [(4, 3)])
 (.cond (.t 4) .skip (.exit 0)))
 (.seq (.block 1 (.seq (.region [⟨.mv (.t 0), none⟩, ⟨.mv (.t 3), none⟩, ⟨.mv (.t 1), none⟩, ⟨.indexAddrS 1 (.l 0) (.l 1), none⟩, ⟨.store 1 (.l 3) (.l 2), none⟩] [])
 (.region [⟨.mv (.t 1), none⟩, ⟨.bin 0 .add (.l 0) (.c (.int .i64 (1))), none⟩, ⟨.mv (.l 1), none⟩] [(1, 2)])))
 (.region [⟨.mv (.t 3), none⟩, ⟨.bin 0 .add (.l 0) (.c (.int .i64 (1))), none⟩, ⟨.mv (.l 1), none⟩] [(3, 2)])))
def c_l_markIntS : ACode :=
 (.seq (.region [⟨.mv (.c (.int .i64 (0))), none⟩] [(2, 0)])
 (.seq (.seq (.region [⟨.mv (.c (.int .i64 (0))), none⟩] [(3, 0)])
 (.block 0 (.loop w_l_markIntS_1)))
 (.seq (.region [⟨.mv (.t 1), none⟩, ⟨.mv (.l 0), none⟩] [(2, 1)])
 .ret)))
def a_l_markIntS : AFun := ⟨[0, 1, 4, 5, 9], 19, c_l_markIntS, [.tmp 2], 1⟩
def c_l_rBig : ACode :=
 (.seq (.region [⟨.mv (.c (.bool false)), none⟩] [(1, 0)])
 (.seq (.region [⟨.mv (.t 0), none⟩, ⟨.len (.l 0), none⟩, ⟨.bin 0 .gtr (.l 1) (.c (.int .i64 (65536))), none⟩, ⟨.mv (.l 2), none⟩] [(1, 3)])
 .ret))
def a_l_rBig : AFun := ⟨[0, 2], 6, c_l_rBig, [.tmp 1], 1⟩
def c_s_DrawCountPlaces : ACode :=
 (.seq (.region [⟨.alloc [.int .i64 (0), .int .i64 (0), .int .i64 (0), .slice none 0 0 none, .int .i64 (0)], none⟩] [(1, 0)])
 (.seq (.region [⟨.mv (.t 0), none⟩, ⟨.call (.c (.fn f_s_DrawIsParty [] [])) [(.l 0)], none⟩, ⟨.store 5 (.t 1) (.l 1), none⟩] [])
 .ret))
def a_s_DrawCountPlaces : AFun := ⟨[0, 2], 5, c_s_DrawCountPlaces, [.cell 1 true 5], 2⟩
def c_s_DrawFarthestOut : ACode :=
 (.seq (.region [⟨.alloc [.int .i64 (0), .int .i64 (0), .int .i64 (0), .slice none 0 0 none, .int .i64 (0)], none⟩, ⟨.mv (.c (.int .i64 (0))), none⟩] [(1, 0), (2, 1)])
 (.seq (.region [⟨.mv (.t 0), none⟩, ⟨.build [.slice none 0 0 none, .int .i64 (0), .int .u64 (0)] [(0, 1, (.l 0))], none⟩, ⟨.box (.l 1), none⟩, ⟨.mv (.l 2), none⟩] [(3, 3)])
 (.seq (.region [⟨.mv (.t 3), none⟩, ⟨.call (.c (.fn f_s_l1Cur_party [] [])) [(.l 0)], none⟩, ⟨.alloc [.int .i64 (0), .int .i64 (0), .int .i64 (0), .slice none 0 0 none, .int .i64 (0)], none⟩, ⟨.store 5 (.l 2) (.l 1), none⟩] [(4, 2)])
 (.seq (.draw [⟨.load true 5 (.t 4), none, []⟩, ⟨.mv (.t 3), none, []⟩, ⟨.fieldAddr 3 (.t 4), none, []⟩, ⟨.load false 1 (.l 2), none, []⟩, ⟨.len (.l 3), none, []⟩, ⟨.bin 0 .add (.l 4) (.c (.int .i64 (1))), none, []⟩, ⟨.mv (.t 3), none, []⟩, ⟨.call (.c (.fn f_s_l1Cur_pick [] [])) [(.l 1), (.l 5)], none, [(0, ⟨.load true 5 (.t 4), none⟩)]⟩, ⟨.call (.c (.fn f_s_l1Cur_pick [] [])) [(.l 6), (.c (.int .i64 (24)))], none, [(0, ⟨.load true 5 (.t 4), none⟩)]⟩, ⟨.bin 0 .quo (.l 8) (.c (.int .i64 (23))), none, []⟩, ⟨.bin 0 .sub (.l 7) (.l 9), none, []⟩, ⟨.store 5 (.t 1) (.l 0), none, []⟩, ⟨.mv (.l 10), none, []⟩] [(2, 12)])
 .ret))))
def a_s_DrawFarthestOut : AFun := ⟨[0, 2, 3, 4, 5], 22, c_s_DrawFarthestOut, [.cell 1 true 5, .tmp 2], 2⟩
def c_s_DrawFirstWalkTo : ACode :=
 (.seq (.region [⟨.alloc [.int .i64 (0), .int .i64 (0), .int .i64 (0), .slice none 0 0 none, .int .i64 (0)], none⟩, ⟨.mv (.c (.slice none 0 0 none)), none⟩] [(1, 0), (2, 1)])
 (.seq (.region [⟨.mv (.t 0), none⟩, ⟨.call (.c (.fn f_s_DrawStepsTo [] [])) [(.l 0)], none⟩, ⟨.extract 0 (.l 1), none⟩, ⟨.extract 1 (.l 1), none⟩, ⟨.store 5 (.t 1) (.l 2), none⟩, ⟨.mv (.l 3), none⟩] [(2, 5)])
 .ret))
def a_s_DrawFirstWalkTo : AFun := ⟨[0, 2, 3], 8, c_s_DrawFirstWalkTo, [.cell 1 true 5, .tmp 2], 2⟩
def w_l_rCells_1 : ACode :=
 (.seq (.seq (.region [⟨.mv (.t 3), none⟩, ⟨.mv (.t 0), none⟩, ⟨.len (.l 1), none⟩, ⟨.bin 0 .lss (.l 0) (.l 2), none⟩] [(5, 3)])
 (.cond (.t 5) .skip (.exit 0)))
 (.seq (.block 1 (.seq (.draw [⟨.mv (.t 0), none, []⟩, ⟨.mv (.t 3), none, []⟩, ⟨.indexAddrS 2 (.l 0) (.l 1), none, []⟩, ⟨.load true 2 (.l 2), none, []⟩, ⟨.mv (.t 1), none, []⟩, ⟨.mv (.t 3), none, []⟩, ⟨.indexAddrS 2 (.l 4) (.l 5), none, []⟩, ⟨.load true 2 (.l 6), none, []⟩, ⟨.eqCells [0, 0] true (.l 3) (.l 7), none, []⟩] [(6, 8)])
 (.cond (.t 6) (.seq (.region [⟨.mv (.c (.bool false)), none⟩] [(2, 0)])
 .ret) .skip)))
 (.region [⟨.mv (.t 3), none⟩, ⟨.bin 0 .add (.l 0) (.c (.int .i64 (1))), none⟩, ⟨.mv (.l 1), none⟩] [(3, 2)])))
def c_l_rCells : ACode :=
 (.seq (.region [⟨.mv (.c (.bool false)), none⟩] [(2, 0)])
 (.seq (.seq (.region [⟨.mv (.t 0), none⟩, ⟨.len (.l 0), none⟩, ⟨.mv (.t 1), none⟩, ⟨.len (.l 2), none⟩, ⟨.bin 0 .neq (.l 1) (.l 3), none⟩] [(4, 4)])
 (.cond (.t 4) (.seq (.region [⟨.mv (.c (.bool false)), none⟩] [(2, 0)])
 .ret) .skip))
 (.seq (.seq (.region [⟨.mv (.c (.int .i64 (0))), none⟩] [(3, 0)])
 (.block 0 (.loop w_l_rCells_1)))
 (.seq (.region [⟨.mv (.c (.bool true)), none⟩] [(2, 0)])
 .ret))))
def a_l_rCells : AFun := ⟨[0, 1, 4, 5, 10, 14, 25], 26, c_l_rCells, [.tmp 2], 1⟩
def c_s_DrawMoveOne : ACode :=
 (.seq (.region [⟨.alloc [.int .i64 (0), .int .i64 (0), .int .i64 (0), .slice none 0 0 none, .int .i64 (0)], none⟩, ⟨.alloc [.int .i64 (0), .int .i64 (0)], none⟩] [(1, 0), (2, 1)])
 (.seq (.region [⟨.mv (.t 0), none⟩, ⟨.build [.slice none 0 0 none, .int .i64 (0), .int .u64 (0)] [(0, 1, (.l 0))], none⟩, ⟨.box (.l 1), none⟩, ⟨.mv (.l 2), none⟩] [(3, 3)])
 (.seq (.region [⟨.mv (.t 3), none⟩, ⟨.call (.c (.fn f_s_l1Cur_party [] [])) [(.l 0)], none⟩, ⟨.alloc [.int .i64 (0), .int .i64 (0), .int .i64 (0), .slice none 0 0 none, .int .i64 (0)], none⟩, ⟨.store 5 (.l 2) (.l 1), none⟩] [(4, 2)])
 (.seq (.draw [⟨.load true 5 (.t 4), none, []⟩, ⟨.mv (.t 3), none, []⟩, ⟨.load true 5 (.t 4), none, []⟩, ⟨.call (.c (.fn f_s_l1Cur_moveOf [] [])) [(.l 1), (.l 2)], none, [(0, ⟨.load true 5 (.t 4), none⟩)]⟩, ⟨.store 5 (.t 1) (.l 0), none, []⟩, ⟨.store 2 (.t 2) (.l 3), none, []⟩] [])
 .ret))))
def a_s_DrawMoveOne : AFun := ⟨[0, 2, 3, 4, 5], 15, c_s_DrawMoveOne, [.cell 1 true 5, .cell 2 true 2], 2⟩
def c_l_rParty : ACode :=
 (.seq (.region [⟨.box (.t 0), none⟩, ⟨.box (.t 1), none⟩, ⟨.mv (.c (.bool false)), none⟩] [(2, 0), (3, 1), (4, 2)])
 (.seq (.region [⟨.fieldAddr 0 (.t 2), none⟩, ⟨.load true 3 (.l 0), none⟩, ⟨.fieldAddr 0 (.t 3), none⟩, ⟨.load true 3 (.l 2), none⟩, ⟨.eqCells [0, 0, 0] false (.l 1) (.l 3), none⟩, ⟨.mv (.l 4), none⟩, ⟨.fieldAddr 4 (.t 2), some ((.l 5), true)⟩, ⟨.load false 1 (.l 6), some ((.l 5), true)⟩, ⟨.fieldAddr 4 (.t 3), some ((.l 5), true)⟩, ⟨.load false 1 (.l 8), some ((.l 5), true)⟩, ⟨.bin 0 .eql (.l 7) (.l 9), some ((.l 5), true)⟩, ⟨.pick (.l 5) (.l 10) (.c (.bool false)), none⟩, ⟨.mv (.l 11), none⟩, ⟨.fieldAddr 3 (.t 2), some ((.l 12), true)⟩, ⟨.load false 1 (.l 13), some ((.l 12), true)⟩, ⟨.fieldAddr 3 (.t 3), some ((.l 12), true)⟩, ⟨.load false 1 (.l 15), some ((.l 12), true)⟩, ⟨.call (.c (.fn f_l_rRow [] [])) [(.l 14), (.l 16)], some ((.l 12), true)⟩, ⟨.pick (.l 12) (.l 17) (.c (.bool false)), none⟩, ⟨.mv (.l 18), none⟩] [(4, 19)])
 .ret))
def a_l_rParty : AFun := ⟨[0, 1, 2, 3, 4], 24, c_l_rParty, [.tmp 4], 1⟩
def c_s_DrawWalkTo : ACode :=
 (.seq (.region [⟨.alloc [.int .i64 (0), .int .i64 (0), .int .i64 (0), .slice none 0 0 none, .int .i64 (0)], none⟩, ⟨.mv (.c (.slice none 0 0 none)), none⟩] [(1, 0), (2, 1)])
 (.seq (.region [⟨.mv (.t 0), none⟩, ⟨.call (.c (.fn f_s_DrawIsWalkOn [] [])) [(.l 0)], none⟩, ⟨.extract 0 (.l 1), none⟩, ⟨.extract 1 (.l 1), none⟩, ⟨.store 5 (.t 1) (.l 2), none⟩, ⟨.mv (.l 3), none⟩] [(2, 5)])
 .ret))
def a_s_DrawWalkTo : AFun := ⟨[0, 2, 3], 8, c_s_DrawWalkTo, [.cell 1 true 5, .tmp 2], 2⟩
def c_l_szLoadS : ACode :=
 (.seq (.region [⟨.mv (.c (.int .i64 (0))), none⟩] [(2, 0)])
 (.seq (.region [⟨.mv (.t 1), none⟩, ⟨.mv (.t 0), none⟩, ⟨.len (.l 1), none⟩, ⟨.bin 0 .sub (.l 0) (.l 2), none⟩, ⟨.mv (.l 3), none⟩] [(1, 4)])
 (.seq (.seq (.region [⟨.mv (.t 1), none⟩, ⟨.bin 0 .lss (.l 0) (.c (.int .i64 (0))), none⟩] [(3, 1)])
 (.cond (.t 3) (.seq (.region [⟨.mv (.c (.int .i64 (-1))), none⟩] [(2, 0)])
 .ret) .skip))
 (.seq (.region [⟨.mv (.t 1), none⟩, ⟨.mv (.l 0), none⟩] [(2, 1)])
 .ret))))
def a_l_szLoadS : AFun := ⟨[0, 1, 4, 10], 12, c_l_szLoadS, [.tmp 2], 1⟩
def c_s_l11Party : ACode :=
 (.seq (.region [⟨.box (.t 0), none⟩, ⟨.mv (.c (.bool false)), none⟩] [(1, 0), (2, 1)])
 (.seq (.region [⟨.fieldAddr 0 (.t 1), none⟩, ⟨.load true 3 (.l 0), none⟩, ⟨.call (.c (.fn f_s_l6Beam [] [])) [(.l 1)], none⟩, ⟨.mv (.l 2), none⟩, ⟨.fieldAddr 0 (.t 1), some ((.l 3), true)⟩, ⟨.fieldAddr 0 (.l 4), some ((.l 3), true)⟩, ⟨.load false 1 (.l 5), some ((.l 3), true)⟩, ⟨.bin 0 .leq (.l 6) (.c (.int .i64 (12))), some ((.l 3), true)⟩, ⟨.pick (.l 3) (.l 7) (.c (.bool false)), none⟩, ⟨.mv (.l 8), none⟩, ⟨.fieldAddr 3 (.t 1), some ((.l 9), true)⟩, ⟨.load false 1 (.l 10), some ((.l 9), true)⟩, ⟨.len (.l 11), some ((.l 9), true)⟩, ⟨.call (.c (.fn f_s_l1In [] [])) [(.l 12), (.c (.int .i64 (1))), (.c (.int .i64 (3)))], some ((.l 9), true)⟩, ⟨.pick (.l 9) (.l 13) (.c (.bool false)), none⟩, ⟨.mv (.l 14), none⟩, ⟨.fieldAddr 0 (.t 1), some ((.l 15), true)⟩, ⟨.load true 3 (.l 16), some ((.l 15), true)⟩, ⟨.fieldAddr 3 (.t 1), some ((.l 15), true)⟩, ⟨.load false 1 (.l 18), some ((.l 15), true)⟩, ⟨.call (.c (.fn f_s_l6On [] [])) [(.l 17), (.l 19)], some ((.l 15), true)⟩, ⟨.pick (.l 15) (.l 20) (.c (.bool false)), none⟩, ⟨.mv (.l 21), none⟩, ⟨.fieldAddr 4 (.t 1), some ((.l 22), true)⟩, ⟨.load false 1 (.l 23), some ((.l 22), true)⟩, ⟨.call (.c (.fn f_s_l1In [] [])) [(.l 24), (.c (.int .i64 (1))), (.c (.int .i64 (4)))], some ((.l 22), true)⟩, ⟨.pick (.l 22) (.l 25) (.c (.bool false)), none⟩, ⟨.mv (.l 26), none⟩, ⟨.load true 5 (.t 1), some ((.l 27), true)⟩, ⟨.call (.c (.fn f_s_l11Rests [] [])) [(.l 28)], some ((.l 27), true)⟩, ⟨.pick (.l 27) (.l 29) (.c (.bool false)), none⟩, ⟨.mv (.l 30), none⟩] [(2, 31)])
 .ret))
def a_s_l11Party : AFun := ⟨[0, 1, 2], 34, c_s_l11Party, [.tmp 2], 1⟩
def c_l_toBeam : ACode :=
 (.seq (.region [⟨.box (.t 0), none⟩, ⟨.alloc [.int .i64 (0), .int .i64 (0), .int .i64 (0)], none⟩] [(1, 0), (2, 1)])
 (.seq (.region [⟨.alloc [.int .i64 (0), .int .i64 (0), .int .i64 (0)], none⟩] [(3, 0)])
 (.seq (.region [⟨.fieldAddr 0 (.t 1), none⟩, ⟨.load false 1 (.l 0), none⟩, ⟨.fieldAddr 0 (.t 3), none⟩, ⟨.store 1 (.l 2) (.l 1), none⟩] [])
 (.seq (.region [⟨.fieldAddr 1 (.t 1), none⟩, ⟨.load false 1 (.l 0), none⟩, ⟨.fieldAddr 1 (.t 3), none⟩, ⟨.store 1 (.l 2) (.l 1), none⟩] [])
 (.seq (.region [⟨.fieldAddr 2 (.t 1), none⟩, ⟨.load false 1 (.l 0), none⟩, ⟨.fieldAddr 2 (.t 3), none⟩, ⟨.store 1 (.l 2) (.l 1), none⟩] [])
 (.seq (.region [⟨.load true 3 (.t 3), none⟩, ⟨.store 3 (.t 2) (.l 0), none⟩] [])
 .ret))))))
def a_l_toBeam : AFun := ⟨[0, 1, 2, 3], 14, c_l_toBeam, [.cell 2 true 3], 1⟩
def w_l_toLoadS_1 : ACode :=
 (.seq (.seq (.region [⟨.mv (.t 3), none⟩, ⟨.mv (.t 0), none⟩, ⟨.len (.l 1), none⟩, ⟨.bin 0 .lss (.l 0) (.l 2), none⟩] [(4, 3)])
 (.cond (.t 4) .skip (.exit 0)))
 (.seq (.block 1 (.region [⟨.mv (.t 2), none⟩, ⟨.mv (.t 3), none⟩, ⟨.mv (.t 0), none⟩, ⟨.mv (.t 3), none⟩, ⟨.indexAddrS 2 (.l 2) (.l 3), none⟩, ⟨.load true 2 (.l 4), none⟩, ⟨.call (.c (.fn f_l_toLoad [] [])) [(.l 5)], none⟩, ⟨.indexAddrS 2 (.l 0) (.l 1), none⟩, ⟨.store 2 (.l 7) (.l 6), none⟩] []))
 (.region [⟨.mv (.t 3), none⟩, ⟨.bin 0 .add (.l 0) (.c (.int .i64 (1))), none⟩, ⟨.mv (.l 1), none⟩] [(3, 2)])))
def c_l_toLoadS : ACode :=
 (.seq (.region [⟨.mv (.c (.slice none 0 0 none)), none⟩] [(1, 0)])
 (.seq (.region [⟨.mv (.t 0), none⟩, ⟨.len (.l 0), none⟩, ⟨.makeSlice 2 16 [.int .i64 (0), .int .i64 (0)] (.l 1) (.l 1), none⟩, ⟨.mv (.l 2), none⟩] [(2, 3)])
 (.seq (.seq (.region [⟨.mv (.c (.int .i64 (0))), none⟩] [(3, 0)])
 (.block 0 (.loop w_l_toLoadS_1)))
 (.seq (.region [⟨.mv (.t 2), none⟩, ⟨.mv (.l 0), none⟩] [(1, 1)])
 .ret))))
def a_l_toLoadS : AFun := ⟨[0, 2, 3, 4, 11], 23, c_l_toLoadS, [.tmp 1], 2⟩
def c_i_isOn : ACode :=
 (.seq (.region [⟨.box (.t 0), none⟩, ⟨.mv (.c (.bool false)), none⟩] [(2, 0), (3, 1)])
 (.seq (.region [⟨.load true 3 (.t 2), none⟩, ⟨.call (.c (.fn f_i_IsBeam [] [])) [(.l 0)], none⟩, ⟨.mv (.l 1), none⟩, ⟨.mv (.t 1), some ((.l 2), true)⟩, ⟨.call (.c (.fn f_i_IsRow [] [])) [(.l 3)], some ((.l 2), true)⟩, ⟨.pick (.l 2) (.l 4) (.c (.bool false)), none⟩, ⟨.mv (.l 5), none⟩, ⟨.mv (.t 1), some ((.l 6), true)⟩, ⟨.makeFunc f_i_isOn_1 [] [(.t 2)], some ((.l 6), true)⟩, ⟨.call (.c (.fn f_slices_ContainsFunc_Si_Load_i_Load [] [])) [(.l 7), (.l 8)], some ((.l 6), true)⟩, ⟨.un .not (.l 9), some ((.l 6), true)⟩, ⟨.pick (.l 6) (.l 10) (.c (.bool false)), none⟩, ⟨.mv (.l 11), none⟩] [(3, 12)])
 .ret))
def a_i_isOn : AFun := ⟨[0, 1, 2, 4], 17, c_i_isOn, [.tmp 3], 1⟩
def c_i_within : ACode :=
 (.seq (.region [⟨.mv (.c (.bool false)), none⟩] [(3, 0)])
 (.seq (.region [⟨.mv (.t 0), none⟩, ⟨.mv (.t 1), none⟩, ⟨.bin 0 .geq (.l 0) (.l 1), none⟩, ⟨.mv (.l 2), none⟩, ⟨.mv (.t 0), some ((.l 3), true)⟩, ⟨.mv (.t 2), some ((.l 3), true)⟩, ⟨.bin 0 .leq (.l 4) (.l 5), some ((.l 3), true)⟩, ⟨.pick (.l 3) (.l 6) (.c (.bool false)), none⟩, ⟨.mv (.l 7), none⟩] [(3, 8)])
 .ret))
def a_i_within : AFun := ⟨[0, 1, 2, 6], 15, c_i_within, [.tmp 3], 1⟩
def c_i_Beam_rests : ACode :=
 (.seq (.region [⟨.box (.t 0), none⟩, ⟨.mv (.c (.bool false)), none⟩] [(2, 0), (3, 1)])
 (.seq (.region [⟨.mv (.t 1), none⟩, ⟨.fieldAddr 1 (.t 2), none⟩, ⟨.load false 1 (.l 1), none⟩, ⟨.fieldAddr 2 (.t 2), none⟩, ⟨.load false 1 (.l 3), none⟩, ⟨.call (.c (.fn f_i_tipSide [] [])) [(.l 0), (.l 2), (.l 4)], none⟩, ⟨.bin 0 .eql (.l 5) (.c (.int .i64 (0))), none⟩, ⟨.mv (.l 6), none⟩] [(3, 7)])
 .ret))
def a_i_Beam_rests : AFun := ⟨[0, 1, 2, 4], 12, c_i_Beam_rests, [.tmp 3], 1⟩
def c_l_eqBeam : ACode :=
 (.seq (.region [⟨.box (.t 0), none⟩, ⟨.box (.t 1), none⟩, ⟨.mv (.c (.bool false)), none⟩] [(2, 0), (3, 1), (4, 2)])
 (.seq (.seq (.region [⟨.fieldAddr 0 (.t 2), none⟩, ⟨.load false 1 (.l 0), none⟩, ⟨.fieldAddr 0 (.t 3), none⟩, ⟨.load false 1 (.l 2), none⟩, ⟨.bin 0 .neq (.l 1) (.l 3), none⟩] [(5, 4)])
 (.cond (.t 5) (.seq (.region [⟨.mv (.c (.bool false)), none⟩] [(4, 0)])
 .ret) .skip))
 (.seq (.seq (.region [⟨.fieldAddr 1 (.t 2), none⟩, ⟨.load false 1 (.l 0), none⟩, ⟨.fieldAddr 1 (.t 3), none⟩, ⟨.load false 1 (.l 2), none⟩, ⟨.bin 0 .neq (.l 1) (.l 3), none⟩] [(6, 4)])
 (.cond (.t 6) (.seq (.region [⟨.mv (.c (.bool false)), none⟩] [(4, 0)])
 .ret) .skip))
 (.seq (.seq (.region [⟨.fieldAddr 2 (.t 2), none⟩, ⟨.load false 1 (.l 0), none⟩, ⟨.fieldAddr 2 (.t 3), none⟩, ⟨.load false 1 (.l 2), none⟩, ⟨.bin 0 .neq (.l 1) (.l 3), none⟩] [(7, 4)])
 (.cond (.t 7) (.seq (.region [⟨.mv (.c (.bool false)), none⟩] [(4, 0)])
 .ret) .skip))
 (.seq (.region [⟨.mv (.c (.bool true)), none⟩] [(4, 0)])
 .ret)))))
def a_l_eqBeam : AFun := ⟨[0, 1, 2, 3, 4, 9, 14, 19], 20, c_l_eqBeam, [.tmp 4], 1⟩
def w_l_eqLoadS_1 : ACode :=
 (.seq (.seq (.region [⟨.mv (.t 3), none⟩, ⟨.mv (.t 0), none⟩, ⟨.len (.l 1), none⟩, ⟨.bin 0 .lss (.l 0) (.l 2), none⟩] [(5, 3)])
 (.cond (.t 5) .skip (.exit 0)))
 (.seq (.block 1 (.seq (.draw [⟨.mv (.t 0), none, []⟩, ⟨.mv (.t 3), none, []⟩, ⟨.indexAddrS 2 (.l 0) (.l 1), none, []⟩, ⟨.load true 2 (.l 2), none, []⟩, ⟨.mv (.t 1), none, []⟩, ⟨.mv (.t 3), none, []⟩, ⟨.indexAddrS 2 (.l 4) (.l 5), none, []⟩, ⟨.load true 2 (.l 6), none, []⟩, ⟨.call (.c (.fn f_l_eqLoad [] [])) [(.l 3), (.l 7)], none, []⟩, ⟨.un .not (.l 8), none, []⟩] [(6, 9)])
 (.cond (.t 6) (.seq (.region [⟨.mv (.c (.bool false)), none⟩] [(2, 0)])
 .ret) .skip)))
 (.region [⟨.mv (.t 3), none⟩, ⟨.bin 0 .add (.l 0) (.c (.int .i64 (1))), none⟩, ⟨.mv (.l 1), none⟩] [(3, 2)])))
def c_l_eqLoadS : ACode :=
 (.seq (.region [⟨.mv (.c (.bool false)), none⟩] [(2, 0)])
 (.seq (.seq (.region [⟨.mv (.t 0), none⟩, ⟨.len (.l 0), none⟩, ⟨.mv (.t 1), none⟩, ⟨.len (.l 2), none⟩, ⟨.bin 0 .neq (.l 1) (.l 3), none⟩] [(4, 4)])
 (.cond (.t 4) (.seq (.region [⟨.mv (.c (.bool false)), none⟩] [(2, 0)])
 .ret) .skip))
 (.seq (.seq (.region [⟨.mv (.c (.int .i64 (0))), none⟩] [(3, 0)])
 (.block 0 (.loop w_l_eqLoadS_1)))
 (.seq (.region [⟨.mv (.c (.bool true)), none⟩] [(2, 0)])
 .ret))))
def a_l_eqLoadS : AFun := ⟨[0, 1, 4, 5, 10, 14, 26], 27, c_l_eqLoadS, [.tmp 2], 1⟩
def w_s_l11Size_1 : ACode :=
 (.seq (.seq (.region [⟨.mv (.t 4), none⟩, ⟨.fieldAddr 3 (.t 1), none⟩, ⟨.load false 1 (.l 1), none⟩, ⟨.len (.l 2), none⟩, ⟨.bin 0 .lss (.l 0) (.l 3), none⟩] [(5, 4)])
 (.cond (.t 5) .skip (.exit 0)))
 (.seq (.block 1 (.region [⟨.mv (.t 3), none⟩, ⟨.fieldAddr 0 (.t 1), none⟩, ⟨.fieldAddr 0 (.l 1), none⟩, ⟨.load false 1 (.l 2), none⟩, ⟨.bin 0 .add (.l 3) (.c (.int .i64 (1))), none⟩, ⟨.bin 0 .mul (.l 0) (.l 4), none⟩, ⟨.mv (.l 5), none⟩] [(3, 6)]))
 (.region [⟨.mv (.t 4), none⟩, ⟨.bin 0 .add (.l 0) (.c (.int .i64 (1))), none⟩, ⟨.mv (.l 1), none⟩] [(4, 2)])))
def c_s_l11Size : ACode :=
 (.seq (.region [⟨.box (.t 0), none⟩, ⟨.mv (.c (.int .i64 (0))), none⟩] [(1, 0), (2, 1)])
 (.seq (.region [⟨.mv (.c (.int .i64 (1))), none⟩] [(3, 0)])
 (.seq (.seq (.region [⟨.mv (.c (.int .i64 (0))), none⟩] [(4, 0)])
 (.block 0 (.loop w_s_l11Size_1)))
 (.seq (.region [⟨.mv (.t 3), none⟩, ⟨.mv (.l 0), none⟩] [(2, 1)])
 .ret))))
def a_s_l11Size : AFun := ⟨[0, 1, 2, 3, 4, 9], 19, c_s_l11Size, [.tmp 2], 1⟩
def c_s_l11Rests : ACode :=
 (.seq (.region [⟨.box (.t 0), none⟩, ⟨.mv (.c (.bool false)), none⟩] [(1, 0), (2, 1)])
 (.seq (.region [⟨.fieldAddr 3 (.t 1), none⟩, ⟨.load false 1 (.l 0), none⟩, ⟨.fieldAddr 0 (.t 1), none⟩, ⟨.fieldAddr 1 (.l 2), none⟩, ⟨.load false 1 (.l 3), none⟩, ⟨.fieldAddr 0 (.t 1), none⟩, ⟨.fieldAddr 2 (.l 5), none⟩, ⟨.load false 1 (.l 6), none⟩, ⟨.call (.c (.fn f_s_l2Side [] [])) [(.l 1), (.l 4), (.l 7)], none⟩, ⟨.bin 0 .eql (.l 8) (.c (.int .i64 (0))), none⟩, ⟨.mv (.l 9), none⟩] [(2, 10)])
 .ret))
def a_s_l11Rests : AFun := ⟨[0, 1, 2], 13, c_s_l11Rests, [.tmp 2], 1⟩
def w_s_l11At_1 : ACode :=
 (.seq (.seq (.region [⟨.mv (.t 5), none⟩, ⟨.bin 0 .geq (.l 0) (.c (.int .i64 (0))), none⟩] [(6, 1)])
 (.cond (.t 6) .skip (.exit 0)))
 (.seq (.block 1 (.seq (.draw [⟨.fieldAddr 3 (.t 4), none, []⟩, ⟨.load false 1 (.l 0), none, []⟩, ⟨.mv (.t 5), none, []⟩, ⟨.mv (.t 1), none, []⟩, ⟨.fieldAddr 0 (.t 2), none, []⟩, ⟨.fieldAddr 0 (.l 4), none, []⟩, ⟨.load false 1 (.l 5), none, []⟩, ⟨.bin 0 .add (.l 6) (.c (.int .i64 (1))), none, []⟩, ⟨.bin 0 .rem (.l 3) (.l 7), none, []⟩, ⟨.indexAddrS 2 (.l 1) (.l 2), none, []⟩, ⟨.fieldAddr 0 (.l 9), none, []⟩, ⟨.store 1 (.l 10) (.l 8), none, []⟩] [])
 (.region [⟨.mv (.t 1), none⟩, ⟨.fieldAddr 0 (.t 2), none⟩, ⟨.fieldAddr 0 (.l 1), none⟩, ⟨.load false 1 (.l 2), none⟩, ⟨.bin 0 .add (.l 3) (.c (.int .i64 (1))), none⟩, ⟨.bin 0 .quo (.l 0) (.l 4), none⟩, ⟨.mv (.l 5), none⟩] [(1, 6)])))
 (.region [⟨.mv (.t 5), none⟩, ⟨.bin 0 .sub (.l 0) (.c (.int .i64 (1))), none⟩, ⟨.mv (.l 1), none⟩] [(5, 2)])))
def c_s_l11At : ACode :=
 (.seq (.region [⟨.box (.t 0), none⟩, ⟨.alloc [.int .i64 (0), .int .i64 (0), .int .i64 (0), .slice none 0 0 none, .int .i64 (0)], none⟩] [(2, 0), (3, 1)])
 (.seq (.draw [⟨.fieldAddr 0 (.t 2), none, []⟩, ⟨.load true 3 (.l 0), none, []⟩, ⟨.fieldAddr 3 (.t 2), none, []⟩, ⟨.load false 1 (.l 2), none, []⟩, ⟨.fieldAddr 4 (.t 2), none, []⟩, ⟨.load false 1 (.l 4), none, []⟩, ⟨.buildSlice 2 0 [] [], none, [(1, ⟨.load true 3 (.l 0), none⟩), (3, ⟨.load false 1 (.l 2), none⟩), (5, ⟨.load false 1 (.l 4), none⟩)]⟩, ⟨.append false 2 16 (.l 6) (.l 3), none, [(1, ⟨.load true 3 (.l 0), none⟩), (5, ⟨.load false 1 (.l 4), none⟩)]⟩, ⟨.build [.int .i64 (0), .int .i64 (0), .int .i64 (0), .slice none 0 0 none, .int .i64 (0)] [(0, 3, (.l 1)), (3, 1, (.l 7)), (4, 1, (.l 5))], none, []⟩, ⟨.alloc [.int .i64 (0), .int .i64 (0), .int .i64 (0), .slice none 0 0 none, .int .i64 (0)], none, [(1, ⟨.load true 3 (.l 0), none⟩), (3, ⟨.load false 1 (.l 2), none⟩), (5, ⟨.load false 1 (.l 4), none⟩)]⟩, ⟨.store 5 (.l 9) (.l 8), none, []⟩] [(4, 9)])
 (.seq (.seq (.region [⟨.fieldAddr 3 (.t 2), none⟩, ⟨.load false 1 (.l 0), none⟩, ⟨.len (.l 1), none⟩, ⟨.bin 0 .sub (.l 2) (.c (.int .i64 (1))), none⟩, ⟨.mv (.l 3), none⟩] [(5, 4)])
 (.block 0 (.loop w_s_l11At_1)))
 (.seq (.region [⟨.load true 5 (.t 4), none⟩, ⟨.store 5 (.t 3) (.l 0), none⟩] [])
 .ret))))
def a_s_l11At : AFun := ⟨[0, 1, 2, 4, 5, 6, 21], 42, c_s_l11At, [.cell 3 true 5], 2⟩
def c_i_Party_rests : ACode :=
 (.seq (.region [⟨.box (.t 0), none⟩, ⟨.box (.t 1), none⟩, ⟨.mv (.c (.bool false)), none⟩] [(2, 0), (3, 1), (4, 2)])
 (.seq (.draw [⟨.fieldAddr 0 (.t 2), none, []⟩, ⟨.load true 3 (.l 0), none, []⟩, ⟨.load true 5 (.t 2), none, []⟩, ⟨.load true 3 (.t 3), none, []⟩, ⟨.call (.c (.fn f_i_Party_at [] [])) [(.l 2), (.l 3)], none, [(1, ⟨.load true 3 (.l 0), none⟩)]⟩, ⟨.field false 3 1 (.l 4), none, []⟩, ⟨.call (.c (.fn f_i_Beam_rests [] [])) [(.l 1), (.l 5)], none, []⟩, ⟨.mv (.l 6), none, []⟩] [(4, 7)])
 .ret))
def a_i_Party_rests : AFun := ⟨[0, 1, 2, 3, 4], 12, c_i_Party_rests, [.tmp 4], 1⟩
def w_s_l11Moves_1 : ACode :=
 (.seq (.seq (.region [⟨.mv (.t 5), none⟩, ⟨.bin 0 .lss (.l 0) (.c (.int .i64 (2))), none⟩] [(8, 1)])
 (.cond (.t 8) .skip (.exit 2)))
 (.seq (.block 3 (.seq (.draw [⟨.mv (.t 4), none, []⟩, ⟨.fieldAddr 3 (.t 1), none, []⟩, ⟨.load false 1 (.l 1), none, []⟩, ⟨.mv (.t 4), none, []⟩, ⟨.indexAddrS 2 (.l 2) (.l 3), none, []⟩, ⟨.fieldAddr 0 (.l 4), none, []⟩, ⟨.load false 1 (.l 5), none, []⟩, ⟨.mv (.t 5), none, []⟩, ⟨.fieldAddr 4 (.t 1), none, []⟩, ⟨.load false 1 (.l 8), none, []⟩, ⟨.bin 0 .mul (.l 7) (.l 9), none, []⟩, ⟨.bin 0 .add (.l 6) (.l 10), none, []⟩, ⟨.build [.int .i64 (0), .int .i64 (0)] [(0, 1, (.l 0)), (1, 1, (.l 11))], none, []⟩, ⟨.alloc [.int .i64 (0), .int .i64 (0)], none, [(2, ⟨.load false 1 (.l 1), none⟩), (6, ⟨.load false 1 (.l 5), none⟩), (9, ⟨.load false 1 (.l 8), none⟩)]⟩, ⟨.store 2 (.l 13) (.l 12), none, []⟩] [(6, 13)])
 (.seq (.region [⟨.load true 5 (.t 1), none⟩, ⟨.load true 2 (.t 6), none⟩, ⟨.call (.c (.fn f_s_l11Safe [] [])) [(.l 0), (.l 1)], none⟩] [(9, 2)])
 (.cond (.t 9) (.region [⟨.mv (.t 3), none⟩, ⟨.load true 2 (.t 6), none⟩, ⟨.buildSlice 2 1 [.int .i64 (0), .int .i64 (0)] [(0, 2, (.l 1))], none⟩, ⟨.append false 2 16 (.l 0) (.l 2), none⟩, ⟨.mv (.l 3), none⟩] [(3, 4)]) .skip))))
 (.region [⟨.mv (.t 5), none⟩, ⟨.bin 0 .add (.l 0) (.c (.int .i64 (2))), none⟩, ⟨.mv (.l 1), none⟩] [(5, 2)])))
def w_s_l11Moves_2 : ACode :=
 (.seq (.seq (.region [⟨.mv (.t 4), none⟩, ⟨.fieldAddr 3 (.t 1), none⟩, ⟨.load false 1 (.l 1), none⟩, ⟨.len (.l 2), none⟩, ⟨.bin 0 .lss (.l 0) (.l 3), none⟩] [(7, 4)])
 (.cond (.t 7) .skip (.exit 0)))
 (.seq (.block 1 (.seq (.region [⟨.mv (.c (.int .i64 (-1))), none⟩] [(5, 0)])
 (.block 2 (.loop w_s_l11Moves_1))))
 (.region [⟨.mv (.t 4), none⟩, ⟨.bin 0 .add (.l 0) (.c (.int .i64 (1))), none⟩, ⟨.mv (.l 1), none⟩] [(4, 2)])))
def c_s_l11Moves : ACode :=
 (.seq (.region [⟨.box (.t 0), none⟩, ⟨.mv (.c (.slice none 0 0 none)), none⟩] [(1, 0), (2, 1)])
 (.seq (.region [⟨.buildSlice 2 0 [] [], none⟩, ⟨.mv (.l 0), none⟩] [(3, 1)])
 (.seq (.seq (.region [⟨.mv (.c (.int .i64 (0))), none⟩] [(4, 0)])
 (.block 0 (.loop w_s_l11Moves_2)))
 (.seq (.region [⟨.mv (.t 3), none⟩, ⟨.mv (.l 0), none⟩] [(2, 1)])
 .ret))))
def a_s_l11Moves : AFun := ⟨[0, 1, 2, 3, 4, 5, 6, 12, 16, 34], 40, c_s_l11Moves, [.tmp 2], 2⟩
def w_i_Party_moves_1 : ACode :=
 (.seq (.region [⟨.bin 0 .lss (.t 13) (.c (.int .i64 (2))), none⟩] [(14, 0)])
 (.seq (.cond (.t 14) .skip (.exit 2))
 (.seq (.block 3 (.seq (.region [⟨.indexA false 2 1 (.t 12) (.t 13), none⟩, ⟨.mv (.l 0), none⟩] [(7, 1)])
 (.seq (.region [⟨.load true 3 (.t 3), none⟩, ⟨.alloc [.int .i64 (0), .int .i64 (0), .int .i64 (0)], none⟩, ⟨.store 3 (.l 1) (.l 0), none⟩] [(8, 1)])
 (.seq (.region [⟨.mv (.t 6), none⟩, ⟨.mv (.t 7), none⟩, ⟨.indexAddrA 3 1 (.t 8) (.l 0), none⟩, ⟨.store 1 (.l 2) (.l 1), none⟩] [])
 (.seq (.region [⟨.mv (.t 7), none⟩, ⟨.fieldAddr 0 (.t 2), none⟩, ⟨.fieldAddr 0 (.l 1), none⟩, ⟨.load false 1 (.l 2), none⟩, ⟨.call (.c (.fn f_i_within [] [])) [(.l 0), (.c (.int .i64 (0))), (.l 3)], none⟩, ⟨.mv (.l 4), none⟩, ⟨.load true 5 (.t 2), some ((.l 5), true)⟩, ⟨.load true 3 (.t 8), some ((.l 5), true)⟩, ⟨.call (.c (.fn f_i_Party_rests [] [])) [(.l 6), (.l 7)], some ((.l 5), true)⟩, ⟨.pick (.l 5) (.l 8) (.c (.bool false)), none⟩] [(15, 9)])
 (.cond (.t 15) (.region [⟨.mv (.t 5), none⟩, ⟨.mv (.t 6), none⟩, ⟨.mv (.t 7), none⟩, ⟨.build [.int .i64 (0), .int .i64 (0)] [(0, 1, (.l 1)), (1, 1, (.l 2))], none⟩, ⟨.buildSlice 2 1 [.int .i64 (0), .int .i64 (0)] [(0, 2, (.l 3))], none⟩, ⟨.append false 2 16 (.l 0) (.l 4), none⟩, ⟨.mv (.l 5), none⟩] [(5, 6)]) .skip))))))
 (.region [⟨.bin 0 .add (.t 13) (.c (.int .i64 (1))), none⟩, ⟨.mv (.l 0), none⟩] [(13, 1)]))))
def w_i_Party_moves_2 : ACode :=
 (.seq (.region [⟨.bin 0 .lss (.t 10) (.t 9), none⟩] [(11, 0)])
 (.seq (.cond (.t 11) .skip (.exit 0))
 (.seq (.block 1 (.seq (.region [⟨.mv (.t 10), none⟩, ⟨.mv (.l 0), none⟩] [(6, 1)])
 (.seq (.draw [⟨.mv (.t 6), none, []⟩, ⟨.indexAddrA 3 1 (.t 3) (.l 0), none, []⟩, ⟨.load false 1 (.l 1), none, []⟩, ⟨.fieldAddr 4 (.t 2), none, []⟩, ⟨.load false 1 (.l 3), none, []⟩, ⟨.bin 0 .sub (.l 2) (.l 4), none, []⟩, ⟨.mv (.t 6), none, []⟩, ⟨.indexAddrA 3 1 (.t 3) (.l 6), none, []⟩, ⟨.load false 1 (.l 7), none, []⟩, ⟨.fieldAddr 4 (.t 2), none, []⟩, ⟨.load false 1 (.l 9), none, []⟩, ⟨.bin 0 .add (.l 8) (.l 10), none, []⟩, ⟨.build [.int .i64 (0), .int .i64 (0)] [(0, 1, (.l 5)), (1, 1, (.l 11))], none, []⟩, ⟨.mv (.c (.int .i64 (0))), none, []⟩] [(12, 12), (13, 13)])
 (.block 2 (.loop w_i_Party_moves_1)))))
 (.region [⟨.bin 0 .add (.t 10) (.c (.int .i64 (1))), none⟩, ⟨.mv (.l 0), none⟩] [(10, 1)]))))
def c_i_Party_moves : ACode :=
 (.seq (.region [⟨.box (.t 0), none⟩, ⟨.box (.t 1), none⟩, ⟨.mv (.c (.slice none 0 0 none)), none⟩] [(2, 0), (3, 1), (4, 2)])
 (.seq (.region [⟨.buildSlice 2 0 [] [], none⟩, ⟨.mv (.l 0), none⟩] [(5, 1)])
 (.seq (.seq (.region [⟨.fieldAddr 3 (.t 2), none⟩, ⟨.load false 1 (.l 0), none⟩, ⟨.len (.l 1), none⟩, ⟨.mv (.c (.int .i64 (0))), none⟩] [(9, 2), (10, 3)])
 (.block 0 (.loop w_i_Party_moves_2)))
 (.seq (.region [⟨.mv (.t 5), none⟩, ⟨.mv (.l 0), none⟩] [(4, 1)])
 .ret))))
def a_i_Party_moves : AFun := ⟨[0, 1, 2, 3, 4, 5, 6, 8, 9, 13, 14, 15, 29, 30, 31, 46], 56, c_i_Party_moves, [.tmp 4], 2⟩
def w_i_Party_spots_1 : ACode :=
 (.seq (.region [⟨.bin 0 .lss (.t 8) (.t 7), none⟩] [(9, 0)])
 (.seq (.cond (.t 9) .skip (.exit 0))
 (.seq (.block 1 (.seq (.region [⟨.mv (.t 8), none⟩, ⟨.indexAddrS 2 (.t 6) (.t 8), none⟩, ⟨.load true 2 (.l 1), none⟩, ⟨.alloc [.int .i64 (0), .int .i64 (0)], none⟩, ⟨.mv (.l 0), none⟩, ⟨.store 2 (.l 3) (.l 2), none⟩] [(4, 4), (5, 3)])
 (.region [⟨.mv (.t 4), none⟩, ⟨.fieldAddr 0 (.t 5), none⟩, ⟨.load false 1 (.l 1), none⟩, ⟨.indexAddrA 3 1 (.t 3) (.l 0), none⟩, ⟨.store 1 (.l 3) (.l 2), none⟩] [])))
 (.region [⟨.bin 0 .add (.t 8) (.c (.int .i64 (1))), none⟩, ⟨.mv (.l 0), none⟩] [(8, 1)]))))
def c_i_Party_spots : ACode :=
 (.seq (.region [⟨.box (.t 0), none⟩, ⟨.alloc [.int .i64 (0), .int .i64 (0), .int .i64 (0)], none⟩] [(1, 0), (2, 1)])
 (.seq (.region [⟨.build [.int .i64 (0), .int .i64 (0), .int .i64 (0)] [], none⟩, ⟨.alloc [.int .i64 (0), .int .i64 (0), .int .i64 (0)], none⟩, ⟨.store 3 (.l 1) (.l 0), none⟩] [(3, 1)])
 (.seq (.seq (.region [⟨.fieldAddr 3 (.t 1), none⟩, ⟨.load false 1 (.l 0), none⟩, ⟨.len (.l 1), none⟩, ⟨.mv (.c (.int .i64 (0))), none⟩] [(6, 1), (7, 2), (8, 3)])
 (.block 0 (.loop w_i_Party_spots_1)))
 (.seq (.region [⟨.load true 3 (.t 3), none⟩, ⟨.store 3 (.t 2) (.l 0), none⟩] [])
 .ret))))
def a_i_Party_spots : AFun := ⟨[0, 1, 2, 3, 4, 5, 8, 9, 10, 11], 21, c_i_Party_spots, [.cell 2 true 3], 1⟩
def w_l_eqIntA2_1 : ACode :=
 (.seq (.seq (.region [⟨.mv (.t 5), none⟩, ⟨.bin 0 .lss (.l 0) (.c (.int .i64 (2))), none⟩] [(6, 1)])
 (.cond (.t 6) .skip (.exit 0)))
 (.seq (.block 1 (.seq (.draw [⟨.mv (.t 5), none, []⟩, ⟨.indexAddrA 2 1 (.t 2) (.l 0), none, []⟩, ⟨.load false 1 (.l 1), none, []⟩, ⟨.mv (.t 5), none, []⟩, ⟨.indexAddrA 2 1 (.t 3) (.l 3), none, []⟩, ⟨.load false 1 (.l 4), none, []⟩, ⟨.bin 0 .neq (.l 2) (.l 5), none, []⟩] [(7, 6)])
 (.cond (.t 7) (.seq (.region [⟨.mv (.c (.bool false)), none⟩] [(4, 0)])
 .ret) .skip)))
 (.region [⟨.mv (.t 5), none⟩, ⟨.bin 0 .add (.l 0) (.c (.int .i64 (1))), none⟩, ⟨.mv (.l 1), none⟩] [(5, 2)])))
def c_l_eqIntA2 : ACode :=
 (.seq (.region [⟨.box (.t 0), none⟩, ⟨.box (.t 1), none⟩, ⟨.mv (.c (.bool false)), none⟩] [(2, 0), (3, 1), (4, 2)])
 (.seq (.seq (.region [⟨.mv (.c (.int .i64 (0))), none⟩] [(5, 0)])
 (.block 0 (.loop w_l_eqIntA2_1)))
 (.seq (.region [⟨.mv (.c (.bool true)), none⟩] [(4, 0)])
 .ret)))
def a_l_eqIntA2 : AFun := ⟨[0, 1, 2, 3, 4, 5, 7, 16], 17, c_l_eqIntA2, [.tmp 4], 1⟩
def w_l_markLoadS_1 : ACode :=
 (.seq (.seq (.region [⟨.mv (.t 3), none⟩, ⟨.mv (.t 0), none⟩, ⟨.len (.l 1), none⟩, ⟨.bin 0 .lss (.l 0) (.l 2), none⟩] [(4, 3)])
 (.cond (.t 4) .skip (.exit 0)))
 (.seq (.block 1 (.seq (.region [⟨.mv (.t 0), none⟩, ⟨.mv (.t 3), none⟩, ⟨.mv (.t 1), none⟩, ⟨.indexAddrS 2 (.l 0) (.l 1), none⟩, ⟨.fieldAddr 0 (.l 3), none⟩, ⟨.store 1 (.l 4) (.l 2), none⟩] [])
 (.seq (.region [⟨.mv (.t 1), none⟩, ⟨.bin 0 .add (.l 0) (.c (.int .i64 (1))), none⟩, ⟨.mv (.l 1), none⟩] [(1, 2)])
 (.seq (.region [⟨.mv (.t 0), none⟩, ⟨.mv (.t 3), none⟩, ⟨.mv (.t 1), none⟩, ⟨.indexAddrS 2 (.l 0) (.l 1), none⟩, ⟨.fieldAddr 1 (.l 3), none⟩, ⟨.store 1 (.l 4) (.l 2), none⟩] [])
 (.region [⟨.mv (.t 1), none⟩, ⟨.bin 0 .add (.l 0) (.c (.int .i64 (1))), none⟩, ⟨.mv (.l 1), none⟩] [(1, 2)])))))
 (.region [⟨.mv (.t 3), none⟩, ⟨.bin 0 .add (.l 0) (.c (.int .i64 (1))), none⟩, ⟨.mv (.l 1), none⟩] [(3, 2)])))
def c_l_markLoadS : ACode :=
 (.seq (.region [⟨.mv (.c (.int .i64 (0))), none⟩] [(2, 0)])
 (.seq (.seq (.region [⟨.mv (.c (.int .i64 (0))), none⟩] [(3, 0)])
 (.block 0 (.loop w_l_markLoadS_1)))
 (.seq (.region [⟨.mv (.t 1), none⟩, ⟨.mv (.l 0), none⟩] [(2, 1)])
 .ret)))
def a_l_markLoadS : AFun := ⟨[0, 1, 4, 5, 9], 27, c_l_markLoadS, [.tmp 2], 1⟩
def c_s_l11Safe : ACode :=
 (.seq (.region [⟨.box (.t 0), none⟩, ⟨.box (.t 1), none⟩, ⟨.mv (.c (.bool false)), none⟩] [(2, 0), (3, 1), (4, 2)])
 (.seq (.seq (.region [⟨.indexAddrA 2 1 (.t 3) (.c (.int .i64 (0))), none⟩, ⟨.load false 1 (.l 0), none⟩, ⟨.fieldAddr 3 (.t 2), none⟩, ⟨.load false 1 (.l 2), none⟩, ⟨.len (.l 3), none⟩, ⟨.bin 0 .sub (.l 4) (.c (.int .i64 (1))), none⟩, ⟨.call (.c (.fn f_s_l1In [] [])) [(.l 1), (.c (.int .i64 (0))), (.l 5)], none⟩, ⟨.un .not (.l 6), none⟩, ⟨.mv (.l 7), none⟩, ⟨.indexAddrA 2 1 (.t 3) (.c (.int .i64 (1))), some ((.l 8), false)⟩, ⟨.load false 1 (.l 9), some ((.l 8), false)⟩, ⟨.fieldAddr 0 (.t 2), some ((.l 8), false)⟩, ⟨.fieldAddr 0 (.l 11), some ((.l 8), false)⟩, ⟨.load false 1 (.l 12), some ((.l 8), false)⟩, ⟨.call (.c (.fn f_s_l1In [] [])) [(.l 10), (.c (.int .i64 (0))), (.l 13)], some ((.l 8), false)⟩, ⟨.un .not (.l 14), some ((.l 8), false)⟩, ⟨.pick (.l 8) (.c (.bool true)) (.l 15), none⟩] [(6, 16)])
 (.cond (.t 6) (.seq (.region [⟨.mv (.c (.bool false)), none⟩] [(4, 0)])
 .ret) .skip))
 (.seq (.draw [⟨.indexAddrA 2 1 (.t 3) (.c (.int .i64 (1))), none, []⟩, ⟨.load false 1 (.l 0), none, []⟩, ⟨.fieldAddr 3 (.t 2), none, []⟩, ⟨.load false 1 (.l 2), none, []⟩, ⟨.indexAddrA 2 1 (.t 3) (.c (.int .i64 (0))), none, []⟩, ⟨.load false 1 (.l 4), none, []⟩, ⟨.indexAddrS 2 (.l 3) (.l 5), none, []⟩, ⟨.fieldAddr 0 (.l 6), none, []⟩, ⟨.load false 1 (.l 7), none, []⟩, ⟨.bin 0 .sub (.l 1) (.l 8), none, []⟩, ⟨.mv (.l 9), none, []⟩] [(5, 10)])
 (.seq (.region [⟨.mv (.t 5), none⟩, ⟨.fieldAddr 4 (.t 2), none⟩, ⟨.load false 1 (.l 1), none⟩, ⟨.bin 0 .eql (.l 0) (.l 2), none⟩, ⟨.mv (.l 3), none⟩, ⟨.mv (.t 5), some ((.l 4), false)⟩, ⟨.fieldAddr 4 (.t 2), some ((.l 4), false)⟩, ⟨.load false 1 (.l 6), some ((.l 4), false)⟩, ⟨.un .neg (.l 7), some ((.l 4), false)⟩, ⟨.bin 0 .eql (.l 5) (.l 8), some ((.l 4), false)⟩, ⟨.pick (.l 4) (.c (.bool true)) (.l 9), none⟩, ⟨.mv (.l 10), none⟩, ⟨.load true 5 (.t 2), some ((.l 11), true)⟩, ⟨.load true 2 (.t 3), some ((.l 11), true)⟩, ⟨.call (.c (.fn f_s_l11Moved [] [])) [(.l 12), (.l 13)], some ((.l 11), true)⟩, ⟨.call (.c (.fn f_s_l11Rests [] [])) [(.l 14)], some ((.l 11), true)⟩, ⟨.pick (.l 11) (.l 15) (.c (.bool false)), none⟩, ⟨.mv (.l 16), none⟩] [(4, 17)])
 .ret))))
def a_s_l11Safe : AFun := ⟨[0, 1, 2, 3, 4, 5, 22], 50, c_s_l11Safe, [.tmp 4], 1⟩
def c_s_l11Moved : ACode :=
 (.seq (.region [⟨.box (.t 0), none⟩, ⟨.box (.t 1), none⟩, ⟨.alloc [.int .i64 (0), .int .i64 (0), .int .i64 (0), .slice none 0 0 none, .int .i64 (0)], none⟩] [(2, 0), (3, 1), (4, 2)])
 (.seq (.draw [⟨.fieldAddr 0 (.t 2), none, []⟩, ⟨.load true 3 (.l 0), none, []⟩, ⟨.fieldAddr 3 (.t 2), none, []⟩, ⟨.load false 1 (.l 2), none, []⟩, ⟨.fieldAddr 4 (.t 2), none, []⟩, ⟨.load false 1 (.l 4), none, []⟩, ⟨.buildSlice 2 0 [] [], none, [(1, ⟨.load true 3 (.l 0), none⟩), (3, ⟨.load false 1 (.l 2), none⟩), (5, ⟨.load false 1 (.l 4), none⟩)]⟩, ⟨.append false 2 16 (.l 6) (.l 3), none, [(1, ⟨.load true 3 (.l 0), none⟩), (5, ⟨.load false 1 (.l 4), none⟩)]⟩, ⟨.build [.int .i64 (0), .int .i64 (0), .int .i64 (0), .slice none 0 0 none, .int .i64 (0)] [(0, 3, (.l 1)), (3, 1, (.l 7)), (4, 1, (.l 5))], none, []⟩, ⟨.alloc [.int .i64 (0), .int .i64 (0), .int .i64 (0), .slice none 0 0 none, .int .i64 (0)], none, [(1, ⟨.load true 3 (.l 0), none⟩), (3, ⟨.load false 1 (.l 2), none⟩), (5, ⟨.load false 1 (.l 4), none⟩)]⟩, ⟨.store 5 (.l 9) (.l 8), none, []⟩] [(5, 9)])
 (.seq (.region [⟨.fieldAddr 3 (.t 5), none⟩, ⟨.load false 1 (.l 0), none⟩, ⟨.indexAddrA 2 1 (.t 3) (.c (.int .i64 (0))), none⟩, ⟨.load false 1 (.l 2), none⟩, ⟨.indexAddrA 2 1 (.t 3) (.c (.int .i64 (1))), none⟩, ⟨.load false 1 (.l 4), none⟩, ⟨.indexAddrS 2 (.l 1) (.l 3), none⟩, ⟨.fieldAddr 0 (.l 6), none⟩, ⟨.store 1 (.l 7) (.l 5), none⟩] [])
 (.seq (.region [⟨.load true 5 (.t 5), none⟩, ⟨.store 5 (.t 4) (.l 0), none⟩] [])
 .ret))))
def a_s_l11Moved : AFun := ⟨[0, 1, 2, 3, 4, 5], 24, c_s_l11Moved, [.cell 4 true 5], 2⟩
def w_l_heldLoadS_1 : ACode :=
 (.seq (.seq (.region [⟨.mv (.t 3), none⟩, ⟨.mv (.t 0), none⟩, ⟨.len (.l 1), none⟩, ⟨.bin 0 .lss (.l 0) (.l 2), none⟩] [(4, 3)])
 (.cond (.t 4) .skip (.exit 0)))
 (.seq (.block 1 (.seq (.seq (.region [⟨.mv (.t 0), none⟩, ⟨.mv (.t 3), none⟩, ⟨.indexAddrS 2 (.l 0) (.l 1), none⟩, ⟨.fieldAddr 0 (.l 2), none⟩, ⟨.load false 1 (.l 3), none⟩, ⟨.mv (.t 1), none⟩, ⟨.bin 0 .neq (.l 4) (.l 5), none⟩] [(5, 6)])
 (.cond (.t 5) (.seq (.region [⟨.mv (.c (.int .i64 (-1))), none⟩] [(2, 0)])
 .ret) .skip))
 (.seq (.region [⟨.mv (.t 1), none⟩, ⟨.bin 0 .add (.l 0) (.c (.int .i64 (1))), none⟩, ⟨.mv (.l 1), none⟩] [(1, 2)])
 (.seq (.seq (.region [⟨.mv (.t 0), none⟩, ⟨.mv (.t 3), none⟩, ⟨.indexAddrS 2 (.l 0) (.l 1), none⟩, ⟨.fieldAddr 1 (.l 2), none⟩, ⟨.load false 1 (.l 3), none⟩, ⟨.mv (.t 1), none⟩, ⟨.bin 0 .neq (.l 4) (.l 5), none⟩] [(6, 6)])
 (.cond (.t 6) (.seq (.region [⟨.mv (.c (.int .i64 (-1))), none⟩] [(2, 0)])
 .ret) .skip))
 (.region [⟨.mv (.t 1), none⟩, ⟨.bin 0 .add (.l 0) (.c (.int .i64 (1))), none⟩, ⟨.mv (.l 1), none⟩] [(1, 2)])))))
 (.region [⟨.mv (.t 3), none⟩, ⟨.bin 0 .add (.l 0) (.c (.int .i64 (1))), none⟩, ⟨.mv (.l 1), none⟩] [(3, 2)])))
def c_l_heldLoadS : ACode :=
 (.seq (.region [⟨.mv (.c (.int .i64 (0))), none⟩] [(2, 0)])
 (.seq (.seq (.region [⟨.mv (.c (.int .i64 (0))), none⟩] [(3, 0)])
 (.block 0 (.loop w_l_heldLoadS_1)))
 (.seq (.region [⟨.mv (.t 1), none⟩, ⟨.mv (.l 0), none⟩] [(2, 1)])
 .ret)))
def a_l_heldLoadS : AFun := ⟨[0, 1, 4, 5, 9, 18, 27], 31, c_l_heldLoadS, [.tmp 2], 1⟩
def w_s_l11Spread_1 : ACode :=
 (.seq (.seq (.region [⟨.mv (.t 4), none⟩, ⟨.mv (.t 3), none⟩, ⟨.len (.l 1), none⟩, ⟨.bin 0 .lss (.l 0) (.l 2), none⟩] [(11, 3)])
 (.cond (.t 11) .skip (.exit 0)))
 (.seq (.block 1 (.region [⟨.mv (.t 3), none⟩, ⟨.mv (.t 4), none⟩, ⟨.indexAddrS 1 (.l 0) (.l 1), none⟩, ⟨.store 1 (.l 2) (.c (.int .i64 (-1))), none⟩] []))
 (.region [⟨.mv (.t 4), none⟩, ⟨.bin 0 .add (.l 0) (.c (.int .i64 (1))), none⟩, ⟨.mv (.l 1), none⟩] [(4, 2)])))
def w_s_l11Spread_2 : ACode :=
 (.seq (.seq (.region [⟨.mv (.t 9), none⟩, ⟨.mv (.t 8), none⟩, ⟨.len (.l 1), none⟩, ⟨.bin 0 .lss (.l 0) (.l 2), none⟩] [(13, 3)])
 (.cond (.t 13) .skip (.exit 4)))
 (.seq (.block 5 (.seq (.draw [⟨.load true 5 (.t 7), none, []⟩, ⟨.mv (.t 8), none, []⟩, ⟨.mv (.t 9), none, []⟩, ⟨.indexAddrS 2 (.l 1) (.l 2), none, []⟩, ⟨.load true 2 (.l 3), none, []⟩, ⟨.call (.c (.fn f_s_l11Moved [] [])) [(.l 0), (.l 4)], none, []⟩, ⟨.call (.c (.fn f_s_l11Key [] [])) [(.l 5)], none, []⟩, ⟨.mv (.l 6), none, []⟩] [(10, 7)])
 (.seq (.region [⟨.mv (.t 3), none⟩, ⟨.mv (.t 10), none⟩, ⟨.indexAddrS 1 (.l 0) (.l 1), none⟩, ⟨.load false 1 (.l 2), none⟩, ⟨.bin 0 .lss (.l 3) (.c (.int .i64 (0))), none⟩] [(14, 4)])
 (.cond (.t 14) (.seq (.region [⟨.mv (.t 3), none⟩, ⟨.mv (.t 10), none⟩, ⟨.mv (.t 3), none⟩, ⟨.mv (.t 5), none⟩, ⟨.mv (.t 6), none⟩, ⟨.indexAddrS 1 (.l 3) (.l 4), none⟩, ⟨.load false 1 (.l 5), none⟩, ⟨.indexAddrS 1 (.l 2) (.l 6), none⟩, ⟨.load false 1 (.l 7), none⟩, ⟨.bin 0 .add (.l 8) (.c (.int .i64 (1))), none⟩, ⟨.indexAddrS 1 (.l 0) (.l 1), none⟩, ⟨.store 1 (.l 10) (.l 9), none⟩] [])
 (.region [⟨.mv (.t 5), none⟩, ⟨.mv (.t 10), none⟩, ⟨.buildSlice 1 1 [.int .i64 (0)] [(0, 1, (.l 1))], none⟩, ⟨.append false 1 8 (.l 0) (.l 2), none⟩, ⟨.mv (.l 3), none⟩] [(5, 4)])) .skip))))
 (.region [⟨.mv (.t 9), none⟩, ⟨.bin 0 .add (.l 0) (.c (.int .i64 (1))), none⟩, ⟨.mv (.l 1), none⟩] [(9, 2)])))
def w_s_l11Spread_3 : ACode :=
 (.seq (.seq (.region [⟨.mv (.t 6), none⟩, ⟨.mv (.t 5), none⟩, ⟨.len (.l 1), none⟩, ⟨.bin 0 .lss (.l 0) (.l 2), none⟩] [(12, 3)])
 (.cond (.t 12) .skip (.exit 2)))
 (.seq (.block 3 (.seq (.draw [⟨.load true 5 (.t 1), none, []⟩, ⟨.mv (.t 5), none, []⟩, ⟨.mv (.t 6), none, []⟩, ⟨.indexAddrS 1 (.l 1) (.l 2), none, []⟩, ⟨.load false 1 (.l 3), none, []⟩, ⟨.call (.c (.fn f_s_l11At [] [])) [(.l 0), (.l 4)], none, []⟩, ⟨.alloc [.int .i64 (0), .int .i64 (0), .int .i64 (0), .slice none 0 0 none, .int .i64 (0)], none, [(0, ⟨.load true 5 (.t 1), none⟩), (4, ⟨.load false 1 (.l 3), none⟩)]⟩, ⟨.store 5 (.l 6) (.l 5), none, []⟩] [(7, 6)])
 (.seq (.region [⟨.load true 5 (.t 7), none⟩, ⟨.call (.c (.fn f_s_l11Moves [] [])) [(.l 0)], none⟩, ⟨.mv (.l 1), none⟩] [(8, 2)])
 (.seq (.region [⟨.mv (.c (.int .i64 (0))), none⟩] [(9, 0)])
 (.block 4 (.loop w_s_l11Spread_2))))))
 (.region [⟨.mv (.t 6), none⟩, ⟨.bin 0 .add (.l 0) (.c (.int .i64 (1))), none⟩, ⟨.mv (.l 1), none⟩] [(6, 2)])))
def c_s_l11Spread : ACode :=
 (.seq (.region [⟨.box (.t 0), none⟩, ⟨.mv (.c (.slice none 0 0 none)), none⟩] [(1, 0), (2, 1)])
 (.seq (.region [⟨.load true 5 (.t 1), none⟩, ⟨.call (.c (.fn f_s_l11Size [] [])) [(.l 0)], none⟩, ⟨.makeSlice 1 8 [.int .i64 (0)] (.l 1) (.l 1), none⟩, ⟨.mv (.l 2), none⟩] [(3, 3)])
 (.seq (.seq (.region [⟨.mv (.c (.int .i64 (0))), none⟩] [(4, 0)])
 (.block 0 (.loop w_s_l11Spread_1)))
 (.seq (.region [⟨.mv (.t 3), none⟩, ⟨.load true 5 (.t 1), none⟩, ⟨.call (.c (.fn f_s_l11Key [] [])) [(.l 1)], none⟩, ⟨.indexAddrS 1 (.l 0) (.l 2), none⟩, ⟨.store 1 (.l 3) (.c (.int .i64 (0))), none⟩] [])
 (.seq (.region [⟨.load true 5 (.t 1), none⟩, ⟨.call (.c (.fn f_s_l11Key [] [])) [(.l 0)], none⟩, ⟨.buildSlice 1 1 [.int .i64 (0)] [(0, 1, (.l 1))], none⟩, ⟨.mv (.l 2), none⟩] [(5, 3)])
 (.seq (.seq (.region [⟨.mv (.c (.int .i64 (0))), none⟩] [(6, 0)])
 (.block 2 (.loop w_s_l11Spread_3)))
 (.seq (.region [⟨.mv (.t 3), none⟩, ⟨.mv (.l 0), none⟩] [(2, 1)])
 .ret)))))))
def a_s_l11Spread : AFun := ⟨[0, 1, 2, 3, 4, 5, 6, 7, 8, 9, 10, 17, 33, 47, 61], 78, c_s_l11Spread, [.tmp 2], 2⟩
def w_i_Party_stepsFrom_1 : ACode :=
 (.seq (.region [⟨.bin 0 .lss (.t 14) (.t 13), none⟩] [(15, 0)])
 (.seq (.cond (.t 15) .skip (.exit 2))
 (.seq (.block 3 (.seq (.region [⟨.indexAddrS 2 (.t 12) (.t 14), none⟩, ⟨.load true 2 (.l 0), none⟩, ⟨.alloc [.int .i64 (0), .int .i64 (0)], none⟩, ⟨.store 2 (.l 2) (.l 1), none⟩] [(8, 2)])
 (.seq (.region [⟨.load true 3 (.t 7), none⟩, ⟨.alloc [.int .i64 (0), .int .i64 (0), .int .i64 (0)], none⟩, ⟨.store 3 (.l 1) (.l 0), none⟩] [(9, 1)])
 (.seq (.region [⟨.indexAddrA 2 1 (.t 8) (.c (.int .i64 (0))), none⟩, ⟨.load false 1 (.l 0), none⟩, ⟨.indexAddrA 2 1 (.t 8) (.c (.int .i64 (1))), none⟩, ⟨.load false 1 (.l 2), none⟩, ⟨.indexAddrA 3 1 (.t 9) (.l 1), none⟩, ⟨.store 1 (.l 4) (.l 3), none⟩] [])
 (.seq (.region [⟨.mv (.t 5), none⟩, ⟨.load true 3 (.t 9), none⟩, ⟨.getMap true (.l 0) (.l 1), none⟩, ⟨.mv (.l 2), none⟩, ⟨.extract 0 (.l 3), none⟩, ⟨.extract 1 (.l 3), none⟩, ⟨.mv (.l 4), none⟩, ⟨.mv (.l 5), none⟩] [(10, 7)])
 (.seq (.region [⟨.mv (.t 10), none⟩, ⟨.un .not (.l 0), none⟩] [(16, 1)])
 (.cond (.t 16) (.seq (.draw [⟨.mv (.t 5), none, []⟩, ⟨.load true 3 (.t 9), none, []⟩, ⟨.mv (.t 5), none, []⟩, ⟨.load true 3 (.t 7), none, []⟩, ⟨.getMap false (.l 2) (.l 3), none, []⟩, ⟨.bin 0 .add (.l 4) (.c (.int .i64 (1))), none, []⟩, ⟨.putMap (.l 0) (.l 1) (.l 5), none, []⟩] [])
 (.region [⟨.mv (.t 6), none⟩, ⟨.load true 3 (.t 9), none⟩, ⟨.buildSlice 3 1 [.int .i64 (0), .int .i64 (0), .int .i64 (0)] [(0, 3, (.l 1))], none⟩, ⟨.append false 3 24 (.l 0) (.l 2), none⟩, ⟨.mv (.l 3), none⟩] [(6, 4)])) .skip)))))))
 (.region [⟨.bin 0 .add (.t 14) (.c (.int .i64 (1))), none⟩, ⟨.mv (.l 0), none⟩] [(14, 1)]))))
def w_i_Party_stepsFrom_2 : ACode :=
 (.seq (.seq (.region [⟨.mv (.t 6), none⟩, ⟨.len (.l 0), none⟩, ⟨.bin 0 .gtr (.l 1) (.c (.int .i64 (0))), none⟩] [(11, 2)])
 (.cond (.t 11) .skip (.exit 0)))
 (.block 1 (.seq (.region [⟨.mv (.t 6), none⟩, ⟨.indexAddrS 3 (.l 0) (.c (.int .i64 (0))), none⟩, ⟨.load true 3 (.l 1), none⟩, ⟨.alloc [.int .i64 (0), .int .i64 (0), .int .i64 (0)], none⟩, ⟨.store 3 (.l 3) (.l 2), none⟩] [(7, 3)])
 (.seq (.region [⟨.mv (.t 6), none⟩, ⟨.sliceSl 3 (.l 0) (some (.c (.int .i64 (1)))) none none, none⟩, ⟨.mv (.l 1), none⟩] [(6, 2)])
 (.seq (.region [⟨.load true 5 (.t 2), none⟩, ⟨.load true 3 (.t 7), none⟩, ⟨.call (.c (.fn f_i_Party_moves [] [])) [(.l 0), (.l 1)], none⟩, ⟨.len (.l 2), none⟩, ⟨.mv (.c (.int .i64 (0))), none⟩] [(12, 2), (13, 3), (14, 4)])
 (.block 2 (.loop w_i_Party_stepsFrom_1)))))))
def c_i_Party_stepsFrom : ACode :=
 (.seq (.region [⟨.box (.t 0), none⟩, ⟨.box (.t 1), none⟩, ⟨.mv (.c (.map none)), none⟩] [(2, 0), (3, 1), (4, 2)])
 (.seq (.draw [⟨.load true 3 (.t 3), none, []⟩, ⟨.load true 3 (.t 3), none, []⟩, ⟨.newMap, none, [(0, ⟨.load true 3 (.t 3), none⟩), (1, ⟨.load true 3 (.t 3), none⟩)]⟩, ⟨.putMap (.l 2) (.l 0) (.c (.int .i64 (0))), none, [(1, ⟨.load true 3 (.t 3), none⟩)]⟩, ⟨.mv (.l 2), none, []⟩, ⟨.mv (.l 4), none, []⟩, ⟨.buildSlice 3 1 [.int .i64 (0), .int .i64 (0), .int .i64 (0)] [(0, 3, (.l 1))], none, [(0, ⟨.load true 3 (.t 3), none⟩)]⟩, ⟨.mv (.l 6), none, []⟩] [(5, 5), (6, 7)])
 (.seq (.block 0 (.loop w_i_Party_stepsFrom_2))
 (.seq (.region [⟨.mv (.t 5), none⟩, ⟨.mv (.l 0), none⟩] [(4, 1)])
 .ret))))
def a_i_Party_stepsFrom : AFun := ⟨[0, 1, 2, 3, 4, 5, 6, 7, 9, 10, 12, 20, 28, 29, 30, 31, 47], 60, c_i_Party_stepsFrom, [.tmp 4], 2⟩
def w_s_l11Walk_1 : ACode :=
 (.seq (.seq (.region [⟨.mv (.t 6), none⟩, ⟨.mv (.t 1), none⟩, ⟨.len (.l 1), none⟩, ⟨.bin 0 .lss (.l 0) (.l 2), none⟩, ⟨.mv (.l 3), none⟩, ⟨.mv (.t 1), some ((.l 4), true)⟩, ⟨.len (.l 5), some ((.l 4), true)⟩, ⟨.bin 0 .leq (.l 6) (.c (.int .i64 (60))), some ((.l 4), true)⟩, ⟨.pick (.l 4) (.l 7) (.c (.bool false)), none⟩] [(7, 8)])
 (.cond (.t 7) .skip (.exit 0)))
 (.seq (.block 1 (.seq (.seq (.draw [⟨.load true 5 (.t 5), none, []⟩, ⟨.mv (.t 1), none, []⟩, ⟨.mv (.t 6), none, []⟩, ⟨.indexAddrS 2 (.l 1) (.l 2), none, []⟩, ⟨.load true 2 (.l 3), none, []⟩, ⟨.call (.c (.fn f_s_l11Safe [] [])) [(.l 0), (.l 4)], none, []⟩, ⟨.un .not (.l 5), none, []⟩] [(8, 6)])
 (.cond (.t 8) (.seq (.region [⟨.build [.int .i64 (0), .int .i64 (0), .int .i64 (0), .slice none 0 0 none, .int .i64 (0)] [], none⟩, ⟨.store 5 (.t 3) (.l 0), none⟩, ⟨.mv (.c (.bool false)), none⟩] [(4, 2)])
 .ret) .skip))
 (.draw [⟨.load true 5 (.t 5), none, []⟩, ⟨.mv (.t 1), none, []⟩, ⟨.mv (.t 6), none, []⟩, ⟨.indexAddrS 2 (.l 1) (.l 2), none, []⟩, ⟨.load true 2 (.l 3), none, []⟩, ⟨.call (.c (.fn f_s_l11Moved [] [])) [(.l 0), (.l 4)], none, []⟩, ⟨.store 5 (.t 5) (.l 5), none, []⟩] [])))
 (.region [⟨.mv (.t 6), none⟩, ⟨.bin 0 .add (.l 0) (.c (.int .i64 (1))), none⟩, ⟨.mv (.l 1), none⟩] [(6, 2)])))
def c_s_l11Walk : ACode :=
 (.seq (.region [⟨.box (.t 0), none⟩, ⟨.alloc [.int .i64 (0), .int .i64 (0), .int .i64 (0), .slice none 0 0 none, .int .i64 (0)], none⟩, ⟨.mv (.c (.bool false)), none⟩] [(2, 0), (3, 1), (4, 2)])
 (.seq (.draw [⟨.fieldAddr 0 (.t 2), none, []⟩, ⟨.load true 3 (.l 0), none, []⟩, ⟨.fieldAddr 3 (.t 2), none, []⟩, ⟨.load false 1 (.l 2), none, []⟩, ⟨.fieldAddr 4 (.t 2), none, []⟩, ⟨.load false 1 (.l 4), none, []⟩, ⟨.buildSlice 2 0 [] [], none, [(1, ⟨.load true 3 (.l 0), none⟩), (3, ⟨.load false 1 (.l 2), none⟩), (5, ⟨.load false 1 (.l 4), none⟩)]⟩, ⟨.append false 2 16 (.l 6) (.l 3), none, [(1, ⟨.load true 3 (.l 0), none⟩), (5, ⟨.load false 1 (.l 4), none⟩)]⟩, ⟨.build [.int .i64 (0), .int .i64 (0), .int .i64 (0), .slice none 0 0 none, .int .i64 (0)] [(0, 3, (.l 1)), (3, 1, (.l 7)), (4, 1, (.l 5))], none, []⟩, ⟨.alloc [.int .i64 (0), .int .i64 (0), .int .i64 (0), .slice none 0 0 none, .int .i64 (0)], none, [(1, ⟨.load true 3 (.l 0), none⟩), (3, ⟨.load false 1 (.l 2), none⟩), (5, ⟨.load false 1 (.l 4), none⟩)]⟩, ⟨.store 5 (.l 9) (.l 8), none, []⟩] [(5, 9)])
 (.seq (.seq (.region [⟨.mv (.c (.int .i64 (0))), none⟩] [(6, 0)])
 (.block 0 (.loop w_s_l11Walk_1)))
 (.seq (.seq (.region [⟨.mv (.t 1), none⟩, ⟨.len (.l 0), none⟩, ⟨.bin 0 .gtr (.l 1) (.c (.int .i64 (60))), none⟩] [(9, 2)])
 (.cond (.t 9) (.seq (.region [⟨.build [.int .i64 (0), .int .i64 (0), .int .i64 (0), .slice none 0 0 none, .int .i64 (0)] [], none⟩, ⟨.store 5 (.t 3) (.l 0), none⟩, ⟨.mv (.c (.bool false)), none⟩] [(4, 2)])
 .ret) .skip))
 (.seq (.region [⟨.load true 5 (.t 5), none⟩, ⟨.store 5 (.t 3) (.l 0), none⟩, ⟨.mv (.c (.bool true)), none⟩] [(4, 2)])
 .ret)))))
def a_s_l11Walk : AFun := ⟨[0, 1, 2, 4, 5, 6, 7, 25, 34, 44], 47, c_s_l11Walk, [.cell 3 true 5, .tmp 4], 2⟩
def w_i_Party_walk_1 : ACode :=
 (.seq (.region [⟨.bin 0 .lss (.t 9) (.t 8), none⟩] [(10, 0)])
 (.seq (.cond (.t 10) .skip (.exit 0))
 (.seq (.block 1 (.seq (.region [⟨.indexAddrS 2 (.t 7) (.t 9), none⟩, ⟨.load true 2 (.l 0), none⟩, ⟨.alloc [.int .i64 (0), .int .i64 (0)], none⟩, ⟨.store 2 (.l 2) (.l 1), none⟩] [(6, 2)])
 (.seq (.seq (.draw [⟨.load true 5 (.t 2), none, []⟩, ⟨.load true 3 (.t 5), none, []⟩, ⟨.load true 2 (.t 6), none, []⟩, ⟨.call (.c (.fn f_i_Party_moves [] [])) [(.l 0), (.l 1)], none, [(2, ⟨.load true 2 (.t 6), none⟩)]⟩, ⟨.call (.c (.fn f_slices_Contains_S_2int__2int [] [])) [(.l 3), (.l 2)], none, []⟩, ⟨.un .not (.l 4), none, []⟩] [(11, 5)])
 (.cond (.t 11) (.seq (.region [⟨.build [.int .i64 (0), .int .i64 (0), .int .i64 (0)] [], none⟩, ⟨.store 3 (.t 3) (.l 0), none⟩, ⟨.mv (.c (.bool false)), none⟩] [(4, 2)])
 .ret) .skip))
 (.region [⟨.indexAddrA 2 1 (.t 6) (.c (.int .i64 (0))), none⟩, ⟨.load false 1 (.l 0), none⟩, ⟨.indexAddrA 2 1 (.t 6) (.c (.int .i64 (1))), none⟩, ⟨.load false 1 (.l 2), none⟩, ⟨.indexAddrA 3 1 (.t 5) (.l 1), none⟩, ⟨.store 1 (.l 4) (.l 3), none⟩] []))))
 (.region [⟨.bin 0 .add (.t 9) (.c (.int .i64 (1))), none⟩, ⟨.mv (.l 0), none⟩] [(9, 1)]))))
def c_i_Party_walk : ACode :=
 (.seq (.region [⟨.box (.t 0), none⟩, ⟨.alloc [.int .i64 (0), .int .i64 (0), .int .i64 (0)], none⟩, ⟨.mv (.c (.bool false)), none⟩] [(2, 0), (3, 1), (4, 2)])
 (.seq (.region [⟨.load true 5 (.t 2), none⟩, ⟨.call (.c (.fn f_i_Party_spots [] [])) [(.l 0)], none⟩, ⟨.alloc [.int .i64 (0), .int .i64 (0), .int .i64 (0)], none⟩, ⟨.store 3 (.l 2) (.l 1), none⟩] [(5, 2)])
 (.seq (.seq (.region [⟨.mv (.t 1), none⟩, ⟨.len (.l 0), none⟩, ⟨.mv (.c (.int .i64 (0))), none⟩] [(7, 0), (8, 1), (9, 2)])
 (.block 0 (.loop w_i_Party_walk_1)))
 (.seq (.region [⟨.load true 3 (.t 5), none⟩, ⟨.store 3 (.t 3) (.l 0), none⟩, ⟨.mv (.c (.bool true)), none⟩] [(4, 2)])
 .ret))))
def a_i_Party_walk : AFun := ⟨[0, 1, 2, 4, 5, 6, 8, 11, 12, 13, 14, 22], 31, c_i_Party_walk, [.cell 3 true 3, .tmp 4], 1⟩
def c_s_l1In : ACode :=
 (.seq (.region [⟨.mv (.c (.bool false)), none⟩] [(3, 0)])
 (.seq (.region [⟨.mv (.t 0), none⟩, ⟨.mv (.t 1), none⟩, ⟨.bin 0 .geq (.l 0) (.l 1), none⟩, ⟨.mv (.l 2), none⟩, ⟨.mv (.t 0), some ((.l 3), true)⟩, ⟨.mv (.t 2), some ((.l 3), true)⟩, ⟨.bin 0 .leq (.l 4) (.l 5), some ((.l 3), true)⟩, ⟨.pick (.l 3) (.l 6) (.c (.bool false)), none⟩, ⟨.mv (.l 7), none⟩] [(3, 8)])
 .ret))
def a_s_l1In : AFun := ⟨[0, 1, 2, 6], 15, c_s_l1In, [.tmp 3], 1⟩
def c_s_l1Least : ACode :=
 (.seq (.region [⟨.mv (.c (.int .i64 (0))), none⟩] [(2, 0)])
 (.seq (.seq (.region [⟨.mv (.t 0), none⟩, ⟨.mv (.t 1), none⟩, ⟨.bin 0 .lss (.l 0) (.l 1), none⟩] [(3, 2)])
 (.cond (.t 3) (.seq (.region [⟨.mv (.t 0), none⟩, ⟨.mv (.l 0), none⟩] [(2, 1)])
 .ret) .skip))
 (.seq (.region [⟨.mv (.t 1), none⟩, ⟨.mv (.l 0), none⟩] [(2, 1)])
 .ret)))
def a_s_l1Least : AFun := ⟨[0, 1, 4, 7], 10, c_s_l1Least, [.tmp 2], 1⟩
def c_s_l1Most : ACode :=
 (.seq (.region [⟨.mv (.c (.int .i64 (0))), none⟩] [(2, 0)])
 (.seq (.seq (.region [⟨.mv (.t 0), none⟩, ⟨.mv (.t 1), none⟩, ⟨.bin 0 .gtr (.l 0) (.l 1), none⟩] [(3, 2)])
 (.cond (.t 3) (.seq (.region [⟨.mv (.t 0), none⟩, ⟨.mv (.l 0), none⟩] [(2, 1)])
 .ret) .skip))
 (.seq (.region [⟨.mv (.t 1), none⟩, ⟨.mv (.l 0), none⟩] [(2, 1)])
 .ret)))
def a_s_l1Most : AFun := ⟨[0, 1, 4, 7], 10, c_s_l1Most, [.tmp 2], 1⟩
def w_s_l11Key_1 : ACode :=
 (.seq (.seq (.region [⟨.mv (.t 4), none⟩, ⟨.fieldAddr 3 (.t 1), none⟩, ⟨.load false 1 (.l 1), none⟩, ⟨.len (.l 2), none⟩, ⟨.bin 0 .lss (.l 0) (.l 3), none⟩] [(5, 4)])
 (.cond (.t 5) .skip (.exit 0)))
 (.seq (.block 1 (.draw [⟨.mv (.t 3), none, []⟩, ⟨.fieldAddr 0 (.t 1), none, []⟩, ⟨.fieldAddr 0 (.l 1), none, []⟩, ⟨.load false 1 (.l 2), none, []⟩, ⟨.bin 0 .add (.l 3) (.c (.int .i64 (1))), none, []⟩, ⟨.bin 0 .mul (.l 0) (.l 4), none, []⟩, ⟨.fieldAddr 3 (.t 1), none, []⟩, ⟨.load false 1 (.l 6), none, []⟩, ⟨.mv (.t 4), none, []⟩, ⟨.indexAddrS 2 (.l 7) (.l 8), none, []⟩, ⟨.fieldAddr 0 (.l 9), none, []⟩, ⟨.load false 1 (.l 10), none, []⟩, ⟨.bin 0 .add (.l 5) (.l 11), none, []⟩, ⟨.mv (.l 12), none, []⟩] [(3, 13)]))
 (.region [⟨.mv (.t 4), none⟩, ⟨.bin 0 .add (.l 0) (.c (.int .i64 (1))), none⟩, ⟨.mv (.l 1), none⟩] [(4, 2)])))
def c_s_l11Key : ACode :=
 (.seq (.region [⟨.box (.t 0), none⟩, ⟨.mv (.c (.int .i64 (0))), none⟩] [(1, 0), (2, 1)])
 (.seq (.region [⟨.mv (.c (.int .i64 (0))), none⟩] [(3, 0)])
 (.seq (.seq (.region [⟨.mv (.c (.int .i64 (0))), none⟩] [(4, 0)])
 (.block 0 (.loop w_s_l11Key_1)))
 (.seq (.region [⟨.mv (.t 3), none⟩, ⟨.mv (.l 0), none⟩] [(2, 1)])
 .ret))))
def a_s_l11Key : AFun := ⟨[0, 1, 2, 3, 4, 9], 26, c_s_l11Key, [.tmp 2], 1⟩
def w_i_Party_at_1 : ACode :=
 (.seq (.region [⟨.bin 0 .lss (.t 8) (.t 7), none⟩] [(9, 0)])
 (.seq (.cond (.t 9) .skip (.exit 0))
 (.seq (.block 1 (.seq (.region [⟨.mv (.t 8), none⟩, ⟨.mv (.l 0), none⟩] [(6, 1)])
 (.draw [⟨.fieldAddr 3 (.t 5), none, []⟩, ⟨.load false 1 (.l 0), none, []⟩, ⟨.mv (.t 6), none, []⟩, ⟨.mv (.t 6), none, []⟩, ⟨.indexAddrA 3 1 (.t 3) (.l 3), none, []⟩, ⟨.load false 1 (.l 4), none, []⟩, ⟨.indexAddrS 2 (.l 1) (.l 2), none, []⟩, ⟨.fieldAddr 0 (.l 6), none, []⟩, ⟨.store 1 (.l 7) (.l 5), none, []⟩] [])))
 (.region [⟨.bin 0 .add (.t 8) (.c (.int .i64 (1))), none⟩, ⟨.mv (.l 0), none⟩] [(8, 1)]))))
def c_i_Party_at : ACode :=
 (.seq (.region [⟨.box (.t 0), none⟩, ⟨.box (.t 1), none⟩, ⟨.alloc [.int .i64 (0), .int .i64 (0), .int .i64 (0), .slice none 0 0 none, .int .i64 (0)], none⟩] [(2, 0), (3, 1), (4, 2)])
 (.seq (.draw [⟨.fieldAddr 0 (.t 2), none, []⟩, ⟨.load true 3 (.l 0), none, []⟩, ⟨.fieldAddr 3 (.t 2), none, []⟩, ⟨.load false 1 (.l 2), none, []⟩, ⟨.fieldAddr 4 (.t 2), none, []⟩, ⟨.load false 1 (.l 4), none, []⟩, ⟨.call (.c (.fn f_slices_Clone_Si_Load_i_Load [] [])) [(.l 3)], none, [(1, ⟨.load true 3 (.l 0), none⟩), (5, ⟨.load false 1 (.l 4), none⟩)]⟩, ⟨.build [.int .i64 (0), .int .i64 (0), .int .i64 (0), .slice none 0 0 none, .int .i64 (0)] [(0, 3, (.l 1)), (3, 1, (.l 6)), (4, 1, (.l 5))], none, []⟩, ⟨.alloc [.int .i64 (0), .int .i64 (0), .int .i64 (0), .slice none 0 0 none, .int .i64 (0)], none, [(1, ⟨.load true 3 (.l 0), none⟩), (3, ⟨.load false 1 (.l 2), none⟩), (5, ⟨.load false 1 (.l 4), none⟩)]⟩, ⟨.store 5 (.l 8) (.l 7), none, []⟩] [(5, 8)])
 (.seq (.seq (.region [⟨.fieldAddr 3 (.t 5), none⟩, ⟨.load false 1 (.l 0), none⟩, ⟨.len (.l 1), none⟩, ⟨.mv (.c (.int .i64 (0))), none⟩] [(7, 2), (8, 3)])
 (.block 0 (.loop w_i_Party_at_1)))
 (.seq (.region [⟨.load true 5 (.t 5), none⟩, ⟨.store 5 (.t 4) (.l 0), none⟩] [])
 .ret))))
def a_i_Party_at : AFun := ⟨[0, 1, 2, 3, 4, 5, 6, 17, 18, 19], 31, c_i_Party_at, [.cell 4 true 5], 2⟩
def w_s_l11Placed_1 : ACode :=
 (.seq (.seq (.region [⟨.mv (.t 6), none⟩, ⟨.mv (.t 1), none⟩, ⟨.len (.l 1), none⟩, ⟨.bin 0 .lss (.l 0) (.l 2), none⟩] [(8, 3)])
 (.cond (.t 8) .skip (.exit 0)))
 (.seq (.block 1 (.seq (.seq (.draw [⟨.mv (.t 1), none, []⟩, ⟨.mv (.t 6), none, []⟩, ⟨.indexAddrS 1 (.l 0) (.l 1), none, []⟩, ⟨.load false 1 (.l 2), none, []⟩, ⟨.fieldAddr 0 (.t 2), none, []⟩, ⟨.fieldAddr 0 (.l 4), none, []⟩, ⟨.load false 1 (.l 5), none, []⟩, ⟨.call (.c (.fn f_s_l1In [] [])) [(.l 3), (.c (.int .i64 (0))), (.l 6)], none, []⟩, ⟨.un .not (.l 7), none, []⟩] [(9, 8)])
 (.cond (.t 9) (.seq (.region [⟨.build [.int .i64 (0), .int .i64 (0), .int .i64 (0), .slice none 0 0 none, .int .i64 (0)] [], none⟩, ⟨.store 5 (.t 3) (.l 0), none⟩, ⟨.mv (.c (.bool false)), none⟩] [(4, 2)])
 .ret) .skip))
 (.draw [⟨.fieldAddr 3 (.t 5), none, []⟩, ⟨.load false 1 (.l 0), none, []⟩, ⟨.mv (.t 6), none, []⟩, ⟨.mv (.t 1), none, []⟩, ⟨.mv (.t 6), none, []⟩, ⟨.indexAddrS 1 (.l 3) (.l 4), none, []⟩, ⟨.load false 1 (.l 5), none, []⟩, ⟨.indexAddrS 2 (.l 1) (.l 2), none, []⟩, ⟨.fieldAddr 0 (.l 7), none, []⟩, ⟨.store 1 (.l 8) (.l 6), none, []⟩] [])))
 (.region [⟨.mv (.t 6), none⟩, ⟨.bin 0 .add (.l 0) (.c (.int .i64 (1))), none⟩, ⟨.mv (.l 1), none⟩] [(6, 2)])))
def c_s_l11Placed : ACode :=
 (.seq (.region [⟨.box (.t 0), none⟩, ⟨.alloc [.int .i64 (0), .int .i64 (0), .int .i64 (0), .slice none 0 0 none, .int .i64 (0)], none⟩, ⟨.mv (.c (.bool false)), none⟩] [(2, 0), (3, 1), (4, 2)])
 (.seq (.seq (.region [⟨.mv (.t 1), none⟩, ⟨.len (.l 0), none⟩, ⟨.fieldAddr 3 (.t 2), none⟩, ⟨.load false 1 (.l 2), none⟩, ⟨.len (.l 3), none⟩, ⟨.bin 0 .neq (.l 1) (.l 4), none⟩] [(7, 5)])
 (.cond (.t 7) (.seq (.region [⟨.build [.int .i64 (0), .int .i64 (0), .int .i64 (0), .slice none 0 0 none, .int .i64 (0)] [], none⟩, ⟨.store 5 (.t 3) (.l 0), none⟩, ⟨.mv (.c (.bool false)), none⟩] [(4, 2)])
 .ret) .skip))
 (.seq (.region [⟨.load true 5 (.t 2), none⟩, ⟨.call (.c (.fn f_s_l11At [] [])) [(.l 0), (.c (.int .i64 (0)))], none⟩, ⟨.alloc [.int .i64 (0), .int .i64 (0), .int .i64 (0), .slice none 0 0 none, .int .i64 (0)], none⟩, ⟨.store 5 (.l 2) (.l 1), none⟩] [(5, 2)])
 (.seq (.seq (.region [⟨.mv (.c (.int .i64 (0))), none⟩] [(6, 0)])
 (.block 0 (.loop w_s_l11Placed_1)))
 (.seq (.region [⟨.load true 5 (.t 5), none⟩, ⟨.store 5 (.t 3) (.l 0), none⟩, ⟨.mv (.c (.bool true)), none⟩] [(4, 2)])
 .ret)))))
def a_s_l11Placed : AFun := ⟨[0, 1, 2, 4, 5, 6, 7, 13, 20, 31], 43, c_s_l11Placed, [.cell 3 true 5, .tmp 4], 2⟩
def w_i_Party_spotsOf_1 : ACode :=
 (.seq (.region [⟨.bin 0 .lss (.t 11) (.t 10), none⟩] [(12, 0)])
 (.seq (.cond (.t 12) .skip (.exit 0))
 (.seq (.block 1 (.seq (.region [⟨.mv (.t 11), none⟩, ⟨.indexAddrS 1 (.t 9) (.t 11), none⟩, ⟨.load false 1 (.l 1), none⟩, ⟨.mv (.l 0), none⟩, ⟨.mv (.l 2), none⟩] [(6, 3), (7, 4)])
 (.seq (.seq (.region [⟨.mv (.t 7), none⟩, ⟨.fieldAddr 0 (.t 2), none⟩, ⟨.fieldAddr 0 (.l 1), none⟩, ⟨.load false 1 (.l 2), none⟩, ⟨.call (.c (.fn f_i_within [] [])) [(.l 0), (.c (.int .i64 (0))), (.l 3)], none⟩, ⟨.un .not (.l 4), none⟩] [(13, 5)])
 (.cond (.t 13) (.seq (.region [⟨.build [.int .i64 (0), .int .i64 (0), .int .i64 (0)] [], none⟩, ⟨.store 3 (.t 3) (.l 0), none⟩, ⟨.mv (.c (.bool false)), none⟩] [(4, 2)])
 .ret) .skip))
 (.region [⟨.mv (.t 6), none⟩, ⟨.mv (.t 7), none⟩, ⟨.indexAddrA 3 1 (.t 5) (.l 0), none⟩, ⟨.store 1 (.l 2) (.l 1), none⟩] []))))
 (.region [⟨.bin 0 .add (.t 11) (.c (.int .i64 (1))), none⟩, ⟨.mv (.l 0), none⟩] [(11, 1)]))))
def c_i_Party_spotsOf : ACode :=
 (.seq (.region [⟨.box (.t 0), none⟩, ⟨.alloc [.int .i64 (0), .int .i64 (0), .int .i64 (0)], none⟩, ⟨.mv (.c (.bool false)), none⟩] [(2, 0), (3, 1), (4, 2)])
 (.seq (.seq (.region [⟨.load true 5 (.t 2), none⟩, ⟨.call (.c (.fn f_i_IsParty [] [])) [(.l 0)], none⟩, ⟨.un .not (.l 1), none⟩, ⟨.mv (.l 2), none⟩, ⟨.mv (.t 1), some ((.l 3), false)⟩, ⟨.len (.l 4), some ((.l 3), false)⟩, ⟨.fieldAddr 3 (.t 2), some ((.l 3), false)⟩, ⟨.load false 1 (.l 6), some ((.l 3), false)⟩, ⟨.len (.l 7), some ((.l 3), false)⟩, ⟨.bin 0 .neq (.l 5) (.l 8), some ((.l 3), false)⟩, ⟨.pick (.l 3) (.c (.bool true)) (.l 9), none⟩] [(8, 10)])
 (.cond (.t 8) (.seq (.region [⟨.build [.int .i64 (0), .int .i64 (0), .int .i64 (0)] [], none⟩, ⟨.store 3 (.t 3) (.l 0), none⟩, ⟨.mv (.c (.bool false)), none⟩] [(4, 2)])
 .ret) .skip))
 (.seq (.region [⟨.build [.int .i64 (0), .int .i64 (0), .int .i64 (0)] [], none⟩, ⟨.alloc [.int .i64 (0), .int .i64 (0), .int .i64 (0)], none⟩, ⟨.store 3 (.l 1) (.l 0), none⟩] [(5, 1)])
 (.seq (.seq (.region [⟨.mv (.t 1), none⟩, ⟨.len (.l 0), none⟩, ⟨.mv (.c (.int .i64 (0))), none⟩] [(9, 0), (10, 1), (11, 2)])
 (.block 0 (.loop w_i_Party_spotsOf_1)))
 (.seq (.region [⟨.load true 3 (.t 5), none⟩, ⟨.store 3 (.t 3) (.l 0), none⟩, ⟨.mv (.c (.bool true)), none⟩] [(4, 2)])
 .ret)))))
def a_i_Party_spotsOf : AFun := ⟨[0, 1, 2, 4, 5, 6, 7, 8, 19, 22, 23, 24, 25, 34], 41, c_i_Party_spotsOf, [.cell 3 true 3, .tmp 4], 1⟩
def c_s_DrawIsParty : ACode :=
 (.seq (.region [⟨.alloc [.int .i64 (0), .int .i64 (0), .int .i64 (0), .slice none 0 0 none, .int .i64 (0)], none⟩] [(1, 0)])
 (.seq (.region [⟨.mv (.t 0), none⟩, ⟨.build [.slice none 0 0 none, .int .i64 (0), .int .u64 (0)] [(0, 1, (.l 0))], none⟩, ⟨.box (.l 1), none⟩, ⟨.mv (.l 2), none⟩] [(2, 3)])
 (.seq (.region [⟨.mv (.t 2), none⟩, ⟨.call (.c (.fn f_s_l1Cur_party [] [])) [(.l 0)], none⟩, ⟨.store 5 (.t 1) (.l 1), none⟩] [])
 .ret)))
def a_s_DrawIsParty : AFun := ⟨[0, 2, 3], 9, c_s_DrawIsParty, [.cell 1 true 5], 2⟩
def w_s_l1Cur_party_1 : ACode :=
 (.seq (.seq (.region [⟨.mv (.t 3), none⟩, ⟨.bin 0 .gtr (.l 0) (.c (.int .i64 (0))), none⟩] [(6, 1)])
 (.cond (.t 6) .skip (.exit 0)))
 (.seq (.block 1 (.draw [⟨.fieldAddr 3 (.t 2), none, []⟩, ⟨.load false 1 (.l 0), none, []⟩, ⟨.fieldAddr 0 (.t 2), none, []⟩, ⟨.fieldAddr 1 (.l 2), none, []⟩, ⟨.load false 1 (.l 3), none, []⟩, ⟨.mv (.t 0), none, []⟩, ⟨.mv (.t 0), none, []⟩, ⟨.mv (.t 0), none, []⟩, ⟨.call (.c (.fn f_s_l1Cur_pick [] [])) [(.l 5), (.c (.int .i64 (2)))], none, [(1, ⟨.load false 1 (.l 0), none⟩), (4, ⟨.load false 1 (.l 3), none⟩)]⟩, ⟨.bin 0 .add (.l 4) (.l 8), none, []⟩, ⟨.buildSlice 1 3 [.int .i64 (0), .int .i64 (0), .int .i64 (0)] [(0, 1, (.c (.int .i64 (2)))), (1, 1, (.c (.int .i64 (3)))), (2, 1, (.c (.int .i64 (6))))], none, [(1, ⟨.load false 1 (.l 0), none⟩), (4, ⟨.load false 1 (.l 3), none⟩)]⟩, ⟨.call (.c (.fn f_s_l1Cur_among [] [])) [(.l 7), (.l 10)], none, [(1, ⟨.load false 1 (.l 0), none⟩), (4, ⟨.load false 1 (.l 3), none⟩)]⟩, ⟨.call (.c (.fn f_s_l1Cur_pick [] [])) [(.l 6), (.l 11)], none, [(1, ⟨.load false 1 (.l 0), none⟩), (4, ⟨.load false 1 (.l 3), none⟩)]⟩, ⟨.bin 0 .add (.c (.int .i64 (1))) (.l 12), none, []⟩, ⟨.build [.int .i64 (0), .int .i64 (0)] [(0, 1, (.l 9)), (1, 1, (.l 13))], none, []⟩, ⟨.buildSlice 2 1 [.int .i64 (0), .int .i64 (0)] [(0, 2, (.l 14))], none, [(1, ⟨.load false 1 (.l 0), none⟩)]⟩, ⟨.append false 2 16 (.l 1) (.l 15), none, []⟩, ⟨.fieldAddr 3 (.t 2), none, []⟩, ⟨.store 1 (.l 17) (.l 16), none, []⟩] []))
 (.region [⟨.mv (.t 3), none⟩, ⟨.bin 0 .sub (.l 0) (.c (.int .i64 (1))), none⟩, ⟨.mv (.l 1), none⟩] [(3, 2)])))
def w_s_l1Cur_party_2 : ACode :=
 (.seq (.seq (.region [⟨.mv (.t 4), none⟩, ⟨.bin 0 .gtr (.l 0) (.c (.int .i64 (0))), none⟩] [(7, 1)])
 (.cond (.t 7) .skip (.exit 2)))
 (.seq (.block 3 (.seq (.region [⟨.mv (.t 0), none⟩, ⟨.load true 5 (.t 2), none⟩, ⟨.call (.c (.fn f_s_l1Cur_moveOf [] [])) [(.l 0), (.l 1)], none⟩, ⟨.alloc [.int .i64 (0), .int .i64 (0)], none⟩, ⟨.store 2 (.l 3) (.l 2), none⟩] [(5, 3)])
 (.seq (.region [⟨.load true 5 (.t 2), none⟩, ⟨.call (.c (.fn f_s_l11Party [] [])) [(.l 0)], none⟩, ⟨.mv (.l 1), none⟩, ⟨.load true 5 (.t 2), some ((.l 2), true)⟩, ⟨.load true 2 (.t 5), some ((.l 2), true)⟩, ⟨.call (.c (.fn f_s_l11Safe [] [])) [(.l 3), (.l 4)], some ((.l 2), true)⟩, ⟨.pick (.l 2) (.l 5) (.c (.bool false)), none⟩] [(8, 6)])
 (.cond (.t 8) (.region [⟨.load true 5 (.t 2), none⟩, ⟨.load true 2 (.t 5), none⟩, ⟨.call (.c (.fn f_s_l11Moved [] [])) [(.l 0), (.l 1)], none⟩, ⟨.store 5 (.t 2) (.l 2), none⟩] []) .skip))))
 (.region [⟨.mv (.t 4), none⟩, ⟨.bin 0 .sub (.l 0) (.c (.int .i64 (1))), none⟩, ⟨.mv (.l 1), none⟩] [(4, 2)])))
def c_s_l1Cur_party : ACode :=
 (.seq (.region [⟨.alloc [.int .i64 (0), .int .i64 (0), .int .i64 (0), .slice none 0 0 none, .int .i64 (0)], none⟩] [(1, 0)])
 (.seq (.region [⟨.mv (.t 0), none⟩, ⟨.call (.c (.fn f_s_l1Cur_plank [] [])) [(.l 0)], none⟩, ⟨.mv (.t 0), none⟩, ⟨.buildSlice 1 6 [.int .i64 (0), .int .i64 (0), .int .i64 (0), .int .i64 (0), .int .i64 (0), .int .i64 (0)] [(0, 1, (.c (.int .i64 (1)))), (1, 1, (.c (.int .i64 (2)))), (2, 1, (.c (.int .i64 (2)))), (3, 1, (.c (.int .i64 (3)))), (4, 1, (.c (.int .i64 (1)))), (5, 1, (.c (.int .i64 (4))))], none⟩, ⟨.call (.c (.fn f_s_l1Cur_among [] [])) [(.l 2), (.l 3)], none⟩, ⟨.build [.int .i64 (0), .int .i64 (0), .int .i64 (0), .slice none 0 0 none, .int .i64 (0)] [(0, 3, (.l 1)), (4, 1, (.l 4))], none⟩, ⟨.alloc [.int .i64 (0), .int .i64 (0), .int .i64 (0), .slice none 0 0 none, .int .i64 (0)], none⟩, ⟨.store 5 (.l 6) (.l 5), none⟩] [(2, 6)])
 (.seq (.seq (.region [⟨.mv (.t 0), none⟩, ⟨.buildSlice 1 5 [.int .i64 (0), .int .i64 (0), .int .i64 (0), .int .i64 (0), .int .i64 (0)] [(0, 1, (.c (.int .i64 (2)))), (1, 1, (.c (.int .i64 (3)))), (2, 1, (.c (.int .i64 (2)))), (3, 1, (.c (.int .i64 (1)))), (4, 1, (.c (.int .i64 (3))))], none⟩, ⟨.call (.c (.fn f_s_l1Cur_among [] [])) [(.l 0), (.l 1)], none⟩, ⟨.mv (.l 2), none⟩] [(3, 3)])
 (.block 0 (.loop w_s_l1Cur_party_1)))
 (.seq (.seq (.region [⟨.mv (.t 0), none⟩, ⟨.call (.c (.fn f_s_l1Cur_pick [] [])) [(.l 0), (.c (.int .i64 (12)))], none⟩, ⟨.mv (.l 1), none⟩] [(4, 2)])
 (.block 2 (.loop w_s_l1Cur_party_2)))
 (.seq (.seq (.region [⟨.mv (.t 0), none⟩, ⟨.call (.c (.fn f_s_l1Cur_pick [] [])) [(.l 0), (.c (.int .i64 (40)))], none⟩] [(9, 1)])
 (.block 4 (.seq (.region [⟨.bin 0 .eql (.t 9) (.c (.int .i64 (0))), none⟩, ⟨.mv (.l 0), none⟩] [(10, 1)])
 (.cond (.t 10) (.region [⟨.mv (.t 0), none⟩, ⟨.buildSlice 1 3 [.int .i64 (0), .int .i64 (0), .int .i64 (0)] [(0, 1, (.c (.int .i64 (0)))), (1, 1, (.c (.int .i64 (5)))), (2, 1, (.c (.int .i64 (-1))))], none⟩, ⟨.call (.c (.fn f_s_l1Cur_among [] [])) [(.l 0), (.l 1)], none⟩, ⟨.fieldAddr 4 (.t 2), none⟩, ⟨.store 1 (.l 3) (.l 2), none⟩] []) (.seq (.region [⟨.bin 0 .eql (.t 9) (.c (.int .i64 (1))), none⟩, ⟨.mv (.l 0), none⟩] [(11, 1)])
 (.cond (.t 11) (.draw [⟨.fieldAddr 3 (.t 2), none, []⟩, ⟨.load false 1 (.l 0), none, []⟩, ⟨.mv (.t 0), none, []⟩, ⟨.fieldAddr 0 (.t 2), none, []⟩, ⟨.fieldAddr 0 (.l 3), none, []⟩, ⟨.load false 1 (.l 4), none, []⟩, ⟨.fieldAddr 0 (.t 2), none, []⟩, ⟨.fieldAddr 0 (.l 6), none, []⟩, ⟨.load false 1 (.l 7), none, []⟩, ⟨.bin 0 .add (.l 8) (.c (.int .i64 (1))), none, []⟩, ⟨.buildSlice 1 4 [.int .i64 (0), .int .i64 (0), .int .i64 (0), .int .i64 (0)] [(0, 1, (.c (.int .i64 (0)))), (1, 1, (.l 5)), (2, 1, (.l 9)), (3, 1, (.c (.int .i64 (-1))))], none, [(1, ⟨.load false 1 (.l 0), none⟩)]⟩, ⟨.call (.c (.fn f_s_l1Cur_among [] [])) [(.l 2), (.l 10)], none, [(1, ⟨.load false 1 (.l 0), none⟩)]⟩, ⟨.indexAddrS 2 (.l 1) (.c (.int .i64 (0))), none, []⟩, ⟨.fieldAddr 0 (.l 12), none, []⟩, ⟨.store 1 (.l 13) (.l 11), none, []⟩] []) (.seq (.region [⟨.bin 0 .eql (.t 9) (.c (.int .i64 (2))), none⟩, ⟨.mv (.l 0), none⟩] [(12, 1)])
 (.cond (.t 12) (.draw [⟨.fieldAddr 3 (.t 2), none, []⟩, ⟨.load false 1 (.l 0), none, []⟩, ⟨.fieldAddr 3 (.t 2), none, []⟩, ⟨.load false 1 (.l 2), none, []⟩, ⟨.indexAddrS 2 (.l 3) (.c (.int .i64 (0))), none, []⟩, ⟨.load true 2 (.l 4), none, []⟩, ⟨.fieldAddr 3 (.t 2), none, []⟩, ⟨.load false 1 (.l 6), none, []⟩, ⟨.indexAddrS 2 (.l 7) (.c (.int .i64 (0))), none, []⟩, ⟨.load true 2 (.l 8), none, []⟩, ⟨.fieldAddr 3 (.t 2), none, []⟩, ⟨.load false 1 (.l 10), none, []⟩, ⟨.indexAddrS 2 (.l 11) (.c (.int .i64 (0))), none, []⟩, ⟨.load true 2 (.l 12), none, []⟩, ⟨.buildSlice 2 3 [.int .i64 (0), .int .i64 (0), .int .i64 (0), .int .i64 (0), .int .i64 (0), .int .i64 (0)] [(0, 2, (.l 5)), (2, 2, (.l 9)), (4, 2, (.l 13))], none, [(1, ⟨.load false 1 (.l 0), none⟩)]⟩, ⟨.append false 2 16 (.l 1) (.l 14), none, []⟩, ⟨.fieldAddr 3 (.t 2), none, []⟩, ⟨.store 1 (.l 16) (.l 15), none, []⟩] []) (.seq (.region [⟨.bin 0 .eql (.t 9) (.c (.int .i64 (3))), none⟩, ⟨.mv (.l 0), none⟩] [(13, 1)])
 (.cond (.t 13) (.region [⟨.buildSlice 2 0 [] [], none⟩, ⟨.fieldAddr 3 (.t 2), none⟩, ⟨.store 1 (.l 1) (.l 0), none⟩] []) .skip))))))))))
 (.seq (.region [⟨.load true 5 (.t 2), none⟩, ⟨.store 5 (.t 1) (.l 0), none⟩] [])
 .ret))))))
def a_s_l1Cur_party : AFun := ⟨[0, 2, 3, 4, 5, 6, 17, 41, 53, 58, 59, 65, 81, 100], 105, c_s_l1Cur_party, [.cell 1 true 5], 2⟩
def c_s_l1Cur_pick : ACode :=
 (.seq (.region [⟨.mv (.c (.int .i64 (0))), none⟩] [(2, 0)])
 (.seq (.seq (.region [⟨.mv (.t 1), none⟩, ⟨.bin 0 .leq (.l 0) (.c (.int .i64 (1))), none⟩] [(4, 1)])
 (.cond (.t 4) (.seq (.region [⟨.mv (.c (.int .i64 (0))), none⟩] [(2, 0)])
 .ret) .skip))
 (.seq (.region [⟨.mv (.t 0), none⟩, ⟨.call (.c (.fn f_s_l1Cur_next [] [])) [(.l 0)], none⟩, ⟨.mv (.l 1), none⟩] [(3, 2)])
 (.seq (.seq (.region [⟨.mv (.t 1), none⟩, ⟨.bin 0 .gtr (.l 0) (.c (.int .i64 (200))), none⟩] [(5, 1)])
 (.cond (.t 5) (.region [⟨.mv (.t 3), none⟩, ⟨.bin 0 .mul (.l 0) (.c (.int .i64 (256))), none⟩, ⟨.mv (.t 0), none⟩, ⟨.call (.c (.fn f_s_l1Cur_next [] [])) [(.l 2)], none⟩, ⟨.bin 0 .add (.l 1) (.l 3), none⟩, ⟨.mv (.l 4), none⟩] [(3, 5)]) .skip))
 (.seq (.region [⟨.mv (.t 3), none⟩, ⟨.mv (.t 1), none⟩, ⟨.bin 0 .rem (.l 0) (.l 1), none⟩, ⟨.mv (.l 2), none⟩] [(2, 3)])
 .ret)))))
def a_s_l1Cur_pick : AFun := ⟨[0, 1, 4, 5, 7, 11], 20, c_s_l1Cur_pick, [.tmp 2], 1⟩
def c_s_DrawStepsTo : ACode :=
 (.seq (.region [⟨.alloc [.int .i64 (0), .int .i64 (0), .int .i64 (0), .slice none 0 0 none, .int .i64 (0)], none⟩, ⟨.mv (.c (.slice none 0 0 none)), none⟩] [(1, 0), (2, 1)])
 (.seq (.region [⟨.mv (.t 0), none⟩, ⟨.build [.slice none 0 0 none, .int .i64 (0), .int .u64 (0)] [(0, 1, (.l 0))], none⟩, ⟨.box (.l 1), none⟩, ⟨.mv (.l 2), none⟩] [(3, 3)])
 (.seq (.region [⟨.mv (.t 3), none⟩, ⟨.call (.c (.fn f_s_l1Cur_party [] [])) [(.l 0)], none⟩, ⟨.alloc [.int .i64 (0), .int .i64 (0), .int .i64 (0), .slice none 0 0 none, .int .i64 (0)], none⟩, ⟨.store 5 (.l 2) (.l 1), none⟩] [(4, 2)])
 (.seq (.draw [⟨.load true 5 (.t 4), none, []⟩, ⟨.mv (.t 3), none, []⟩, ⟨.load true 5 (.t 4), none, []⟩, ⟨.call (.c (.fn f_s_l1Cur_targets [] [])) [(.l 1), (.l 2)], none, [(0, ⟨.load true 5 (.t 4), none⟩)]⟩, ⟨.store 5 (.t 1) (.l 0), none, []⟩, ⟨.mv (.l 3), none, []⟩] [(2, 5)])
 .ret))))
def a_s_DrawStepsTo : AFun := ⟨[0, 2, 3, 4, 5], 15, c_s_DrawStepsTo, [.cell 1 true 5, .tmp 2], 2⟩
def c_s_l1Cur_moveOf : ACode :=
 (.seq (.region [⟨.box (.t 1), none⟩, ⟨.alloc [.int .i64 (0), .int .i64 (0)], none⟩] [(2, 0), (3, 1)])
 (.seq (.seq (.region [⟨.load true 5 (.t 2), none⟩, ⟨.call (.c (.fn f_s_l11Party [] [])) [(.l 0)], none⟩, ⟨.mv (.l 1), none⟩, ⟨.mv (.t 0), some ((.l 2), true)⟩, ⟨.call (.c (.fn f_s_l1Cur_one [] [])) [(.l 3), (.c (.int .i64 (6)))], some ((.l 2), true)⟩, ⟨.un .not (.l 4), some ((.l 2), true)⟩, ⟨.pick (.l 2) (.l 5) (.c (.bool false)), none⟩] [(5, 6)])
 (.cond (.t 5) (.seq (.region [⟨.load true 5 (.t 2), none⟩, ⟨.call (.c (.fn f_s_l11Moves [] [])) [(.l 0)], none⟩, ⟨.mv (.l 1), none⟩] [(4, 2)])
 (.seq (.region [⟨.mv (.t 4), none⟩, ⟨.len (.l 0), none⟩, ⟨.bin 0 .gtr (.l 1) (.c (.int .i64 (0))), none⟩] [(6, 2)])
 (.cond (.t 6) (.seq (.region [⟨.mv (.t 4), none⟩, ⟨.mv (.t 0), none⟩, ⟨.mv (.t 4), none⟩, ⟨.len (.l 2), none⟩, ⟨.call (.c (.fn f_s_l1Cur_pick [] [])) [(.l 1), (.l 3)], none⟩, ⟨.indexAddrS 2 (.l 0) (.l 4), none⟩, ⟨.load true 2 (.l 5), none⟩, ⟨.store 2 (.t 3) (.l 6), none⟩] [])
 .ret) .skip))) .skip))
 (.seq (.region [⟨.mv (.t 0), none⟩, ⟨.call (.c (.fn f_s_l1Cur_pick [] [])) [(.l 0), (.c (.int .i64 (4)))], none⟩, ⟨.mv (.t 0), none⟩, ⟨.call (.c (.fn f_s_l1Cur_pick [] [])) [(.l 2), (.c (.int .i64 (24)))], none⟩, ⟨.bin 0 .quo (.l 3) (.c (.int .i64 (23))), none⟩, ⟨.bin 0 .sub (.l 1) (.l 4), none⟩, ⟨.mv (.t 0), none⟩, ⟨.call (.c (.fn f_s_l1Cur_pick [] [])) [(.l 6), (.c (.int .i64 (13)))], none⟩, ⟨.build [.int .i64 (0), .int .i64 (0)] [(0, 1, (.l 5)), (1, 1, (.l 7))], none⟩, ⟨.store 2 (.t 3) (.l 8), none⟩] [])
 .ret)))
def a_s_l1Cur_moveOf : AFun := ⟨[0, 1, 3, 4, 5, 12, 17], 34, c_s_l1Cur_moveOf, [.cell 3 true 2], 1⟩
def w_l_rRow_1 : ACode :=
 (.seq (.seq (.region [⟨.mv (.t 3), none⟩, ⟨.mv (.t 0), none⟩, ⟨.len (.l 1), none⟩, ⟨.bin 0 .lss (.l 0) (.l 2), none⟩] [(5, 3)])
 (.cond (.t 5) .skip (.exit 0)))
 (.seq (.block 1 (.seq (.draw [⟨.mv (.t 0), none, []⟩, ⟨.mv (.t 3), none, []⟩, ⟨.indexAddrS 2 (.l 0) (.l 1), none, []⟩, ⟨.load true 2 (.l 2), none, []⟩, ⟨.mv (.t 1), none, []⟩, ⟨.mv (.t 3), none, []⟩, ⟨.indexAddrS 2 (.l 4) (.l 5), none, []⟩, ⟨.load true 2 (.l 6), none, []⟩, ⟨.eqCells [0, 0] true (.l 3) (.l 7), none, []⟩] [(6, 8)])
 (.cond (.t 6) (.seq (.region [⟨.mv (.c (.bool false)), none⟩] [(2, 0)])
 .ret) .skip)))
 (.region [⟨.mv (.t 3), none⟩, ⟨.bin 0 .add (.l 0) (.c (.int .i64 (1))), none⟩, ⟨.mv (.l 1), none⟩] [(3, 2)])))
def c_l_rRow : ACode :=
 (.seq (.region [⟨.mv (.c (.bool false)), none⟩] [(2, 0)])
 (.seq (.seq (.region [⟨.mv (.t 0), none⟩, ⟨.len (.l 0), none⟩, ⟨.mv (.t 1), none⟩, ⟨.len (.l 2), none⟩, ⟨.bin 0 .neq (.l 1) (.l 3), none⟩] [(4, 4)])
 (.cond (.t 4) (.seq (.region [⟨.mv (.c (.bool false)), none⟩] [(2, 0)])
 .ret) .skip))
 (.seq (.seq (.region [⟨.mv (.c (.int .i64 (0))), none⟩] [(3, 0)])
 (.block 0 (.loop w_l_rRow_1)))
 (.seq (.region [⟨.mv (.c (.bool true)), none⟩] [(2, 0)])
 .ret))))
def a_l_rRow : AFun := ⟨[0, 1, 4, 5, 10, 14, 25], 26, c_l_rRow, [.tmp 2], 1⟩
def w_s_DrawIsWalkOn_1 : ACode :=
 (.seq (.seq (.region [⟨.mv (.t 7), none⟩, ⟨.bin 0 .gtr (.l 0) (.c (.int .i64 (0))), none⟩] [(9, 1)])
 (.cond (.t 9) .skip (.exit 0)))
 (.seq (.block 1 (.seq (.region [⟨.mv (.t 3), none⟩, ⟨.load true 5 (.t 6), none⟩, ⟨.call (.c (.fn f_s_l1Cur_moveOf [] [])) [(.l 0), (.l 1)], none⟩, ⟨.alloc [.int .i64 (0), .int .i64 (0)], none⟩, ⟨.store 2 (.l 3) (.l 2), none⟩] [(8, 3)])
 (.seq (.region [⟨.mv (.t 5), none⟩, ⟨.load true 2 (.t 8), none⟩, ⟨.buildSlice 2 1 [.int .i64 (0), .int .i64 (0)] [(0, 2, (.l 1))], none⟩, ⟨.append false 2 16 (.l 0) (.l 2), none⟩, ⟨.mv (.l 3), none⟩] [(5, 4)])
 (.seq (.region [⟨.load true 5 (.t 6), none⟩, ⟨.call (.c (.fn f_s_l11Party [] [])) [(.l 0)], none⟩, ⟨.mv (.l 1), none⟩, ⟨.load true 5 (.t 6), some ((.l 2), true)⟩, ⟨.load true 2 (.t 8), some ((.l 2), true)⟩, ⟨.call (.c (.fn f_s_l11Safe [] [])) [(.l 3), (.l 4)], some ((.l 2), true)⟩, ⟨.pick (.l 2) (.l 5) (.c (.bool false)), none⟩] [(10, 6)])
 (.cond (.t 10) (.region [⟨.load true 5 (.t 6), none⟩, ⟨.load true 2 (.t 8), none⟩, ⟨.call (.c (.fn f_s_l11Moved [] [])) [(.l 0), (.l 1)], none⟩, ⟨.store 5 (.t 6) (.l 2), none⟩] []) .skip)))))
 (.region [⟨.mv (.t 7), none⟩, ⟨.bin 0 .sub (.l 0) (.c (.int .i64 (1))), none⟩, ⟨.mv (.l 1), none⟩] [(7, 2)])))
def c_s_DrawIsWalkOn : ACode :=
 (.seq (.region [⟨.alloc [.int .i64 (0), .int .i64 (0), .int .i64 (0), .slice none 0 0 none, .int .i64 (0)], none⟩, ⟨.mv (.c (.slice none 0 0 none)), none⟩] [(1, 0), (2, 1)])
 (.seq (.region [⟨.mv (.t 0), none⟩, ⟨.build [.slice none 0 0 none, .int .i64 (0), .int .u64 (0)] [(0, 1, (.l 0))], none⟩, ⟨.box (.l 1), none⟩, ⟨.mv (.l 2), none⟩] [(3, 3)])
 (.seq (.region [⟨.mv (.t 3), none⟩, ⟨.call (.c (.fn f_s_l1Cur_party [] [])) [(.l 0)], none⟩, ⟨.buildSlice 2 0 [] [], none⟩, ⟨.alloc [.int .i64 (0), .int .i64 (0), .int .i64 (0), .slice none 0 0 none, .int .i64 (0)], none⟩, ⟨.store 5 (.l 3) (.l 1), none⟩, ⟨.mv (.l 2), none⟩] [(4, 3), (5, 5)])
 (.seq (.region [⟨.load true 5 (.t 4), none⟩, ⟨.alloc [.int .i64 (0), .int .i64 (0), .int .i64 (0), .slice none 0 0 none, .int .i64 (0)], none⟩, ⟨.store 5 (.l 1) (.l 0), none⟩] [(6, 1)])
 (.seq (.seq (.region [⟨.mv (.t 3), none⟩, ⟨.buildSlice 1 6 [.int .i64 (0), .int .i64 (0), .int .i64 (0), .int .i64 (0), .int .i64 (0), .int .i64 (0)] [(0, 1, (.c (.int .i64 (3)))), (1, 1, (.c (.int .i64 (5)))), (2, 1, (.c (.int .i64 (1)))), (3, 1, (.c (.int .i64 (0)))), (4, 1, (.c (.int .i64 (8)))), (5, 1, (.c (.int .i64 (61))))], none⟩, ⟨.call (.c (.fn f_s_l1Cur_among [] [])) [(.l 0), (.l 1)], none⟩, ⟨.mv (.l 2), none⟩] [(7, 3)])
 (.block 0 (.loop w_s_DrawIsWalkOn_1)))
 (.seq (.region [⟨.load true 5 (.t 4), none⟩, ⟨.mv (.t 5), none⟩, ⟨.store 5 (.t 1) (.l 0), none⟩, ⟨.mv (.l 1), none⟩] [(2, 3)])
 .ret))))))
def a_s_DrawIsWalkOn : AFun := ⟨[0, 2, 3, 4, 5, 6, 7, 8, 9, 21, 37], 43, c_s_DrawIsWalkOn, [.cell 1 true 5, .tmp 2], 2⟩
def c_s_l6Beam : ACode :=
 (.seq (.region [⟨.box (.t 0), none⟩, ⟨.mv (.c (.bool false)), none⟩] [(1, 0), (2, 1)])
 (.seq (.region [⟨.fieldAddr 0 (.t 1), none⟩, ⟨.load false 1 (.l 0), none⟩, ⟨.call (.c (.fn f_s_l1In [] [])) [(.l 1), (.c (.int .i64 (1))), (.c (.int .i64 (60)))], none⟩, ⟨.mv (.l 2), none⟩, ⟨.fieldAddr 1 (.t 1), some ((.l 3), true)⟩, ⟨.load false 1 (.l 4), some ((.l 3), true)⟩, ⟨.fieldAddr 0 (.t 1), some ((.l 3), true)⟩, ⟨.load false 1 (.l 6), some ((.l 3), true)⟩, ⟨.bin 0 .sub (.l 7) (.c (.int .i64 (1))), some ((.l 3), true)⟩, ⟨.call (.c (.fn f_s_l1In [] [])) [(.l 5), (.c (.int .i64 (0))), (.l 8)], some ((.l 3), true)⟩, ⟨.pick (.l 3) (.l 9) (.c (.bool false)), none⟩, ⟨.mv (.l 10), none⟩, ⟨.fieldAddr 2 (.t 1), some ((.l 11), true)⟩, ⟨.load false 1 (.l 12), some ((.l 11), true)⟩, ⟨.fieldAddr 1 (.t 1), some ((.l 11), true)⟩, ⟨.load false 1 (.l 14), some ((.l 11), true)⟩, ⟨.bin 0 .add (.l 15) (.c (.int .i64 (1))), some ((.l 11), true)⟩, ⟨.fieldAddr 0 (.t 1), some ((.l 11), true)⟩, ⟨.load false 1 (.l 17), some ((.l 11), true)⟩, ⟨.call (.c (.fn f_s_l1In [] [])) [(.l 13), (.l 16), (.l 18)], some ((.l 11), true)⟩, ⟨.pick (.l 11) (.l 19) (.c (.bool false)), none⟩, ⟨.mv (.l 20), none⟩] [(2, 21)])
 .ret))
def a_s_l6Beam : AFun := ⟨[0, 1, 2], 24, c_s_l6Beam, [.tmp 2], 1⟩
def w_s_l6On_1 : ACode :=
 (.seq (.seq (.region [⟨.mv (.t 4), none⟩, ⟨.mv (.t 1), none⟩, ⟨.len (.l 1), none⟩, ⟨.bin 0 .lss (.l 0) (.l 2), none⟩] [(6, 3)])
 (.cond (.t 6) .skip (.exit 0)))
 (.seq (.block 1 (.seq (.draw [⟨.mv (.t 1), none, []⟩, ⟨.mv (.t 4), none, []⟩, ⟨.indexAddrS 2 (.l 0) (.l 1), none, []⟩, ⟨.fieldAddr 0 (.l 2), none, []⟩, ⟨.load false 1 (.l 3), none, []⟩, ⟨.fieldAddr 0 (.t 2), none, []⟩, ⟨.load false 1 (.l 5), none, []⟩, ⟨.bin 0 .gtr (.l 4) (.l 6), none, []⟩] [(7, 7)])
 (.cond (.t 7) (.seq (.region [⟨.mv (.c (.bool false)), none⟩] [(3, 0)])
 .ret) .skip)))
 (.region [⟨.mv (.t 4), none⟩, ⟨.bin 0 .add (.l 0) (.c (.int .i64 (1))), none⟩, ⟨.mv (.l 1), none⟩] [(4, 2)])))
def c_s_l6On : ACode :=
 (.seq (.region [⟨.box (.t 0), none⟩, ⟨.mv (.c (.bool false)), none⟩] [(2, 0), (3, 1)])
 (.seq (.seq (.region [⟨.load true 3 (.t 2), none⟩, ⟨.call (.c (.fn f_s_l6Beam [] [])) [(.l 0)], none⟩, ⟨.un .not (.l 1), none⟩, ⟨.mv (.l 2), none⟩, ⟨.mv (.t 1), some ((.l 3), false)⟩, ⟨.call (.c (.fn f_s_l2Row [] [])) [(.l 4)], some ((.l 3), false)⟩, ⟨.un .not (.l 5), some ((.l 3), false)⟩, ⟨.pick (.l 3) (.c (.bool true)) (.l 6), none⟩] [(5, 7)])
 (.cond (.t 5) (.seq (.region [⟨.mv (.c (.bool false)), none⟩] [(3, 0)])
 .ret) .skip))
 (.seq (.seq (.region [⟨.mv (.c (.int .i64 (0))), none⟩] [(4, 0)])
 (.block 0 (.loop w_s_l6On_1)))
 (.seq (.region [⟨.mv (.c (.bool true)), none⟩] [(3, 0)])
 .ret))))
def a_s_l6On : AFun := ⟨[0, 1, 2, 4, 5, 13, 17, 27], 28, c_s_l6On, [.tmp 3], 1⟩
def c_l_toLoad : ACode :=
 (.seq (.region [⟨.box (.t 0), none⟩, ⟨.alloc [.int .i64 (0), .int .i64 (0)], none⟩] [(1, 0), (2, 1)])
 (.seq (.region [⟨.alloc [.int .i64 (0), .int .i64 (0)], none⟩] [(3, 0)])
 (.seq (.region [⟨.fieldAddr 0 (.t 1), none⟩, ⟨.load false 1 (.l 0), none⟩, ⟨.fieldAddr 0 (.t 3), none⟩, ⟨.store 1 (.l 2) (.l 1), none⟩] [])
 (.seq (.region [⟨.fieldAddr 1 (.t 1), none⟩, ⟨.load false 1 (.l 0), none⟩, ⟨.fieldAddr 1 (.t 3), none⟩, ⟨.store 1 (.l 2) (.l 1), none⟩] [])
 (.seq (.region [⟨.load true 2 (.t 3), none⟩, ⟨.store 2 (.t 2) (.l 0), none⟩] [])
 .ret)))))
def a_l_toLoad : AFun := ⟨[0, 1, 2, 3], 11, c_l_toLoad, [.cell 2 true 2], 1⟩
def c_i_IsBeam : ACode :=
 (.seq (.region [⟨.box (.t 0), none⟩, ⟨.mv (.c (.bool false)), none⟩] [(1, 0), (2, 1)])
 (.seq (.region [⟨.fieldAddr 0 (.t 1), none⟩, ⟨.load false 1 (.l 0), none⟩, ⟨.call (.c (.fn f_i_within [] [])) [(.l 1), (.c (.int .i64 (1))), (.c (.int .i64 (60)))], none⟩, ⟨.mv (.l 2), none⟩, ⟨.fieldAddr 1 (.t 1), some ((.l 3), true)⟩, ⟨.load false 1 (.l 4), some ((.l 3), true)⟩, ⟨.bin 0 .leq (.c (.int .i64 (0))) (.l 5), some ((.l 3), true)⟩, ⟨.pick (.l 3) (.l 6) (.c (.bool false)), none⟩, ⟨.mv (.l 7), none⟩, ⟨.fieldAddr 1 (.t 1), some ((.l 8), true)⟩, ⟨.load false 1 (.l 9), some ((.l 8), true)⟩, ⟨.fieldAddr 2 (.t 1), some ((.l 8), true)⟩, ⟨.load false 1 (.l 11), some ((.l 8), true)⟩, ⟨.bin 0 .lss (.l 10) (.l 12), some ((.l 8), true)⟩, ⟨.pick (.l 8) (.l 13) (.c (.bool false)), none⟩, ⟨.mv (.l 14), none⟩, ⟨.fieldAddr 2 (.t 1), some ((.l 15), true)⟩, ⟨.load false 1 (.l 16), some ((.l 15), true)⟩, ⟨.fieldAddr 0 (.t 1), some ((.l 15), true)⟩, ⟨.load false 1 (.l 18), some ((.l 15), true)⟩, ⟨.bin 0 .leq (.l 17) (.l 19), some ((.l 15), true)⟩, ⟨.pick (.l 15) (.l 20) (.c (.bool false)), none⟩, ⟨.mv (.l 21), none⟩] [(2, 22)])
 .ret))
def a_i_IsBeam : AFun := ⟨[0, 1, 2], 25, c_i_IsBeam, [.tmp 2], 1⟩
def c_i_IsRow : ACode :=
 (.seq (.region [⟨.mv (.c (.bool false)), none⟩] [(1, 0)])
 (.seq (.seq (.region [⟨.mv (.t 0), none⟩, ⟨.len (.l 0), none⟩, ⟨.bin 0 .gtr (.l 1) (.c (.int .i64 (12))), none⟩] [(2, 2)])
 (.cond (.t 2) (.seq (.region [⟨.mv (.c (.bool false)), none⟩] [(1, 0)])
 .ret) .skip))
 (.seq (.region [⟨.mv (.t 0), none⟩, ⟨.call (.c (.fn f_slices_ContainsFunc_Si_Load_i_Load [] [])) [(.l 0), (.c (.fn f_i_IsRow_1 [] []))], none⟩, ⟨.un .not (.l 1), none⟩, ⟨.mv (.l 2), none⟩] [(1, 3)])
 .ret)))
def a_i_IsRow : AFun := ⟨[0, 2, 5], 9, c_i_IsRow, [.tmp 1], 1⟩
def c_slices_ContainsFunc_Si_Load_i_Load : ACode :=
 (.seq (.region [⟨.mv (.c (.bool false)), none⟩] [(2, 0)])
 (.seq (.region [⟨.mv (.t 0), none⟩, ⟨.mv (.t 1), none⟩, ⟨.call (.c (.fn f_slices_IndexFunc_Si_Load_i_Load [] [])) [(.l 0), (.l 1)], none⟩, ⟨.bin 0 .geq (.l 2) (.c (.int .i64 (0))), none⟩, ⟨.mv (.l 3), none⟩] [(2, 4)])
 .ret))
def a_slices_ContainsFunc_Si_Load_i_Load : AFun := ⟨[0, 1, 4], 9, c_slices_ContainsFunc_Si_Load_i_Load, [.tmp 2], 1⟩
def c_i_isOn_1 : ACode :=
 (.seq (.region [⟨.box (.t 0), none⟩, ⟨.mv (.c (.bool false)), none⟩] [(2, 0), (3, 1)])
 (.seq (.region [⟨.fieldAddr 0 (.t 2), none⟩, ⟨.load false 1 (.l 0), none⟩, ⟨.fieldAddr 0 (.t 1), none⟩, ⟨.load false 1 (.l 2), none⟩, ⟨.bin 0 .gtr (.l 1) (.l 3), none⟩, ⟨.mv (.l 4), none⟩] [(3, 5)])
 .ret))
def a_i_isOn_1 : AFun := ⟨[0, 1, 2, 3], 9, c_i_isOn_1, [.tmp 3], 1⟩
def c_i_tipSide : ACode :=
 (.seq (.region [⟨.mv (.c (.int .i64 (0))), none⟩] [(3, 0)])
 (.seq (.block 0 (.seq (.region [⟨.mv (.t 0), none⟩, ⟨.mv (.t 1), none⟩, ⟨.call (.c (.fn f_i_momentAbout [] [])) [(.l 0), (.l 1)], none⟩, ⟨.bin 0 .lss (.l 2) (.c (.int .i64 (0))), none⟩, ⟨.mv (.l 3), none⟩] [(4, 4)])
 (.cond (.t 4) (.seq (.region [⟨.mv (.c (.int .i64 (-1))), none⟩] [(3, 0)])
 .ret) (.seq (.region [⟨.mv (.t 0), none⟩, ⟨.mv (.t 2), none⟩, ⟨.call (.c (.fn f_i_momentAbout [] [])) [(.l 0), (.l 1)], none⟩, ⟨.bin 0 .gtr (.l 2) (.c (.int .i64 (0))), none⟩, ⟨.mv (.l 3), none⟩] [(5, 4)])
 (.cond (.t 5) (.seq (.region [⟨.mv (.c (.int .i64 (1))), none⟩] [(3, 0)])
 .ret) .skip)))))
 (.seq (.region [⟨.mv (.c (.int .i64 (0))), none⟩] [(3, 0)])
 .ret)))
def a_i_tipSide : AFun := ⟨[0, 1, 2, 6, 7, 12], 17, c_i_tipSide, [.tmp 3], 1⟩
def c_l_eqLoad : ACode :=
 (.seq (.region [⟨.box (.t 0), none⟩, ⟨.box (.t 1), none⟩, ⟨.mv (.c (.bool false)), none⟩] [(2, 0), (3, 1), (4, 2)])
 (.seq (.seq (.region [⟨.fieldAddr 0 (.t 2), none⟩, ⟨.load false 1 (.l 0), none⟩, ⟨.fieldAddr 0 (.t 3), none⟩, ⟨.load false 1 (.l 2), none⟩, ⟨.bin 0 .neq (.l 1) (.l 3), none⟩] [(5, 4)])
 (.cond (.t 5) (.seq (.region [⟨.mv (.c (.bool false)), none⟩] [(4, 0)])
 .ret) .skip))
 (.seq (.seq (.region [⟨.fieldAddr 1 (.t 2), none⟩, ⟨.load false 1 (.l 0), none⟩, ⟨.fieldAddr 1 (.t 3), none⟩, ⟨.load false 1 (.l 2), none⟩, ⟨.bin 0 .neq (.l 1) (.l 3), none⟩] [(6, 4)])
 (.cond (.t 6) (.seq (.region [⟨.mv (.c (.bool false)), none⟩] [(4, 0)])
 .ret) .skip))
 (.seq (.region [⟨.mv (.c (.bool true)), none⟩] [(4, 0)])
 .ret))))
def a_l_eqLoad : AFun := ⟨[0, 1, 2, 3, 4, 9, 14], 15, c_l_eqLoad, [.tmp 4], 1⟩
def c_s_l2Side : ACode :=
 (.seq (.region [⟨.mv (.c (.int .i64 (0))), none⟩] [(3, 0)])
 (.seq (.seq (.region [⟨.mv (.t 0), none⟩, ⟨.mv (.t 1), none⟩, ⟨.call (.c (.fn f_s_l2Moment [] [])) [(.l 0), (.l 1)], none⟩, ⟨.bin 0 .lss (.l 2) (.c (.int .i64 (0))), none⟩] [(4, 3)])
 (.cond (.t 4) (.seq (.region [⟨.mv (.c (.int .i64 (-1))), none⟩] [(3, 0)])
 .ret) .skip))
 (.seq (.seq (.region [⟨.mv (.t 0), none⟩, ⟨.mv (.t 2), none⟩, ⟨.call (.c (.fn f_s_l2Moment [] [])) [(.l 0), (.l 1)], none⟩, ⟨.bin 0 .gtr (.l 2) (.c (.int .i64 (0))), none⟩] [(5, 3)])
 (.cond (.t 5) (.seq (.region [⟨.mv (.c (.int .i64 (1))), none⟩] [(3, 0)])
 .ret) .skip))
 (.seq (.region [⟨.mv (.c (.int .i64 (0))), none⟩] [(3, 0)])
 .ret))))
def a_s_l2Side : AFun := ⟨[0, 1, 2, 6, 10, 14], 15, c_s_l2Side, [.tmp 3], 1⟩
def c_slices_Contains_S_2int__2int : ACode :=
 (.seq (.region [⟨.box (.t 1), none⟩, ⟨.mv (.c (.bool false)), none⟩] [(2, 0), (3, 1)])
 (.seq (.region [⟨.mv (.t 0), none⟩, ⟨.load true 2 (.t 2), none⟩, ⟨.call (.c (.fn f_slices_Index_S_2int__2int [] [])) [(.l 0), (.l 1)], none⟩, ⟨.bin 0 .geq (.l 2) (.c (.int .i64 (0))), none⟩, ⟨.mv (.l 3), none⟩] [(3, 4)])
 .ret))
def a_slices_Contains_S_2int__2int : AFun := ⟨[0, 1, 3, 4], 9, c_slices_Contains_S_2int__2int, [.tmp 3], 1⟩
def c_slices_Clone_Si_Load_i_Load : ACode :=
 (.seq (.region [⟨.mv (.c (.slice none 0 0 none)), none⟩] [(1, 0)])
 (.seq (.seq (.region [⟨.mv (.t 0), none⟩, ⟨.bin 3 .eql (.l 0) (.c (.slice none 0 0 none)), none⟩] [(2, 1)])
 (.cond (.t 2) (.seq (.region [⟨.mv (.c (.slice none 0 0 none)), none⟩] [(1, 0)])
 .ret) .skip))
 (.seq (.region [⟨.buildSlice 2 0 [] [], none⟩, ⟨.mv (.t 0), none⟩, ⟨.append false 2 16 (.l 0) (.l 1), none⟩, ⟨.mv (.l 2), none⟩] [(1, 3)])
 .ret)))
def a_slices_Clone_Si_Load_i_Load : AFun := ⟨[0, 2, 4], 8, c_slices_Clone_Si_Load_i_Load, [.tmp 1], 2⟩
def c_s_l1Cur_plank : ACode :=
 (.seq (.region [⟨.alloc [.int .i64 (0), .int .i64 (0), .int .i64 (0)], none⟩] [(1, 0)])
 (.seq (.region [⟨.mv (.t 0), none⟩, ⟨.buildSlice 1 8 [.int .i64 (0), .int .i64 (0), .int .i64 (0), .int .i64 (0), .int .i64 (0), .int .i64 (0), .int .i64 (0), .int .i64 (0)] [(0, 1, (.c (.int .i64 (6)))), (1, 1, (.c (.int .i64 (8)))), (2, 1, (.c (.int .i64 (5)))), (3, 1, (.c (.int .i64 (4)))), (4, 1, (.c (.int .i64 (10)))), (5, 1, (.c (.int .i64 (3)))), (6, 1, (.c (.int .i64 (12)))), (7, 1, (.c (.int .i64 (1))))], none⟩, ⟨.call (.c (.fn f_s_l1Cur_among [] [])) [(.l 0), (.l 1)], none⟩, ⟨.mv (.l 2), none⟩] [(2, 3)])
 (.seq (.region [⟨.mv (.t 2), none⟩, ⟨.mv (.t 2), none⟩, ⟨.build [.int .i64 (0), .int .i64 (0), .int .i64 (0)] [(0, 1, (.l 0)), (1, 1, (.c (.int .i64 (0)))), (2, 1, (.l 1))], none⟩, ⟨.alloc [.int .i64 (0), .int .i64 (0), .int .i64 (0)], none⟩, ⟨.store 3 (.l 3) (.l 2), none⟩] [(3, 3)])
 (.seq (.seq (.region [⟨.mv (.t 0), none⟩, ⟨.call (.c (.fn f_s_l1Cur_one [] [])) [(.l 0), (.c (.int .i64 (4)))], none⟩, ⟨.un .not (.l 1), none⟩] [(4, 2)])
 (.cond (.t 4) (.seq (.region [⟨.mv (.t 0), none⟩, ⟨.mv (.t 2), none⟩, ⟨.call (.c (.fn f_s_l1Cur_pick [] [])) [(.l 0), (.l 1)], none⟩, ⟨.fieldAddr 1 (.t 3), none⟩, ⟨.store 1 (.l 3) (.l 2), none⟩] [])
 (.draw [⟨.fieldAddr 1 (.t 3), none, []⟩, ⟨.load false 1 (.l 0), none, []⟩, ⟨.bin 0 .add (.l 1) (.c (.int .i64 (1))), none, []⟩, ⟨.mv (.t 0), none, []⟩, ⟨.mv (.t 2), none, []⟩, ⟨.fieldAddr 1 (.t 3), none, []⟩, ⟨.load false 1 (.l 5), none, []⟩, ⟨.bin 0 .sub (.l 4) (.l 6), none, []⟩, ⟨.call (.c (.fn f_s_l1Least [] [])) [(.l 7), (.c (.int .i64 (3)))], none, [(1, ⟨.load false 1 (.l 0), none⟩)]⟩, ⟨.call (.c (.fn f_s_l1Cur_pick [] [])) [(.l 3), (.l 8)], none, [(1, ⟨.load false 1 (.l 0), none⟩)]⟩, ⟨.bin 0 .add (.l 2) (.l 9), none, []⟩, ⟨.fieldAddr 2 (.t 3), none, []⟩, ⟨.store 1 (.l 11) (.l 10), none, []⟩] [])) .skip))
 (.seq (.seq (.region [⟨.mv (.t 0), none⟩, ⟨.call (.c (.fn f_s_l1Cur_one [] [])) [(.l 0), (.c (.int .i64 (40)))], none⟩] [(5, 1)])
 (.cond (.t 5) (.seq (.region [⟨.mv (.t 0), none⟩, ⟨.call (.c (.fn f_s_l1Cur_beam [] [])) [(.l 0)], none⟩, ⟨.store 3 (.t 1) (.l 1), none⟩] [])
 .ret) .skip))
 (.seq (.region [⟨.load true 3 (.t 3), none⟩, ⟨.store 3 (.t 1) (.l 0), none⟩] [])
 .ret))))))
def a_s_l1Cur_plank : AFun := ⟨[0, 2, 3, 4, 13, 31], 35, c_s_l1Cur_plank, [.cell 1 true 3], 1⟩
def c_s_l1Cur_among : ACode :=
 (.seq (.region [⟨.mv (.c (.int .i64 (0))), none⟩] [(2, 0)])
 (.seq (.region [⟨.mv (.t 1), none⟩, ⟨.mv (.t 0), none⟩, ⟨.mv (.t 1), none⟩, ⟨.len (.l 2), none⟩, ⟨.call (.c (.fn f_s_l1Cur_pick [] [])) [(.l 1), (.l 3)], none⟩, ⟨.indexAddrS 1 (.l 0) (.l 4), none⟩, ⟨.load false 1 (.l 5), none⟩, ⟨.mv (.l 6), none⟩] [(2, 7)])
 .ret))
def a_s_l1Cur_among : AFun := ⟨[0, 1, 4], 12, c_s_l1Cur_among, [.tmp 2], 1⟩
def c_s_l1Cur_next : ACode :=
 (.seq (.region [⟨.mv (.c (.int .i64 (0))), none⟩] [(1, 0)])
 (.seq (.region [⟨.mv (.c (.int .i64 (0))), none⟩] [(2, 0)])
 (.seq (.seq (.draw [⟨.mv (.t 0), none, []⟩, ⟨.nilCheck (.l 0), none, []⟩, ⟨.fieldAddr 1 (.l 1), none, []⟩, ⟨.load false 1 (.l 2), none, []⟩, ⟨.mv (.t 0), none, []⟩, ⟨.nilCheck (.l 4), none, []⟩, ⟨.fieldAddr 0 (.l 5), none, []⟩, ⟨.load false 1 (.l 6), none, []⟩, ⟨.len (.l 7), none, []⟩, ⟨.bin 0 .lss (.l 3) (.l 8), none, []⟩] [(3, 9)])
 (.cond (.t 3) (.draw [⟨.mv (.t 0), none, []⟩, ⟨.nilCheck (.l 0), none, []⟩, ⟨.fieldAddr 0 (.l 1), none, []⟩, ⟨.load false 1 (.l 2), none, []⟩, ⟨.mv (.t 0), none, []⟩, ⟨.nilCheck (.l 4), none, []⟩, ⟨.fieldAddr 1 (.l 5), none, []⟩, ⟨.load false 1 (.l 6), none, []⟩, ⟨.indexAddrS 1 (.l 3) (.l 7), none, []⟩, ⟨.load false 1 (.l 8), none, []⟩, ⟨.conv .i64 (.l 9), none, []⟩, ⟨.mv (.l 10), none, []⟩] [(2, 11)]) .skip))
 (.seq (.region [⟨.mv (.t 0), none⟩, ⟨.nilCheck (.l 0), none⟩, ⟨.fieldAddr 1 (.l 1), none⟩, ⟨.load false 1 (.l 2), none⟩, ⟨.bin 0 .add (.l 3) (.c (.int .i64 (1))), none⟩, ⟨.nilCheck (.l 0), none⟩, ⟨.fieldAddr 1 (.l 5), none⟩, ⟨.store 1 (.l 6) (.l 4), none⟩] [])
 (.seq (.region [⟨.mv (.t 0), none⟩, ⟨.mv (.t 0), none⟩, ⟨.nilCheck (.l 1), none⟩, ⟨.fieldAddr 2 (.l 2), none⟩, ⟨.load false 1 (.l 3), none⟩, ⟨.bin 0 .mul (.l 4) (.c (.int .u64 (6364136223846793005))), none⟩, ⟨.mv (.t 2), none⟩, ⟨.conv .u64 (.l 6), none⟩, ⟨.bin 0 .add (.l 5) (.l 7), none⟩, ⟨.bin 0 .add (.l 8) (.c (.int .u64 (462197))), none⟩, ⟨.nilCheck (.l 0), none⟩, ⟨.fieldAddr 2 (.l 10), none⟩, ⟨.store 1 (.l 11) (.l 9), none⟩] [])
 (.seq (.seq (.draw [⟨.mv (.t 0), none, []⟩, ⟨.nilCheck (.l 0), none, []⟩, ⟨.fieldAddr 1 (.l 1), none, []⟩, ⟨.load false 1 (.l 2), none, []⟩, ⟨.mv (.t 0), none, []⟩, ⟨.nilCheck (.l 4), none, []⟩, ⟨.fieldAddr 0 (.l 5), none, []⟩, ⟨.load false 1 (.l 6), none, []⟩, ⟨.len (.l 7), none, []⟩, ⟨.bin 0 .leq (.l 3) (.l 8), none, []⟩] [(4, 9)])
 (.cond (.t 4) (.seq (.region [⟨.mv (.t 2), none⟩, ⟨.mv (.l 0), none⟩] [(1, 1)])
 .ret) .skip))
 (.seq (.region [⟨.mv (.t 0), none⟩, ⟨.nilCheck (.l 0), none⟩, ⟨.fieldAddr 2 (.l 1), none⟩, ⟨.load false 1 (.l 2), none⟩, ⟨.bin 0 .shr (.l 3) (.c (.int .u64 (40))), none⟩, ⟨.bin 0 .and (.l 4) (.c (.int .u64 (255))), none⟩, ⟨.conv .i64 (.l 5), none⟩, ⟨.mv (.l 6), none⟩] [(1, 7)])
 .ret)))))))
def a_s_l1Cur_next : AFun := ⟨[0, 2, 3, 13, 53], 62, c_s_l1Cur_next, [.tmp 1], 1⟩
def w_s_l1Cur_targets_1 : ACode :=
 (.seq (.seq (.region [⟨.mv (.t 5), none⟩, ⟨.fieldAddr 3 (.t 2), none⟩, ⟨.load false 1 (.l 1), none⟩, ⟨.len (.l 2), none⟩, ⟨.bin 0 .lss (.l 0) (.l 3), none⟩, ⟨.mv (.l 4), none⟩, ⟨.mv (.t 5), some ((.l 5), true)⟩, ⟨.bin 0 .lss (.l 6) (.c (.int .i64 (4))), some ((.l 5), true)⟩, ⟨.pick (.l 5) (.l 7) (.c (.bool false)), none⟩] [(10, 8)])
 (.cond (.t 10) .skip (.exit 0)))
 (.seq (.block 1 (.region [⟨.mv (.t 4), none⟩, ⟨.mv (.t 0), none⟩, ⟨.fieldAddr 0 (.t 2), none⟩, ⟨.fieldAddr 0 (.l 2), none⟩, ⟨.load false 1 (.l 3), none⟩, ⟨.call (.c (.fn f_s_l1Least [] [])) [(.l 4), (.c (.int .i64 (12)))], none⟩, ⟨.call (.c (.fn f_s_l1Most [] [])) [(.l 5), (.c (.int .i64 (0)))], none⟩, ⟨.bin 0 .add (.l 6) (.c (.int .i64 (1))), none⟩, ⟨.call (.c (.fn f_s_l1Cur_pick [] [])) [(.l 1), (.l 7)], none⟩, ⟨.buildSlice 1 1 [.int .i64 (0)] [(0, 1, (.l 8))], none⟩, ⟨.append false 1 8 (.l 0) (.l 9), none⟩, ⟨.mv (.l 10), none⟩] [(4, 11)]))
 (.region [⟨.mv (.t 5), none⟩, ⟨.bin 0 .add (.l 0) (.c (.int .i64 (1))), none⟩, ⟨.mv (.l 1), none⟩] [(5, 2)])))
def w_s_l1Cur_targets_2 : ACode :=
 (.seq (.seq (.region [⟨.mv (.t 7), none⟩, ⟨.bin 0 .lss (.l 0) (.c (.int .i64 (8))), none⟩] [(12, 1)])
 (.cond (.t 12) .skip (.exit 2)))
 (.seq (.block 3 (.seq (.region [⟨.load true 5 (.t 6), none⟩, ⟨.call (.c (.fn f_s_l11Moves [] [])) [(.l 0)], none⟩, ⟨.mv (.l 1), none⟩] [(8, 2)])
 (.seq (.region [⟨.mv (.t 8), none⟩, ⟨.len (.l 0), none⟩, ⟨.bin 0 .gtr (.l 1) (.c (.int .i64 (0))), none⟩] [(13, 2)])
 (.cond (.t 13) (.draw [⟨.load true 5 (.t 6), none, []⟩, ⟨.mv (.t 8), none, []⟩, ⟨.mv (.t 0), none, []⟩, ⟨.mv (.t 8), none, []⟩, ⟨.len (.l 3), none, []⟩, ⟨.call (.c (.fn f_s_l1Cur_pick [] [])) [(.l 2), (.l 4)], none, [(0, ⟨.load true 5 (.t 6), none⟩)]⟩, ⟨.indexAddrS 2 (.l 1) (.l 5), none, []⟩, ⟨.load true 2 (.l 6), none, []⟩, ⟨.call (.c (.fn f_s_l11Moved [] [])) [(.l 0), (.l 7)], none, []⟩, ⟨.store 5 (.t 6) (.l 8), none, []⟩] []) .skip))))
 (.region [⟨.mv (.t 7), none⟩, ⟨.bin 0 .add (.l 0) (.c (.int .i64 (1))), none⟩, ⟨.mv (.l 1), none⟩] [(7, 2)])))
def w_s_l1Cur_targets_3 : ACode :=
 (.seq (.seq (.region [⟨.mv (.t 9), none⟩, ⟨.fieldAddr 3 (.t 6), none⟩, ⟨.load false 1 (.l 1), none⟩, ⟨.len (.l 2), none⟩, ⟨.bin 0 .lss (.l 0) (.l 3), none⟩] [(14, 4)])
 (.cond (.t 14) .skip (.exit 4)))
 (.seq (.block 5 (.region [⟨.mv (.t 4), none⟩, ⟨.mv (.t 9), none⟩, ⟨.fieldAddr 3 (.t 6), none⟩, ⟨.load false 1 (.l 2), none⟩, ⟨.mv (.t 9), none⟩, ⟨.indexAddrS 2 (.l 3) (.l 4), none⟩, ⟨.fieldAddr 0 (.l 5), none⟩, ⟨.load false 1 (.l 6), none⟩, ⟨.indexAddrS 1 (.l 0) (.l 1), none⟩, ⟨.store 1 (.l 8) (.l 7), none⟩] []))
 (.region [⟨.mv (.t 9), none⟩, ⟨.bin 0 .add (.l 0) (.c (.int .i64 (1))), none⟩, ⟨.mv (.l 1), none⟩] [(9, 2)])))
def c_s_l1Cur_targets : ACode :=
 (.seq (.region [⟨.box (.t 1), none⟩, ⟨.mv (.c (.slice none 0 0 none)), none⟩] [(2, 0), (3, 1)])
 (.seq (.region [⟨.buildSlice 1 0 [] [], none⟩, ⟨.mv (.l 0), none⟩] [(4, 1)])
 (.seq (.seq (.region [⟨.mv (.c (.int .i64 (0))), none⟩] [(5, 0)])
 (.block 0 (.loop w_s_l1Cur_targets_1)))
 (.seq (.seq (.region [⟨.load true 5 (.t 2), none⟩, ⟨.call (.c (.fn f_s_l11Party [] [])) [(.l 0)], none⟩, ⟨.mv (.l 1), none⟩, ⟨.mv (.t 0), some ((.l 2), true)⟩, ⟨.call (.c (.fn f_s_l1Cur_one [] [])) [(.l 3), (.c (.int .i64 (2)))], some ((.l 2), true)⟩, ⟨.pick (.l 2) (.l 4) (.c (.bool false)), none⟩] [(11, 5)])
 (.cond (.t 11) (.seq (.region [⟨.load true 5 (.t 2), none⟩, ⟨.alloc [.int .i64 (0), .int .i64 (0), .int .i64 (0), .slice none 0 0 none, .int .i64 (0)], none⟩, ⟨.store 5 (.l 1) (.l 0), none⟩] [(6, 1)])
 (.seq (.seq (.region [⟨.mv (.c (.int .i64 (0))), none⟩] [(7, 0)])
 (.block 2 (.loop w_s_l1Cur_targets_2)))
 (.seq (.region [⟨.mv (.c (.int .i64 (0))), none⟩] [(9, 0)])
 (.block 4 (.loop w_s_l1Cur_targets_3))))) .skip))
 (.seq (.seq (.region [⟨.mv (.t 0), none⟩, ⟨.call (.c (.fn f_s_l1Cur_one [] [])) [(.l 0), (.c (.int .i64 (30)))], none⟩] [(15, 1)])
 (.cond (.t 15) (.region [⟨.mv (.t 4), none⟩, ⟨.buildSlice 1 1 [.int .i64 (0)] [(0, 1, (.c (.int .i64 (0))))], none⟩, ⟨.append false 1 8 (.l 0) (.l 1), none⟩, ⟨.mv (.l 2), none⟩] [(4, 3)]) .skip))
 (.seq (.region [⟨.mv (.t 4), none⟩, ⟨.mv (.l 0), none⟩] [(3, 1)])
 .ret))))))
def a_s_l1Cur_targets : AFun := ⟨[0, 1, 3, 4, 5, 6, 7, 8, 9, 10, 20, 39, 42, 49, 63, 76], 81, c_s_l1Cur_targets, [.tmp 3], 2⟩
def c_s_l1Cur_one : ACode :=
 (.seq (.region [⟨.mv (.c (.bool false)), none⟩] [(2, 0)])
 (.seq (.region [⟨.mv (.t 0), none⟩, ⟨.mv (.t 1), none⟩, ⟨.call (.c (.fn f_s_l1Cur_pick [] [])) [(.l 0), (.l 1)], none⟩, ⟨.bin 0 .eql (.l 2) (.c (.int .i64 (0))), none⟩, ⟨.mv (.l 3), none⟩] [(2, 4)])
 .ret))
def a_s_l1Cur_one : AFun := ⟨[0, 1, 4], 9, c_s_l1Cur_one, [.tmp 2], 1⟩
def w_s_l2Row_1 : ACode :=
 (.seq (.seq (.region [⟨.mv (.t 2), none⟩, ⟨.mv (.t 0), none⟩, ⟨.len (.l 1), none⟩, ⟨.bin 0 .lss (.l 0) (.l 2), none⟩, ⟨.mv (.l 3), none⟩, ⟨.mv (.t 2), some ((.l 4), true)⟩, ⟨.bin 0 .leq (.l 5) (.c (.int .i64 (12))), some ((.l 4), true)⟩, ⟨.pick (.l 4) (.l 6) (.c (.bool false)), none⟩] [(3, 7)])
 (.cond (.t 3) .skip (.exit 0)))
 (.seq (.block 1 (.seq (.region [⟨.mv (.t 0), none⟩, ⟨.mv (.t 2), none⟩, ⟨.indexAddrS 2 (.l 0) (.l 1), none⟩, ⟨.fieldAddr 0 (.l 2), none⟩, ⟨.load false 1 (.l 3), none⟩, ⟨.call (.c (.fn f_s_l2In [] [])) [(.l 4)], none⟩, ⟨.un .not (.l 5), none⟩, ⟨.mv (.l 6), none⟩, ⟨.mv (.t 0), some ((.l 7), false)⟩, ⟨.mv (.t 2), some ((.l 7), false)⟩, ⟨.indexAddrS 2 (.l 8) (.l 9), some ((.l 7), false)⟩, ⟨.fieldAddr 1 (.l 10), some ((.l 7), false)⟩, ⟨.load false 1 (.l 11), some ((.l 7), false)⟩, ⟨.call (.c (.fn f_s_l1In [] [])) [(.l 12), (.c (.int .i64 (1))), (.c (.int .i64 (99)))], some ((.l 7), false)⟩, ⟨.un .not (.l 13), some ((.l 7), false)⟩, ⟨.pick (.l 7) (.c (.bool true)) (.l 14), none⟩] [(4, 15)])
 (.cond (.t 4) (.seq (.region [⟨.mv (.c (.bool false)), none⟩] [(1, 0)])
 .ret) .skip)))
 (.region [⟨.mv (.t 2), none⟩, ⟨.bin 0 .add (.l 0) (.c (.int .i64 (1))), none⟩, ⟨.mv (.l 1), none⟩] [(2, 2)])))
def c_s_l2Row : ACode :=
 (.seq (.region [⟨.mv (.c (.bool false)), none⟩] [(1, 0)])
 (.seq (.seq (.region [⟨.mv (.c (.int .i64 (0))), none⟩] [(2, 0)])
 (.block 0 (.loop w_s_l2Row_1)))
 (.seq (.region [⟨.mv (.t 0), none⟩, ⟨.len (.l 0), none⟩, ⟨.bin 0 .leq (.l 1) (.c (.int .i64 (12))), none⟩, ⟨.mv (.l 2), none⟩] [(1, 3)])
 .ret)))
def a_s_l2Row : AFun := ⟨[0, 2, 3, 11, 29], 33, c_s_l2Row, [.tmp 1], 1⟩
def c_i_IsRow_1 : ACode :=
 (.seq (.region [⟨.box (.t 0), none⟩, ⟨.mv (.c (.bool false)), none⟩] [(1, 0), (2, 1)])
 (.seq (.region [⟨.fieldAddr 0 (.t 1), none⟩, ⟨.load false 1 (.l 0), none⟩, ⟨.call (.c (.fn f_i_isPlace [] [])) [(.l 1)], none⟩, ⟨.un .not (.l 2), none⟩, ⟨.mv (.l 3), none⟩, ⟨.fieldAddr 1 (.t 1), some ((.l 4), false)⟩, ⟨.load false 1 (.l 5), some ((.l 4), false)⟩, ⟨.call (.c (.fn f_i_isWeight [] [])) [(.l 6)], some ((.l 4), false)⟩, ⟨.un .not (.l 7), some ((.l 4), false)⟩, ⟨.pick (.l 4) (.c (.bool true)) (.l 8), none⟩, ⟨.mv (.l 9), none⟩] [(2, 10)])
 .ret))
def a_i_IsRow_1 : AFun := ⟨[0, 1, 2], 13, c_i_IsRow_1, [.tmp 2], 1⟩
def c_i_isPlace : ACode :=
 (.seq (.region [⟨.mv (.c (.bool false)), none⟩] [(1, 0)])
 (.seq (.region [⟨.mv (.t 0), none⟩, ⟨.call (.c (.fn f_i_within [] [])) [(.l 0), (.c (.int .i64 (0))), (.c (.int .i64 (60)))], none⟩, ⟨.mv (.l 1), none⟩] [(1, 2)])
 .ret))
def a_i_isPlace : AFun := ⟨[0, 2], 5, c_i_isPlace, [.tmp 1], 1⟩
def c_i_isWeight : ACode :=
 (.seq (.region [⟨.mv (.c (.bool false)), none⟩] [(1, 0)])
 (.seq (.region [⟨.mv (.t 0), none⟩, ⟨.call (.c (.fn f_i_within [] [])) [(.l 0), (.c (.int .i64 (1))), (.c (.int .i64 (99)))], none⟩, ⟨.mv (.l 1), none⟩] [(1, 2)])
 .ret))
def a_i_isWeight : AFun := ⟨[0, 2], 5, c_i_isWeight, [.tmp 1], 1⟩
def w_slices_IndexFunc_Si_Load_i_Load_1 : ACode :=
 (.seq (.region [⟨.bin 0 .lss (.t 5) (.t 4), none⟩] [(6, 0)])
 (.seq (.cond (.t 6) .skip (.exit 0))
 (.seq (.block 1 (.seq (.region [⟨.mv (.t 5), none⟩, ⟨.mv (.l 0), none⟩] [(3, 1)])
 (.seq (.region [⟨.mv (.t 1), none⟩, ⟨.mv (.t 0), none⟩, ⟨.mv (.t 3), none⟩, ⟨.indexAddrS 2 (.l 1) (.l 2), none⟩, ⟨.load true 2 (.l 3), none⟩, ⟨.call (.l 0) [(.l 4)], none⟩] [(7, 5)])
 (.cond (.t 7) (.seq (.region [⟨.mv (.t 3), none⟩, ⟨.mv (.l 0), none⟩] [(2, 1)])
 .ret) .skip))))
 (.region [⟨.bin 0 .add (.t 5) (.c (.int .i64 (1))), none⟩, ⟨.mv (.l 0), none⟩] [(5, 1)]))))
def c_slices_IndexFunc_Si_Load_i_Load : ACode :=
 (.seq (.region [⟨.mv (.c (.int .i64 (0))), none⟩] [(2, 0)])
 (.seq (.seq (.region [⟨.mv (.t 0), none⟩, ⟨.len (.l 0), none⟩, ⟨.mv (.c (.int .i64 (0))), none⟩] [(4, 1), (5, 2)])
 (.block 0 (.loop w_slices_IndexFunc_Si_Load_i_Load_1)))
 (.seq (.region [⟨.mv (.c (.int .i64 (-1))), none⟩] [(2, 0)])
 .ret)))
def a_slices_IndexFunc_Si_Load_i_Load : AFun := ⟨[0, 1, 4, 5, 7, 8, 9, 16], 19, c_slices_IndexFunc_Si_Load_i_Load, [.tmp 2], 1⟩
def w_i_momentAbout_1 : ACode :=
 (.seq (.region [⟨.bin 0 .lss (.t 7) (.t 6), none⟩] [(8, 0)])
 (.seq (.cond (.t 8) .skip (.exit 0))
 (.seq (.block 1 (.seq (.region [⟨.indexAddrS 2 (.t 5) (.t 7), none⟩, ⟨.load true 2 (.l 0), none⟩, ⟨.alloc [.int .i64 (0), .int .i64 (0)], none⟩, ⟨.store 2 (.l 2) (.l 1), none⟩] [(4, 2)])
 (.region [⟨.mv (.t 3), none⟩, ⟨.fieldAddr 1 (.t 4), none⟩, ⟨.load false 1 (.l 1), none⟩, ⟨.fieldAddr 0 (.t 4), none⟩, ⟨.load false 1 (.l 3), none⟩, ⟨.mv (.t 1), none⟩, ⟨.bin 0 .sub (.l 4) (.l 5), none⟩, ⟨.bin 0 .mul (.l 2) (.l 6), none⟩, ⟨.bin 0 .add (.l 0) (.l 7), none⟩, ⟨.mv (.l 8), none⟩] [(3, 9)])))
 (.region [⟨.bin 0 .add (.t 7) (.c (.int .i64 (1))), none⟩, ⟨.mv (.l 0), none⟩] [(7, 1)]))))
def c_i_momentAbout : ACode :=
 (.seq (.region [⟨.mv (.c (.int .i64 (0))), none⟩] [(2, 0)])
 (.seq (.region [⟨.mv (.c (.int .i64 (0))), none⟩] [(3, 0)])
 (.seq (.seq (.region [⟨.mv (.t 0), none⟩, ⟨.len (.l 0), none⟩, ⟨.mv (.c (.int .i64 (0))), none⟩] [(5, 0), (6, 1), (7, 2)])
 (.block 0 (.loop w_i_momentAbout_1)))
 (.seq (.region [⟨.mv (.t 3), none⟩, ⟨.mv (.l 0), none⟩] [(2, 1)])
 .ret))))
def a_i_momentAbout : AFun := ⟨[0, 1, 4, 5, 7, 8, 9, 10, 11], 25, c_i_momentAbout, [.tmp 2], 1⟩
def w_s_l2Moment_1 : ACode :=
 (.seq (.seq (.region [⟨.mv (.t 4), none⟩, ⟨.mv (.t 0), none⟩, ⟨.len (.l 1), none⟩, ⟨.bin 0 .lss (.l 0) (.l 2), none⟩] [(5, 3)])
 (.cond (.t 5) .skip (.exit 0)))
 (.seq (.block 1 (.draw [⟨.mv (.t 3), none, []⟩, ⟨.mv (.t 0), none, []⟩, ⟨.mv (.t 4), none, []⟩, ⟨.indexAddrS 2 (.l 1) (.l 2), none, []⟩, ⟨.fieldAddr 1 (.l 3), none, []⟩, ⟨.load false 1 (.l 4), none, []⟩, ⟨.mv (.t 0), none, []⟩, ⟨.mv (.t 4), none, []⟩, ⟨.indexAddrS 2 (.l 6) (.l 7), none, []⟩, ⟨.fieldAddr 0 (.l 8), none, []⟩, ⟨.load false 1 (.l 9), none, []⟩, ⟨.mv (.t 1), none, []⟩, ⟨.bin 0 .sub (.l 10) (.l 11), none, []⟩, ⟨.bin 0 .mul (.l 5) (.l 12), none, []⟩, ⟨.bin 0 .add (.l 0) (.l 13), none, []⟩, ⟨.mv (.l 14), none, []⟩] [(3, 15)]))
 (.region [⟨.mv (.t 4), none⟩, ⟨.bin 0 .add (.l 0) (.c (.int .i64 (1))), none⟩, ⟨.mv (.l 1), none⟩] [(4, 2)])))
def c_s_l2Moment : ACode :=
 (.seq (.region [⟨.mv (.c (.int .i64 (0))), none⟩] [(2, 0)])
 (.seq (.region [⟨.mv (.c (.int .i64 (0))), none⟩] [(3, 0)])
 (.seq (.seq (.region [⟨.mv (.c (.int .i64 (0))), none⟩] [(4, 0)])
 (.block 0 (.loop w_s_l2Moment_1)))
 (.seq (.region [⟨.mv (.t 3), none⟩, ⟨.mv (.l 0), none⟩] [(2, 1)])
 .ret))))
def a_s_l2Moment : AFun := ⟨[0, 1, 4, 5, 6, 10], 29, c_s_l2Moment, [.tmp 2], 1⟩
def w_slices_Index_S_2int__2int_1 : ACode :=
 (.seq (.region [⟨.bin 0 .lss (.t 6) (.t 5), none⟩] [(7, 0)])
 (.seq (.cond (.t 7) .skip (.exit 0))
 (.seq (.block 1 (.seq (.region [⟨.mv (.t 6), none⟩, ⟨.mv (.l 0), none⟩] [(4, 1)])
 (.seq (.draw [⟨.load true 2 (.t 2), none, []⟩, ⟨.mv (.t 0), none, []⟩, ⟨.mv (.t 4), none, []⟩, ⟨.indexAddrS 2 (.l 1) (.l 2), none, []⟩, ⟨.load true 2 (.l 3), none, []⟩, ⟨.eqCells [0, 0] false (.l 0) (.l 4), none, []⟩] [(8, 5)])
 (.cond (.t 8) (.seq (.region [⟨.mv (.t 4), none⟩, ⟨.mv (.l 0), none⟩] [(3, 1)])
 .ret) .skip))))
 (.region [⟨.bin 0 .add (.t 6) (.c (.int .i64 (1))), none⟩, ⟨.mv (.l 0), none⟩] [(6, 1)]))))
def c_slices_Index_S_2int__2int : ACode :=
 (.seq (.region [⟨.box (.t 1), none⟩, ⟨.mv (.c (.int .i64 (0))), none⟩] [(2, 0), (3, 1)])
 (.seq (.seq (.region [⟨.mv (.t 0), none⟩, ⟨.len (.l 0), none⟩, ⟨.mv (.c (.int .i64 (0))), none⟩] [(5, 1), (6, 2)])
 (.block 0 (.loop w_slices_Index_S_2int__2int_1)))
 (.seq (.region [⟨.mv (.c (.int .i64 (-1))), none⟩] [(3, 0)])
 .ret)))
def a_slices_Index_S_2int__2int : AFun := ⟨[0, 1, 3, 4, 5, 7, 8, 9, 16], 19, c_slices_Index_S_2int__2int, [.tmp 3], 1⟩
def c_s_l1Cur_beam : ACode :=
 (.seq (.region [⟨.alloc [.int .i64 (0), .int .i64 (0), .int .i64 (0)], none⟩] [(1, 0)])
 (.seq (.region [⟨.mv (.t 0), none⟩, ⟨.buildSlice 1 8 [.int .i64 (0), .int .i64 (0), .int .i64 (0), .int .i64 (0), .int .i64 (0), .int .i64 (0), .int .i64 (0), .int .i64 (0)] [(0, 1, (.c (.int .i64 (8)))), (1, 1, (.c (.int .i64 (10)))), (2, 1, (.c (.int .i64 (6)))), (3, 1, (.c (.int .i64 (4)))), (4, 1, (.c (.int .i64 (12)))), (5, 1, (.c (.int .i64 (1)))), (6, 1, (.c (.int .i64 (20)))), (7, 1, (.c (.int .i64 (60))))], none⟩, ⟨.call (.c (.fn f_s_l1Cur_among [] [])) [(.l 0), (.l 1)], none⟩, ⟨.mv (.l 2), none⟩] [(2, 3)])
 (.seq (.region [⟨.mv (.t 2), none⟩, ⟨.mv (.t 2), none⟩, ⟨.build [.int .i64 (0), .int .i64 (0), .int .i64 (0)] [(0, 1, (.l 0)), (1, 1, (.c (.int .i64 (0)))), (2, 1, (.l 1))], none⟩, ⟨.alloc [.int .i64 (0), .int .i64 (0), .int .i64 (0)], none⟩, ⟨.store 3 (.l 3) (.l 2), none⟩] [(3, 3)])
 (.seq (.seq (.region [⟨.mv (.t 0), none⟩, ⟨.call (.c (.fn f_s_l1Cur_one [] [])) [(.l 0), (.c (.int .i64 (2)))], none⟩] [(4, 1)])
 (.cond (.t 4) (.seq (.region [⟨.mv (.t 0), none⟩, ⟨.mv (.t 2), none⟩, ⟨.call (.c (.fn f_s_l1Cur_pick [] [])) [(.l 0), (.l 1)], none⟩, ⟨.fieldAddr 1 (.t 3), none⟩, ⟨.store 1 (.l 3) (.l 2), none⟩] [])
 (.draw [⟨.fieldAddr 1 (.t 3), none, []⟩, ⟨.load false 1 (.l 0), none, []⟩, ⟨.bin 0 .add (.l 1) (.c (.int .i64 (1))), none, []⟩, ⟨.mv (.t 0), none, []⟩, ⟨.mv (.t 2), none, []⟩, ⟨.fieldAddr 1 (.t 3), none, []⟩, ⟨.load false 1 (.l 5), none, []⟩, ⟨.bin 0 .sub (.l 4) (.l 6), none, []⟩, ⟨.call (.c (.fn f_s_l1Cur_pick [] [])) [(.l 3), (.l 7)], none, [(1, ⟨.load false 1 (.l 0), none⟩)]⟩, ⟨.bin 0 .add (.l 2) (.l 8), none, []⟩, ⟨.fieldAddr 2 (.t 3), none, []⟩, ⟨.store 1 (.l 10) (.l 9), none, []⟩] [])) .skip))
 (.seq (.seq (.region [⟨.mv (.t 0), none⟩, ⟨.call (.c (.fn f_s_l1Cur_pick [] [])) [(.l 0), (.c (.int .i64 (50)))], none⟩] [(5, 1)])
 (.block 0 (.seq (.region [⟨.bin 0 .eql (.t 5) (.c (.int .i64 (0))), none⟩, ⟨.mv (.l 0), none⟩] [(6, 1)])
 (.cond (.t 6) (.region [⟨.mv (.t 0), none⟩, ⟨.buildSlice 1 3 [.int .i64 (0), .int .i64 (0), .int .i64 (0)] [(0, 1, (.c (.int .i64 (0)))), (1, 1, (.c (.int .i64 (61)))), (2, 1, (.c (.int .i64 (-1))))], none⟩, ⟨.call (.c (.fn f_s_l1Cur_among [] [])) [(.l 0), (.l 1)], none⟩, ⟨.fieldAddr 0 (.t 3), none⟩, ⟨.store 1 (.l 3) (.l 2), none⟩] []) (.seq (.region [⟨.bin 0 .eql (.t 5) (.c (.int .i64 (1))), none⟩, ⟨.mv (.l 0), none⟩] [(7, 1)])
 (.cond (.t 7) (.region [⟨.mv (.t 0), none⟩, ⟨.fieldAddr 2 (.t 3), none⟩, ⟨.load false 1 (.l 1), none⟩, ⟨.fieldAddr 2 (.t 3), none⟩, ⟨.load false 1 (.l 3), none⟩, ⟨.bin 0 .add (.l 4) (.c (.int .i64 (1))), none⟩, ⟨.buildSlice 1 3 [.int .i64 (0), .int .i64 (0), .int .i64 (0)] [(0, 1, (.c (.int .i64 (-1)))), (1, 1, (.l 2)), (2, 1, (.l 5))], none⟩, ⟨.call (.c (.fn f_s_l1Cur_among [] [])) [(.l 0), (.l 6)], none⟩, ⟨.fieldAddr 1 (.t 3), none⟩, ⟨.store 1 (.l 8) (.l 7), none⟩] []) (.seq (.region [⟨.bin 0 .eql (.t 5) (.c (.int .i64 (2))), none⟩, ⟨.mv (.l 0), none⟩] [(8, 1)])
 (.cond (.t 8) (.region [⟨.mv (.t 0), none⟩, ⟨.fieldAddr 0 (.t 3), none⟩, ⟨.load false 1 (.l 1), none⟩, ⟨.bin 0 .add (.l 2) (.c (.int .i64 (1))), none⟩, ⟨.buildSlice 1 3 [.int .i64 (0), .int .i64 (0), .int .i64 (0)] [(0, 1, (.l 3)), (1, 1, (.c (.int .i64 (0)))), (2, 1, (.c (.int .i64 (4611686018427387904))))], none⟩, ⟨.call (.c (.fn f_s_l1Cur_among [] [])) [(.l 0), (.l 4)], none⟩, ⟨.fieldAddr 2 (.t 3), none⟩, ⟨.store 1 (.l 6) (.l 5), none⟩] []) .skip))))))))
 (.seq (.region [⟨.load true 3 (.t 3), none⟩, ⟨.store 3 (.t 1) (.l 0), none⟩] [])
 .ret))))))
def a_s_l1Cur_beam : AFun := ⟨[0, 2, 3, 4, 12, 29, 30, 36, 47], 57, c_s_l1Cur_beam, [.cell 1 true 3], 1⟩
def c_s_l2In : ACode :=
 (.seq (.region [⟨.mv (.c (.bool false)), none⟩] [(1, 0)])
 (.seq (.region [⟨.mv (.t 0), none⟩, ⟨.call (.c (.fn f_s_l1In [] [])) [(.l 0), (.c (.int .i64 (0))), (.c (.int .i64 (60)))], none⟩, ⟨.mv (.l 1), none⟩] [(1, 2)])
 .ret))
def a_s_l2In : AFun := ⟨[0, 2], 5, c_s_l2In, [.tmp 1], 1⟩
def tab : List (FuncId × AFun) :=
 [(f_gosem_cut_init, a_gosem_cut_init), (f_l_FnExactIsParty, a_l_FnExactIsParty), (f_l_FnExactRestingPlaces, a_l_FnExactRestingPlaces), (f_l_FnExactSafeMoves, a_l_FnExactSafeMoves), (f_l_FnExactMoveOne, a_l_FnExactMoveOne), (f_l_FnExactCountPlaces, a_l_FnExactCountPlaces), (f_l_FnExactIsWalkOn, a_l_FnExactIsWalkOn), (f_l_FnExactFarthestOut, a_l_FnExactFarthestOut), (f_l_FnExactMeetSteps, a_l_FnExactMeetSteps), (f_l_FnExactWalkTo, a_l_FnExactWalkTo), (f_l_FnExactStepsTo, a_l_FnExactStepsTo), (f_l_FnExactFirstWalkTo, a_l_FnExactFirstWalkTo), (f_l_FnPlanks, a_l_FnPlanks), (f_l_FnParties, a_l_FnParties), (f_l_szParty, a_l_szParty), (f_s_IsParty, a_s_IsParty), (f_l_toParty, a_l_toParty), (f_i_IsParty, a_i_IsParty), (f_l_eqParty, a_l_eqParty), (f_s_RestingPlaces, a_s_RestingPlaces), (f_i_RestingPlaces, a_i_RestingPlaces), (f_s_SafeMoves, a_s_SafeMoves), (f_i_SafeMoves, a_i_SafeMoves), (f_l_eqIntA2S, a_l_eqIntA2S), (f_l_markParty, a_l_markParty), (f_l_markIntA2S, a_l_markIntA2S), (f_l_heldIntA2S, a_l_heldIntA2S), (f_s_MoveOne, a_s_MoveOne), (f_l_toIntA2, a_l_toIntA2), (f_i_MoveOne, a_i_MoveOne), (f_l_heldParty, a_l_heldParty), (f_s_CountPlaces, a_s_CountPlaces), (f_i_CountPlaces, a_i_CountPlaces), (f_l_szIntA2S, a_l_szIntA2S), (f_s_IsWalkOn, a_s_IsWalkOn), (f_l_toIntA2S, a_l_toIntA2S), (f_i_IsWalkOn, a_i_IsWalkOn), (f_s_FarthestOut, a_s_FarthestOut), (f_i_FarthestOut, a_i_FarthestOut), (f_s_MeetSteps, a_s_MeetSteps), (f_i_MeetSteps, a_i_MeetSteps), (f_s_WalkTo, a_s_WalkTo), (f_i_WalkTo, a_i_WalkTo), (f_s_StepsTo, a_s_StepsTo), (f_l_toIntS, a_l_toIntS), (f_i_StepsTo, a_i_StepsTo), (f_l_eqIntS, a_l_eqIntS), (f_s_FirstWalkTo, a_s_FirstWalkTo), (f_i_FirstWalkTo, a_i_FirstWalkTo), (f_l_markIntS, a_l_markIntS), (f_l_rBig, a_l_rBig), (f_s_DrawCountPlaces, a_s_DrawCountPlaces), (f_s_DrawFarthestOut, a_s_DrawFarthestOut), (f_s_DrawFirstWalkTo, a_s_DrawFirstWalkTo), (f_l_rCells, a_l_rCells), (f_s_DrawMoveOne, a_s_DrawMoveOne), (f_l_rParty, a_l_rParty), (f_s_DrawWalkTo, a_s_DrawWalkTo), (f_l_szLoadS, a_l_szLoadS), (f_s_l11Party, a_s_l11Party), (f_l_toBeam, a_l_toBeam), (f_l_toLoadS, a_l_toLoadS), (f_i_isOn, a_i_isOn), (f_i_within, a_i_within), (f_i_Beam_rests, a_i_Beam_rests), (f_l_eqBeam, a_l_eqBeam), (f_l_eqLoadS, a_l_eqLoadS), (f_s_l11Size, a_s_l11Size), (f_s_l11Rests, a_s_l11Rests), (f_s_l11At, a_s_l11At), (f_i_Party_rests, a_i_Party_rests), (f_s_l11Moves, a_s_l11Moves), (f_i_Party_moves, a_i_Party_moves), (f_i_Party_spots, a_i_Party_spots), (f_l_eqIntA2, a_l_eqIntA2), (f_l_markLoadS, a_l_markLoadS), (f_s_l11Safe, a_s_l11Safe), (f_s_l11Moved, a_s_l11Moved), (f_l_heldLoadS, a_l_heldLoadS), (f_s_l11Spread, a_s_l11Spread), (f_i_Party_stepsFrom, a_i_Party_stepsFrom), (f_s_l11Walk, a_s_l11Walk), (f_i_Party_walk, a_i_Party_walk), (f_s_l1In, a_s_l1In), (f_s_l1Least, a_s_l1Least), (f_s_l1Most, a_s_l1Most), (f_s_l11Key, a_s_l11Key), (f_i_Party_at, a_i_Party_at), (f_s_l11Placed, a_s_l11Placed), (f_i_Party_spotsOf, a_i_Party_spotsOf), (f_s_DrawIsParty, a_s_DrawIsParty), (f_s_l1Cur_party, a_s_l1Cur_party), (f_s_l1Cur_pick, a_s_l1Cur_pick), (f_s_DrawStepsTo, a_s_DrawStepsTo), (f_s_l1Cur_moveOf, a_s_l1Cur_moveOf), (f_l_rRow, a_l_rRow), (f_s_DrawIsWalkOn, a_s_DrawIsWalkOn), (f_s_l6Beam, a_s_l6Beam), (f_s_l6On, a_s_l6On), (f_l_toLoad, a_l_toLoad), (f_i_IsBeam, a_i_IsBeam), (f_i_IsRow, a_i_IsRow), (f_slices_ContainsFunc_Si_Load_i_Load, a_slices_ContainsFunc_Si_Load_i_Load), (f_i_isOn_1, a_i_isOn_1), (f_i_tipSide, a_i_tipSide), (f_l_eqLoad, a_l_eqLoad), (f_s_l2Side, a_s_l2Side), (f_slices_Contains_S_2int__2int, a_slices_Contains_S_2int__2int), (f_slices_Clone_Si_Load_i_Load, a_slices_Clone_Si_Load_i_Load), (f_s_l1Cur_plank, a_s_l1Cur_plank), (f_s_l1Cur_among, a_s_l1Cur_among), (f_s_l1Cur_next, a_s_l1Cur_next), (f_s_l1Cur_targets, a_s_l1Cur_targets), (f_s_l1Cur_one, a_s_l1Cur_one), (f_s_l2Row, a_s_l2Row), (f_i_IsRow_1, a_i_IsRow_1), (f_i_isPlace, a_i_isPlace), (f_i_isWeight, a_i_isWeight), (f_slices_IndexFunc_Si_Load_i_Load, a_slices_IndexFunc_Si_Load_i_Load), (f_i_momentAbout, a_i_momentAbout), (f_s_l2Moment, a_s_l2Moment), (f_slices_Index_S_2int__2int, a_slices_Index_S_2int__2int), (f_s_l1Cur_beam, a_s_l1Cur_beam), (f_s_l2In, a_s_l2In)]
def T : Table := fun f => tab.lookup f
theorem t_gosem_cut_init : T f_gosem_cut_init = some a_gosem_cut_init := rfl
theorem t_l_FnExactIsParty : T f_l_FnExactIsParty = some a_l_FnExactIsParty := rfl
theorem t_l_FnExactRestingPlaces : T f_l_FnExactRestingPlaces = some a_l_FnExactRestingPlaces := rfl
theorem t_l_FnExactSafeMoves : T f_l_FnExactSafeMoves = some a_l_FnExactSafeMoves := rfl
theorem t_l_FnExactMoveOne : T f_l_FnExactMoveOne = some a_l_FnExactMoveOne := rfl
theorem t_l_FnExactCountPlaces : T f_l_FnExactCountPlaces = some a_l_FnExactCountPlaces := rfl
theorem t_l_FnExactIsWalkOn : T f_l_FnExactIsWalkOn = some a_l_FnExactIsWalkOn := rfl
theorem t_l_FnExactFarthestOut : T f_l_FnExactFarthestOut = some a_l_FnExactFarthestOut := rfl
theorem t_l_FnExactMeetSteps : T f_l_FnExactMeetSteps = some a_l_FnExactMeetSteps := rfl
theorem t_l_FnExactWalkTo : T f_l_FnExactWalkTo = some a_l_FnExactWalkTo := rfl
theorem t_l_FnExactStepsTo : T f_l_FnExactStepsTo = some a_l_FnExactStepsTo := rfl
theorem t_l_FnExactFirstWalkTo : T f_l_FnExactFirstWalkTo = some a_l_FnExactFirstWalkTo := rfl
theorem t_l_FnPlanks : T f_l_FnPlanks = some a_l_FnPlanks := rfl
theorem t_l_FnParties : T f_l_FnParties = some a_l_FnParties := rfl
theorem t_l_szParty : T f_l_szParty = some a_l_szParty := rfl
theorem t_s_IsParty : T f_s_IsParty = some a_s_IsParty := rfl
theorem t_l_toParty : T f_l_toParty = some a_l_toParty := rfl
theorem t_i_IsParty : T f_i_IsParty = some a_i_IsParty := rfl
theorem t_l_eqParty : T f_l_eqParty = some a_l_eqParty := rfl
theorem t_s_RestingPlaces : T f_s_RestingPlaces = some a_s_RestingPlaces := rfl
theorem t_i_RestingPlaces : T f_i_RestingPlaces = some a_i_RestingPlaces := rfl
theorem t_s_SafeMoves : T f_s_SafeMoves = some a_s_SafeMoves := rfl
theorem t_i_SafeMoves : T f_i_SafeMoves = some a_i_SafeMoves := rfl
theorem t_l_eqIntA2S : T f_l_eqIntA2S = some a_l_eqIntA2S := rfl
theorem t_l_markParty : T f_l_markParty = some a_l_markParty := rfl
theorem t_l_markIntA2S : T f_l_markIntA2S = some a_l_markIntA2S := rfl
theorem t_l_heldIntA2S : T f_l_heldIntA2S = some a_l_heldIntA2S := rfl
theorem t_s_MoveOne : T f_s_MoveOne = some a_s_MoveOne := rfl
theorem t_l_toIntA2 : T f_l_toIntA2 = some a_l_toIntA2 := rfl
theorem t_i_MoveOne : T f_i_MoveOne = some a_i_MoveOne := rfl
theorem t_l_heldParty : T f_l_heldParty = some a_l_heldParty := rfl
theorem t_s_CountPlaces : T f_s_CountPlaces = some a_s_CountPlaces := rfl
theorem t_i_CountPlaces : T f_i_CountPlaces = some a_i_CountPlaces := rfl
theorem t_l_szIntA2S : T f_l_szIntA2S = some a_l_szIntA2S := rfl
theorem t_s_IsWalkOn : T f_s_IsWalkOn = some a_s_IsWalkOn := rfl
theorem t_l_toIntA2S : T f_l_toIntA2S = some a_l_toIntA2S := rfl
theorem t_i_IsWalkOn : T f_i_IsWalkOn = some a_i_IsWalkOn := rfl
theorem t_s_FarthestOut : T f_s_FarthestOut = some a_s_FarthestOut := rfl
theorem t_i_FarthestOut : T f_i_FarthestOut = some a_i_FarthestOut := rfl
theorem t_s_MeetSteps : T f_s_MeetSteps = some a_s_MeetSteps := rfl
theorem t_i_MeetSteps : T f_i_MeetSteps = some a_i_MeetSteps := rfl
theorem t_s_WalkTo : T f_s_WalkTo = some a_s_WalkTo := rfl
theorem t_i_WalkTo : T f_i_WalkTo = some a_i_WalkTo := rfl
theorem t_s_StepsTo : T f_s_StepsTo = some a_s_StepsTo := rfl
theorem t_l_toIntS : T f_l_toIntS = some a_l_toIntS := rfl
theorem t_i_StepsTo : T f_i_StepsTo = some a_i_StepsTo := rfl
theorem t_l_eqIntS : T f_l_eqIntS = some a_l_eqIntS := rfl
theorem t_s_FirstWalkTo : T f_s_FirstWalkTo = some a_s_FirstWalkTo := rfl
theorem t_i_FirstWalkTo : T f_i_FirstWalkTo = some a_i_FirstWalkTo := rfl
theorem t_l_markIntS : T f_l_markIntS = some a_l_markIntS := rfl
theorem t_l_rBig : T f_l_rBig = some a_l_rBig := rfl
theorem t_s_DrawCountPlaces : T f_s_DrawCountPlaces = some a_s_DrawCountPlaces := rfl
theorem t_s_DrawFarthestOut : T f_s_DrawFarthestOut = some a_s_DrawFarthestOut := rfl
theorem t_s_DrawFirstWalkTo : T f_s_DrawFirstWalkTo = some a_s_DrawFirstWalkTo := rfl
theorem t_l_rCells : T f_l_rCells = some a_l_rCells := rfl
theorem t_s_DrawMoveOne : T f_s_DrawMoveOne = some a_s_DrawMoveOne := rfl
theorem t_l_rParty : T f_l_rParty = some a_l_rParty := rfl
theorem t_s_DrawWalkTo : T f_s_DrawWalkTo = some a_s_DrawWalkTo := rfl
theorem t_l_szLoadS : T f_l_szLoadS = some a_l_szLoadS := rfl
theorem t_s_l11Party : T f_s_l11Party = some a_s_l11Party := rfl
theorem t_l_toBeam : T f_l_toBeam = some a_l_toBeam := rfl
theorem t_l_toLoadS : T f_l_toLoadS = some a_l_toLoadS := rfl
theorem t_i_isOn : T f_i_isOn = some a_i_isOn := rfl
theorem t_i_within : T f_i_within = some a_i_within := rfl
theorem t_i_Beam_rests : T f_i_Beam_rests = some a_i_Beam_rests := rfl
theorem t_l_eqBeam : T f_l_eqBeam = some a_l_eqBeam := rfl
theorem t_l_eqLoadS : T f_l_eqLoadS = some a_l_eqLoadS := rfl
theorem t_s_l11Size : T f_s_l11Size = some a_s_l11Size := rfl
theorem t_s_l11Rests : T f_s_l11Rests = some a_s_l11Rests := rfl
theorem t_s_l11At : T f_s_l11At = some a_s_l11At := rfl
theorem t_i_Party_rests : T f_i_Party_rests = some a_i_Party_rests := rfl
theorem t_s_l11Moves : T f_s_l11Moves = some a_s_l11Moves := rfl
theorem t_i_Party_moves : T f_i_Party_moves = some a_i_Party_moves := rfl
theorem t_i_Party_spots : T f_i_Party_spots = some a_i_Party_spots := rfl
theorem t_l_eqIntA2 : T f_l_eqIntA2 = some a_l_eqIntA2 := rfl
theorem t_l_markLoadS : T f_l_markLoadS = some a_l_markLoadS := rfl
theorem t_s_l11Safe : T f_s_l11Safe = some a_s_l11Safe := rfl
theorem t_s_l11Moved : T f_s_l11Moved = some a_s_l11Moved := rfl
theorem t_l_heldLoadS : T f_l_heldLoadS = some a_l_heldLoadS := rfl
theorem t_s_l11Spread : T f_s_l11Spread = some a_s_l11Spread := rfl
theorem t_i_Party_stepsFrom : T f_i_Party_stepsFrom = some a_i_Party_stepsFrom := rfl
theorem t_s_l11Walk : T f_s_l11Walk = some a_s_l11Walk := rfl
theorem t_i_Party_walk : T f_i_Party_walk = some a_i_Party_walk := rfl
theorem t_s_l1In : T f_s_l1In = some a_s_l1In := rfl
theorem t_s_l1Least : T f_s_l1Least = some a_s_l1Least := rfl
theorem t_s_l1Most : T f_s_l1Most = some a_s_l1Most := rfl
theorem t_s_l11Key : T f_s_l11Key = some a_s_l11Key := rfl
theorem t_i_Party_at : T f_i_Party_at = some a_i_Party_at := rfl
theorem t_s_l11Placed : T f_s_l11Placed = some a_s_l11Placed := rfl
theorem t_i_Party_spotsOf : T f_i_Party_spotsOf = some a_i_Party_spotsOf := rfl
theorem t_s_DrawIsParty : T f_s_DrawIsParty = some a_s_DrawIsParty := rfl
theorem t_s_l1Cur_party : T f_s_l1Cur_party = some a_s_l1Cur_party := rfl
theorem t_s_l1Cur_pick : T f_s_l1Cur_pick = some a_s_l1Cur_pick := rfl
theorem t_s_DrawStepsTo : T f_s_DrawStepsTo = some a_s_DrawStepsTo := rfl
theorem t_s_l1Cur_moveOf : T f_s_l1Cur_moveOf = some a_s_l1Cur_moveOf := rfl
theorem t_l_rRow : T f_l_rRow = some a_l_rRow := rfl
theorem t_s_DrawIsWalkOn : T f_s_DrawIsWalkOn = some a_s_DrawIsWalkOn := rfl
theorem t_s_l6Beam : T f_s_l6Beam = some a_s_l6Beam := rfl
theorem t_s_l6On : T f_s_l6On = some a_s_l6On := rfl
theorem t_l_toLoad : T f_l_toLoad = some a_l_toLoad := rfl
theorem t_i_IsBeam : T f_i_IsBeam = some a_i_IsBeam := rfl
theorem t_i_IsRow : T f_i_IsRow = some a_i_IsRow := rfl
theorem t_slices_ContainsFunc_Si_Load_i_Load : T f_slices_ContainsFunc_Si_Load_i_Load = some a_slices_ContainsFunc_Si_Load_i_Load := rfl
theorem t_i_isOn_1 : T f_i_isOn_1 = some a_i_isOn_1 := rfl
theorem t_i_tipSide : T f_i_tipSide = some a_i_tipSide := rfl
theorem t_l_eqLoad : T f_l_eqLoad = some a_l_eqLoad := rfl
theorem t_s_l2Side : T f_s_l2Side = some a_s_l2Side := rfl
theorem t_slices_Contains_S_2int__2int : T f_slices_Contains_S_2int__2int = some a_slices_Contains_S_2int__2int := rfl
theorem t_slices_Clone_Si_Load_i_Load : T f_slices_Clone_Si_Load_i_Load = some a_slices_Clone_Si_Load_i_Load := rfl
theorem t_s_l1Cur_plank : T f_s_l1Cur_plank = some a_s_l1Cur_plank := rfl
theorem t_s_l1Cur_among : T f_s_l1Cur_among = some a_s_l1Cur_among := rfl
theorem t_s_l1Cur_next : T f_s_l1Cur_next = some a_s_l1Cur_next := rfl
theorem t_s_l1Cur_targets : T f_s_l1Cur_targets = some a_s_l1Cur_targets := rfl
theorem t_s_l1Cur_one : T f_s_l1Cur_one = some a_s_l1Cur_one := rfl
theorem t_s_l2Row : T f_s_l2Row = some a_s_l2Row := rfl
theorem t_i_IsRow_1 : T f_i_IsRow_1 = some a_i_IsRow_1 := rfl
theorem t_i_isPlace : T f_i_isPlace = some a_i_isPlace := rfl
theorem t_i_isWeight : T f_i_isWeight = some a_i_isWeight := rfl
theorem t_slices_IndexFunc_Si_Load_i_Load : T f_slices_IndexFunc_Si_Load_i_Load = some a_slices_IndexFunc_Si_Load_i_Load := rfl
theorem t_i_momentAbout : T f_i_momentAbout = some a_i_momentAbout := rfl
theorem t_s_l2Moment : T f_s_l2Moment = some a_s_l2Moment := rfl
theorem t_slices_Index_S_2int__2int : T f_slices_Index_S_2int__2int = some a_slices_Index_S_2int__2int := rfl
theorem t_s_l1Cur_beam : T f_s_l1Cur_beam = some a_s_l1Cur_beam := rfl
theorem t_s_l2In : T f_s_l2In = some a_s_l2In := rfl
end Go.Proofs.Ythkgpblohjpcdaa.Slim
