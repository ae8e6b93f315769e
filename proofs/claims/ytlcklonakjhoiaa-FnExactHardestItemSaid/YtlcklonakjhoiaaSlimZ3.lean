/- The slim functions of this seat (printed by a program; each is checked against the program by the kernel in SlimOk). -/
import Derived.Test.YtlcklonakjhoiaaSlimZ2
import Derived.Test.YtlcklonakjhoiaaChecked
/- The slim functions of this seat (printed by a program; each is checked against the program by the kernel in SlimOk). -/
namespace Go.Proofs.Ytlcklonakjhoiaa.Slim
open Go
abbrev f_main_main : FuncId := 0
abbrev f_gosem_cut : FuncId := 1
abbrev f_gosem_cut_init : FuncId := 2
abbrev f_l_FnExactFirstTip : FuncId := 3
abbrev f_l_FnExactHardestItem : FuncId := 4
abbrev f_l_FnExactUnloadOrder : FuncId := 5
abbrev f_l_FnExactSafeOrder : FuncId := 6
abbrev f_l_FnExactSafeStep : FuncId := 7
abbrev f_l_FnRafts : FuncId := 8
abbrev f_l_FnSafeOrders : FuncId := 9
abbrev f_l_szLoadS : FuncId := 10
abbrev f_s_FirstTip : FuncId := 11
abbrev f_l_toRaft : FuncId := 12
abbrev f_l_toLoadS : FuncId := 13
abbrev f_l_toIntS : FuncId := 14
abbrev f_i_FirstTip : FuncId := 15
abbrev f_l_eqLoadS : FuncId := 16
abbrev f_l_eqIntS : FuncId := 17
abbrev f_s_HardestItem : FuncId := 18
abbrev f_i_HardestItem : FuncId := 19
abbrev f_s_UnloadOrder : FuncId := 20
abbrev f_i_UnloadOrder : FuncId := 21
abbrev f_l_markLoadS : FuncId := 22
abbrev f_l_markIntS : FuncId := 23
abbrev f_l_heldIntS : FuncId := 24
abbrev f_s_SafeOrder : FuncId := 25
abbrev f_i_SafeOrder : FuncId := 26
abbrev f_s_SafeStep : FuncId := 27
abbrev f_i_SafeStep : FuncId := 28
abbrev f_l_rBig : FuncId := 29
abbrev f_s_DrawRaftSide : FuncId := 30
abbrev f_i_RaftSide : FuncId := 31
abbrev f_s_RaftSide : FuncId := 32
abbrev f_i_RaftReserve : FuncId := 33
abbrev f_s_RaftReserve : FuncId := 34
abbrev f_i_SafeSets : FuncId := 35
abbrev f_s_SafeSets : FuncId := 36
abbrev f_s_DrawIsSafeOrder : FuncId := 37
abbrev f_i_IsSafeOrder : FuncId := 38
abbrev f_s_IsSafeOrder : FuncId := 39
abbrev f_s_DrawIsRaft : FuncId := 40
abbrev f_i_IsRaft : FuncId := 41
abbrev f_s_IsRaft : FuncId := 42
abbrev f_l_rHas : FuncId := 43
abbrev f_s_DrawSafeOrder : FuncId := 44
abbrev f_l_rInts : FuncId := 45
abbrev f_i_CountSafe : FuncId := 46
abbrev f_s_CountSafe : FuncId := 47
abbrev f_i_LeastOwn : FuncId := 48
abbrev f_s_LeastOwn : FuncId := 49
abbrev f_i_PairSteps : FuncId := 50
abbrev f_s_PairSteps : FuncId := 51
abbrev f_s_DrawSafeStep : FuncId := 52
abbrev f_s_l10Order : FuncId := 53
abbrev f_s_l10Tip : FuncId := 54
abbrev f_l_toLoad : FuncId := 55
abbrev f_i_areCargo : FuncId := 56
abbrev f_i_isOrder : FuncId := 57
abbrev f_i_Raft_firstTip : FuncId := 58
abbrev f_l_eqLoad : FuncId := 59
abbrev f_s_l10Cargo : FuncId := 60
abbrev f_s_l10Ways : FuncId := 61
abbrev f_i_Raft_waysOf : FuncId := 62
abbrev f_slices_Delete_Si_Load_i_Load : FuncId := 63
abbrev f_slices_Clone_Si_Load_i_Load : FuncId := 64
abbrev f_s_l10Back : FuncId := 65
abbrev f_i_Raft_isSafe : FuncId := 66
abbrev f_i_stepsFrom : FuncId := 67
abbrev f_s_l10Code : FuncId := 68
abbrev f_s_l10Safe : FuncId := 69
abbrev f_i_bitsOf : FuncId := 70
abbrev f_s_l1Cur_raft : FuncId := 71
abbrev f_s_l1Cur_cargo : FuncId := 72
abbrev f_s_l1Cur_setOf : FuncId := 73
abbrev f_s_l10Reserve : FuncId := 74
abbrev f_i_Raft_reserve : FuncId := 75
abbrev f_s_l1Cur_one : FuncId := 76
abbrev f_s_l1Cur_orderFor : FuncId := 77
abbrev f_i_isBase : FuncId := 78
abbrev f_i_within : FuncId := 79
abbrev f_s_l10Raft : FuncId := 80
abbrev f_s_DrawSafeSets : FuncId := 81
abbrev f_s_l1Most : FuncId := 82
abbrev f_s_l1Cur_pick : FuncId := 83
abbrev f_s_l1Put : FuncId := 84
abbrev f_s_l1Has : FuncId := 85
abbrev f_i_IsRow : FuncId := 86
abbrev f_s_l2Row : FuncId := 87
abbrev f_s_l1Rising : FuncId := 88
abbrev f_s_l1Cur_among : FuncId := 89
abbrev f_i_isPlace : FuncId := 90
abbrev f_s_l2Base : FuncId := 91
abbrev f_s_l1In : FuncId := 92
abbrev f_s_l1Cur_next : FuncId := 93
abbrev f_slices_ContainsFunc_Si_Load_i_Load : FuncId := 94
abbrev f_i_IsRow_1 : FuncId := 95
abbrev f_i_isWeight : FuncId := 96
abbrev f_s_l2In : FuncId := 97
abbrev f_slices_IndexFunc_Si_Load_i_Load : FuncId := 98
abbrev f_runtime_boundsError_Error : FuncId := 99
abbrev f_runtime_boundsError_RuntimeError : FuncId := 100
abbrev f_runtime_errorString_Error : FuncId := 101
abbrev f_runtime_errorString_RuntimeError : FuncId := 102
abbrev f_runtime_plainError_Error : FuncId := 103
abbrev f_runtime_plainError_RuntimeError : FuncId := 104
abbrev f_runtime_errorAddressString_Error : FuncId := 105
abbrev f_runtime_errorAddressString_RuntimeError : FuncId := 106
abbrev f_runtime_TypeAssertionError_Error : FuncId := 107
abbrev f_runtime_TypeAssertionError_RuntimeError : FuncId := 108
abbrev f_runtime_PanicNilError_Error : FuncId := 109
abbrev f_runtime_PanicNilError_RuntimeError : FuncId := 110
abbrev f_internal_abi_Type_Align : FuncId := 111
abbrev f_internal_runtime_maps_unhashableTypeError_Error : FuncId := 112
abbrev f_internal_runtime_maps_unhashableTypeError_RuntimeError : FuncId := 113
abbrev f_s_l1Cur_any1 : FuncId := 114
abbrev f_internal_abi_Kind_String : FuncId := 115
def c_gosem_cut_init : ACode :=
 (.region [⟨.call (.c (.fn f_gosem_cut [] [])) [], none⟩] [])
def a_gosem_cut_init : AFun := ⟨[], 1, c_gosem_cut_init, [], 1⟩
def c_l_FnExactFirstTip : ACode :=
 (.seq (.region [⟨.box (.t 0), none⟩, ⟨.mv (.c (.bool false)), none⟩] [(3, 0), (4, 1)])
 (.seq (.seq (.region [⟨.mv (.t 2), none⟩, ⟨.len (.l 0), none⟩, ⟨.bin 0 .gtr (.l 1) (.c (.int .i64 (1048576))), none⟩] [(12, 2)])
 (.cond (.t 12) (.seq (.region [⟨.mv (.c (.bool true)), none⟩] [(4, 0)])
 .ret) .skip))
 (.seq (.region [⟨.mv (.c (.int .i64 (1048576))), none⟩] [(5, 0)])
 (.seq (.region [⟨.mv (.t 1), none⟩, ⟨.mv (.t 5), none⟩, ⟨.call (.c (.fn f_l_szLoadS [] [])) [(.l 0), (.l 1)], none⟩, ⟨.mv (.l 2), none⟩] [(5, 3)])
 (.seq (.seq (.region [⟨.mv (.t 5), none⟩, ⟨.bin 0 .lss (.l 0) (.c (.int .i64 (0))), none⟩] [(13, 1)])
 (.cond (.t 13) (.seq (.region [⟨.mv (.c (.bool true)), none⟩] [(4, 0)])
 .ret) .skip))
 (.seq (.region [⟨.load true 3 (.t 3), none⟩, ⟨.call (.c (.fn f_l_toRaft [] [])) [(.l 0)], none⟩, ⟨.mv (.t 1), none⟩, ⟨.call (.c (.fn f_l_toLoadS [] [])) [(.l 2)], none⟩, ⟨.mv (.t 2), none⟩, ⟨.call (.c (.fn f_l_toIntS [] [])) [(.l 4)], none⟩, ⟨.call (.c (.fn f_s_FirstTip [] [])) [(.l 1), (.l 3), (.l 5)], none⟩, ⟨.mv (.l 6), none⟩, ⟨.extract 0 (.l 7), none⟩, ⟨.extract 1 (.l 7), none⟩, ⟨.mv (.l 8), none⟩, ⟨.mv (.l 9), none⟩] [(6, 10), (7, 11)])
 (.seq (.region [⟨.mv (.t 1), none⟩, ⟨.call (.c (.fn f_l_toLoadS [] [])) [(.l 0)], none⟩, ⟨.mv (.l 1), none⟩] [(8, 2)])
 (.seq (.region [⟨.mv (.t 2), none⟩, ⟨.call (.c (.fn f_l_toIntS [] [])) [(.l 0)], none⟩, ⟨.mv (.l 1), none⟩] [(9, 2)])
 (.seq (.region [⟨.load true 3 (.t 3), none⟩, ⟨.call (.c (.fn f_l_toRaft [] [])) [(.l 0)], none⟩, ⟨.mv (.t 8), none⟩, ⟨.mv (.t 9), none⟩, ⟨.call (.c (.fn f_i_FirstTip [] [])) [(.l 1), (.l 2), (.l 3)], none⟩, ⟨.mv (.l 4), none⟩, ⟨.extract 0 (.l 5), none⟩, ⟨.extract 1 (.l 5), none⟩, ⟨.mv (.l 6), none⟩, ⟨.mv (.l 7), none⟩] [(10, 8), (11, 9)])
 (.seq (.seq (.region [⟨.mv (.t 10), none⟩, ⟨.mv (.t 6), none⟩, ⟨.bin 0 .neq (.l 0) (.l 1), none⟩, ⟨.mv (.l 2), none⟩, ⟨.mv (.t 11), some ((.l 3), false)⟩, ⟨.mv (.t 7), some ((.l 3), false)⟩, ⟨.bin 2 .neq (.l 4) (.l 5), some ((.l 3), false)⟩, ⟨.pick (.l 3) (.c (.bool true)) (.l 6), none⟩] [(14, 7)])
 (.cond (.t 14) (.seq (.region [⟨.mv (.c (.bool false)), none⟩] [(4, 0)])
 .ret) .skip))
 (.seq (.seq (.region [⟨.mv (.t 8), none⟩, ⟨.mv (.t 1), none⟩, ⟨.call (.c (.fn f_l_toLoadS [] [])) [(.l 1)], none⟩, ⟨.call (.c (.fn f_l_eqLoadS [] [])) [(.l 0), (.l 2)], none⟩, ⟨.un .not (.l 3), none⟩] [(15, 4)])
 (.cond (.t 15) (.seq (.region [⟨.mv (.c (.bool false)), none⟩] [(4, 0)])
 .ret) .skip))
 (.seq (.seq (.region [⟨.mv (.t 9), none⟩, ⟨.mv (.t 2), none⟩, ⟨.call (.c (.fn f_l_toIntS [] [])) [(.l 1)], none⟩, ⟨.call (.c (.fn f_l_eqIntS [] [])) [(.l 0), (.l 2)], none⟩, ⟨.un .not (.l 3), none⟩] [(16, 4)])
 (.cond (.t 16) (.seq (.region [⟨.mv (.c (.bool false)), none⟩] [(4, 0)])
 .ret) .skip))
 (.seq (.region [⟨.mv (.c (.bool true)), none⟩] [(4, 0)])
 .ret)))))))))))))
def a_l_FnExactFirstTip : AFun := ⟨[0, 1, 2, 3, 6, 7, 8, 9, 10, 11, 12, 13, 16, 21, 51, 56, 61], 62, c_l_FnExactFirstTip, [.tmp 4], 1⟩
def c_l_FnExactHardestItem : ACode :=
 (.seq (.region [⟨.box (.t 0), none⟩, ⟨.mv (.c (.bool false)), none⟩] [(2, 0), (3, 1)])
 (.seq (.region [⟨.mv (.c (.int .i64 (1048576))), none⟩] [(4, 0)])
 (.seq (.region [⟨.mv (.t 1), none⟩, ⟨.mv (.t 4), none⟩, ⟨.call (.c (.fn f_l_szLoadS [] [])) [(.l 0), (.l 1)], none⟩, ⟨.mv (.l 2), none⟩] [(4, 3)])
 (.seq (.seq (.region [⟨.mv (.t 4), none⟩, ⟨.bin 0 .lss (.l 0) (.c (.int .i64 (0))), none⟩] [(10, 1)])
 (.cond (.t 10) (.seq (.region [⟨.mv (.c (.bool true)), none⟩] [(3, 0)])
 .ret) .skip))
 (.seq (.region [⟨.load true 3 (.t 2), none⟩, ⟨.call (.c (.fn f_l_toRaft [] [])) [(.l 0)], none⟩, ⟨.mv (.t 1), none⟩, ⟨.call (.c (.fn f_l_toLoadS [] [])) [(.l 2)], none⟩, ⟨.call (.c (.fn f_s_HardestItem [] [])) [(.l 1), (.l 3)], none⟩, ⟨.mv (.l 4), none⟩, ⟨.extract 0 (.l 5), none⟩, ⟨.extract 1 (.l 5), none⟩, ⟨.mv (.l 6), none⟩, ⟨.mv (.l 7), none⟩] [(5, 8), (6, 9)])
 (.seq (.region [⟨.mv (.t 1), none⟩, ⟨.call (.c (.fn f_l_toLoadS [] [])) [(.l 0)], none⟩, ⟨.mv (.l 1), none⟩] [(7, 2)])
 (.seq (.region [⟨.load true 3 (.t 2), none⟩, ⟨.call (.c (.fn f_l_toRaft [] [])) [(.l 0)], none⟩, ⟨.mv (.t 7), none⟩, ⟨.call (.c (.fn f_i_HardestItem [] [])) [(.l 1), (.l 2)], none⟩, ⟨.mv (.l 3), none⟩, ⟨.extract 0 (.l 4), none⟩, ⟨.extract 1 (.l 4), none⟩, ⟨.mv (.l 5), none⟩, ⟨.mv (.l 6), none⟩] [(8, 7), (9, 8)])
 (.seq (.seq (.region [⟨.mv (.t 8), none⟩, ⟨.mv (.t 5), none⟩, ⟨.bin 0 .neq (.l 0) (.l 1), none⟩, ⟨.mv (.l 2), none⟩, ⟨.mv (.t 9), some ((.l 3), false)⟩, ⟨.mv (.t 6), some ((.l 3), false)⟩, ⟨.bin 2 .neq (.l 4) (.l 5), some ((.l 3), false)⟩, ⟨.pick (.l 3) (.c (.bool true)) (.l 6), none⟩] [(11, 7)])
 (.cond (.t 11) (.seq (.region [⟨.mv (.c (.bool false)), none⟩] [(3, 0)])
 .ret) .skip))
 (.seq (.seq (.region [⟨.mv (.t 7), none⟩, ⟨.mv (.t 1), none⟩, ⟨.call (.c (.fn f_l_toLoadS [] [])) [(.l 1)], none⟩, ⟨.call (.c (.fn f_l_eqLoadS [] [])) [(.l 0), (.l 2)], none⟩, ⟨.un .not (.l 3), none⟩] [(12, 4)])
 (.cond (.t 12) (.seq (.region [⟨.mv (.c (.bool false)), none⟩] [(3, 0)])
 .ret) .skip))
 (.seq (.region [⟨.mv (.c (.bool true)), none⟩] [(3, 0)])
 .ret))))))))))
def a_l_FnExactHardestItem : AFun := ⟨[0, 1, 2, 4, 5, 6, 7, 8, 9, 10, 15, 40, 45], 46, c_l_FnExactHardestItem, [.tmp 3], 1⟩
def c_l_FnExactUnloadOrder : ACode :=
 (.seq (.region [⟨.box (.t 0), none⟩, ⟨.mv (.c (.bool false)), none⟩] [(2, 0), (3, 1)])
 (.seq (.region [⟨.mv (.c (.int .i64 (1048576))), none⟩] [(4, 0)])
 (.seq (.region [⟨.mv (.t 1), none⟩, ⟨.mv (.t 4), none⟩, ⟨.call (.c (.fn f_l_szLoadS [] [])) [(.l 0), (.l 1)], none⟩, ⟨.mv (.l 2), none⟩] [(4, 3)])
 (.seq (.seq (.region [⟨.mv (.t 4), none⟩, ⟨.bin 0 .lss (.l 0) (.c (.int .i64 (0))), none⟩] [(15, 1)])
 (.cond (.t 15) (.seq (.region [⟨.mv (.c (.bool true)), none⟩] [(3, 0)])
 .ret) .skip))
 (.seq (.region [⟨.load true 3 (.t 2), none⟩, ⟨.call (.c (.fn f_l_toRaft [] [])) [(.l 0)], none⟩, ⟨.mv (.t 1), none⟩, ⟨.call (.c (.fn f_l_toLoadS [] [])) [(.l 2)], none⟩, ⟨.call (.c (.fn f_s_UnloadOrder [] [])) [(.l 1), (.l 3)], none⟩, ⟨.mv (.l 4), none⟩, ⟨.extract 0 (.l 5), none⟩, ⟨.extract 1 (.l 5), none⟩, ⟨.mv (.l 6), none⟩, ⟨.mv (.l 7), none⟩] [(5, 8), (6, 9)])
 (.seq (.region [⟨.mv (.t 1), none⟩, ⟨.call (.c (.fn f_l_toLoadS [] [])) [(.l 0)], none⟩, ⟨.mv (.l 1), none⟩] [(7, 2)])
 (.seq (.region [⟨.load true 3 (.t 2), none⟩, ⟨.call (.c (.fn f_l_toRaft [] [])) [(.l 0)], none⟩, ⟨.mv (.t 7), none⟩, ⟨.call (.c (.fn f_i_UnloadOrder [] [])) [(.l 1), (.l 2)], none⟩, ⟨.mv (.l 3), none⟩, ⟨.extract 0 (.l 4), none⟩, ⟨.extract 1 (.l 4), none⟩, ⟨.mv (.l 5), none⟩, ⟨.mv (.l 6), none⟩] [(8, 7), (9, 8)])
 (.seq (.seq (.region [⟨.mv (.t 8), none⟩, ⟨.mv (.t 5), none⟩, ⟨.call (.c (.fn f_l_eqIntS [] [])) [(.l 0), (.l 1)], none⟩, ⟨.un .not (.l 2), none⟩, ⟨.mv (.l 3), none⟩, ⟨.mv (.t 9), some ((.l 4), false)⟩, ⟨.mv (.t 6), some ((.l 4), false)⟩, ⟨.bin 2 .neq (.l 5) (.l 6), some ((.l 4), false)⟩, ⟨.pick (.l 4) (.c (.bool true)) (.l 7), none⟩] [(16, 8)])
 (.cond (.t 16) (.seq (.region [⟨.mv (.c (.bool false)), none⟩] [(3, 0)])
 .ret) .skip))
 (.seq (.seq (.region [⟨.mv (.t 7), none⟩, ⟨.mv (.t 1), none⟩, ⟨.call (.c (.fn f_l_toLoadS [] [])) [(.l 1)], none⟩, ⟨.call (.c (.fn f_l_eqLoadS [] [])) [(.l 0), (.l 2)], none⟩, ⟨.un .not (.l 3), none⟩] [(17, 4)])
 (.cond (.t 17) (.seq (.region [⟨.mv (.c (.bool false)), none⟩] [(3, 0)])
 .ret) .skip))
 (.seq (.region [⟨.mv (.c (.int .i64 (1))), none⟩] [(10, 0)])
 (.seq (.region [⟨.mv (.t 7), none⟩, ⟨.mv (.t 10), none⟩, ⟨.call (.c (.fn f_l_markLoadS [] [])) [(.l 0), (.l 1)], none⟩, ⟨.mv (.l 2), none⟩] [(10, 3)])
 (.seq (.seq (.region [⟨.mv (.t 10), none⟩, ⟨.bin 0 .lss (.l 0) (.c (.int .i64 (0))), none⟩, ⟨.mv (.l 1), none⟩, ⟨.mv (.t 8), some ((.l 2), false)⟩, ⟨.mv (.t 5), some ((.l 2), false)⟩, ⟨.call (.c (.fn f_l_eqIntS [] [])) [(.l 3), (.l 4)], some ((.l 2), false)⟩, ⟨.un .not (.l 5), some ((.l 2), false)⟩, ⟨.pick (.l 2) (.c (.bool true)) (.l 6), none⟩, ⟨.mv (.l 7), none⟩, ⟨.mv (.t 9), some ((.l 8), false)⟩, ⟨.mv (.t 6), some ((.l 8), false)⟩, ⟨.bin 2 .neq (.l 9) (.l 10), some ((.l 8), false)⟩, ⟨.pick (.l 8) (.c (.bool true)) (.l 11), none⟩] [(18, 12)])
 (.cond (.t 18) (.seq (.region [⟨.mv (.c (.bool false)), none⟩] [(3, 0)])
 .ret) .skip))
 (.seq (.region [⟨.mv (.c (.int .i64 (1))), none⟩] [(11, 0)])
 (.seq (.region [⟨.mv (.t 8), none⟩, ⟨.mv (.t 11), none⟩, ⟨.call (.c (.fn f_l_markIntS [] [])) [(.l 0), (.l 1)], none⟩, ⟨.mv (.l 2), none⟩] [(11, 3)])
 (.seq (.region [⟨.mv (.c (.int .i64 (1))), none⟩] [(12, 0)])
 (.seq (.region [⟨.mv (.t 8), none⟩, ⟨.mv (.t 12), none⟩, ⟨.call (.c (.fn f_l_heldIntS [] [])) [(.l 0), (.l 1)], none⟩, ⟨.mv (.l 2), none⟩] [(12, 3)])
 (.seq (.seq (.region [⟨.mv (.t 12), none⟩, ⟨.bin 0 .lss (.l 0) (.c (.int .i64 (0))), none⟩] [(19, 1)])
 (.cond (.t 19) (.seq (.region [⟨.mv (.c (.bool false)), none⟩] [(3, 0)])
 .ret) .skip))
 (.seq (.seq (.region [⟨.mv (.t 12), none⟩, ⟨.mv (.t 11), none⟩, ⟨.bin 0 .neq (.l 0) (.l 1), none⟩] [(20, 2)])
 (.cond (.t 20) (.seq (.region [⟨.mv (.c (.bool false)), none⟩] [(3, 0)])
 .ret) .skip))
 (.seq (.region [⟨.load true 3 (.t 2), none⟩, ⟨.call (.c (.fn f_l_toRaft [] [])) [(.l 0)], none⟩, ⟨.mv (.t 1), none⟩, ⟨.call (.c (.fn f_l_toLoadS [] [])) [(.l 2)], none⟩, ⟨.call (.c (.fn f_i_UnloadOrder [] [])) [(.l 1), (.l 3)], none⟩, ⟨.mv (.l 4), none⟩, ⟨.extract 0 (.l 5), none⟩, ⟨.extract 1 (.l 5), none⟩, ⟨.mv (.l 6), none⟩, ⟨.mv (.l 7), none⟩] [(13, 8), (14, 9)])
 (.seq (.seq (.region [⟨.mv (.t 13), none⟩, ⟨.mv (.t 5), none⟩, ⟨.call (.c (.fn f_l_eqIntS [] [])) [(.l 0), (.l 1)], none⟩, ⟨.un .not (.l 2), none⟩, ⟨.mv (.l 3), none⟩, ⟨.mv (.t 14), some ((.l 4), false)⟩, ⟨.mv (.t 6), some ((.l 4), false)⟩, ⟨.bin 2 .neq (.l 5) (.l 6), some ((.l 4), false)⟩, ⟨.pick (.l 4) (.c (.bool true)) (.l 7), none⟩] [(21, 8)])
 (.cond (.t 21) (.seq (.region [⟨.mv (.c (.bool false)), none⟩] [(3, 0)])
 .ret) .skip))
 (.seq (.region [⟨.mv (.c (.int .i64 (1))), none⟩] [(12, 0)])
 (.seq (.region [⟨.mv (.t 8), none⟩, ⟨.mv (.t 12), none⟩, ⟨.call (.c (.fn f_l_heldIntS [] [])) [(.l 0), (.l 1)], none⟩, ⟨.mv (.l 2), none⟩] [(12, 3)])
 (.seq (.seq (.region [⟨.mv (.t 12), none⟩, ⟨.bin 0 .lss (.l 0) (.c (.int .i64 (0))), none⟩] [(22, 1)])
 (.cond (.t 22) (.seq (.region [⟨.mv (.c (.bool false)), none⟩] [(3, 0)])
 .ret) .skip))
 (.seq (.seq (.region [⟨.mv (.t 12), none⟩, ⟨.mv (.t 11), none⟩, ⟨.bin 0 .neq (.l 0) (.l 1), none⟩] [(23, 2)])
 (.cond (.t 23) (.seq (.region [⟨.mv (.c (.bool false)), none⟩] [(3, 0)])
 .ret) .skip))
 (.seq (.region [⟨.mv (.c (.bool true)), none⟩] [(3, 0)])
 .ret)))))))))))))))))))))))))
def a_l_FnExactUnloadOrder : AFun := ⟨[0, 1, 2, 4, 5, 6, 7, 8, 9, 10, 11, 12, 13, 14, 15, 20, 46, 51, 67, 75, 78, 95, 100, 103], 104, c_l_FnExactUnloadOrder, [.tmp 3], 1⟩
def c_l_FnExactSafeOrder : ACode :=
 (.seq (.region [⟨.box (.t 0), none⟩, ⟨.mv (.c (.bool false)), none⟩] [(2, 0), (3, 1)])
 (.seq (.region [⟨.mv (.c (.int .i64 (1048576))), none⟩] [(4, 0)])
 (.seq (.region [⟨.mv (.t 1), none⟩, ⟨.mv (.t 4), none⟩, ⟨.call (.c (.fn f_l_szLoadS [] [])) [(.l 0), (.l 1)], none⟩, ⟨.mv (.l 2), none⟩] [(4, 3)])
 (.seq (.seq (.region [⟨.mv (.t 4), none⟩, ⟨.bin 0 .lss (.l 0) (.c (.int .i64 (0))), none⟩] [(15, 1)])
 (.cond (.t 15) (.seq (.region [⟨.mv (.c (.bool true)), none⟩] [(3, 0)])
 .ret) .skip))
 (.seq (.region [⟨.load true 3 (.t 2), none⟩, ⟨.call (.c (.fn f_l_toRaft [] [])) [(.l 0)], none⟩, ⟨.mv (.t 1), none⟩, ⟨.call (.c (.fn f_l_toLoadS [] [])) [(.l 2)], none⟩, ⟨.call (.c (.fn f_s_SafeOrder [] [])) [(.l 1), (.l 3)], none⟩, ⟨.mv (.l 4), none⟩, ⟨.extract 0 (.l 5), none⟩, ⟨.extract 1 (.l 5), none⟩, ⟨.mv (.l 6), none⟩, ⟨.mv (.l 7), none⟩] [(5, 8), (6, 9)])
 (.seq (.region [⟨.mv (.t 1), none⟩, ⟨.call (.c (.fn f_l_toLoadS [] [])) [(.l 0)], none⟩, ⟨.mv (.l 1), none⟩] [(7, 2)])
 (.seq (.region [⟨.load true 3 (.t 2), none⟩, ⟨.call (.c (.fn f_l_toRaft [] [])) [(.l 0)], none⟩, ⟨.mv (.t 7), none⟩, ⟨.call (.c (.fn f_i_SafeOrder [] [])) [(.l 1), (.l 2)], none⟩, ⟨.mv (.l 3), none⟩, ⟨.extract 0 (.l 4), none⟩, ⟨.extract 1 (.l 4), none⟩, ⟨.mv (.l 5), none⟩, ⟨.mv (.l 6), none⟩] [(8, 7), (9, 8)])
 (.seq (.seq (.region [⟨.mv (.t 8), none⟩, ⟨.mv (.t 5), none⟩, ⟨.call (.c (.fn f_l_eqIntS [] [])) [(.l 0), (.l 1)], none⟩, ⟨.un .not (.l 2), none⟩, ⟨.mv (.l 3), none⟩, ⟨.mv (.t 9), some ((.l 4), false)⟩, ⟨.mv (.t 6), some ((.l 4), false)⟩, ⟨.bin 2 .neq (.l 5) (.l 6), some ((.l 4), false)⟩, ⟨.pick (.l 4) (.c (.bool true)) (.l 7), none⟩] [(16, 8)])
 (.cond (.t 16) (.seq (.region [⟨.mv (.c (.bool false)), none⟩] [(3, 0)])
 .ret) .skip))
 (.seq (.seq (.region [⟨.mv (.t 7), none⟩, ⟨.mv (.t 1), none⟩, ⟨.call (.c (.fn f_l_toLoadS [] [])) [(.l 1)], none⟩, ⟨.call (.c (.fn f_l_eqLoadS [] [])) [(.l 0), (.l 2)], none⟩, ⟨.un .not (.l 3), none⟩] [(17, 4)])
 (.cond (.t 17) (.seq (.region [⟨.mv (.c (.bool false)), none⟩] [(3, 0)])
 .ret) .skip))
 (.seq (.region [⟨.mv (.c (.int .i64 (1))), none⟩] [(10, 0)])
 (.seq (.region [⟨.mv (.t 7), none⟩, ⟨.mv (.t 10), none⟩, ⟨.call (.c (.fn f_l_markLoadS [] [])) [(.l 0), (.l 1)], none⟩, ⟨.mv (.l 2), none⟩] [(10, 3)])
 (.seq (.seq (.region [⟨.mv (.t 10), none⟩, ⟨.bin 0 .lss (.l 0) (.c (.int .i64 (0))), none⟩, ⟨.mv (.l 1), none⟩, ⟨.mv (.t 8), some ((.l 2), false)⟩, ⟨.mv (.t 5), some ((.l 2), false)⟩, ⟨.call (.c (.fn f_l_eqIntS [] [])) [(.l 3), (.l 4)], some ((.l 2), false)⟩, ⟨.un .not (.l 5), some ((.l 2), false)⟩, ⟨.pick (.l 2) (.c (.bool true)) (.l 6), none⟩, ⟨.mv (.l 7), none⟩, ⟨.mv (.t 9), some ((.l 8), false)⟩, ⟨.mv (.t 6), some ((.l 8), false)⟩, ⟨.bin 2 .neq (.l 9) (.l 10), some ((.l 8), false)⟩, ⟨.pick (.l 8) (.c (.bool true)) (.l 11), none⟩] [(18, 12)])
 (.cond (.t 18) (.seq (.region [⟨.mv (.c (.bool false)), none⟩] [(3, 0)])
 .ret) .skip))
 (.seq (.region [⟨.mv (.c (.int .i64 (1))), none⟩] [(11, 0)])
 (.seq (.region [⟨.mv (.t 8), none⟩, ⟨.mv (.t 11), none⟩, ⟨.call (.c (.fn f_l_markIntS [] [])) [(.l 0), (.l 1)], none⟩, ⟨.mv (.l 2), none⟩] [(11, 3)])
 (.seq (.region [⟨.mv (.c (.int .i64 (1))), none⟩] [(12, 0)])
 (.seq (.region [⟨.mv (.t 8), none⟩, ⟨.mv (.t 12), none⟩, ⟨.call (.c (.fn f_l_heldIntS [] [])) [(.l 0), (.l 1)], none⟩, ⟨.mv (.l 2), none⟩] [(12, 3)])
 (.seq (.seq (.region [⟨.mv (.t 12), none⟩, ⟨.bin 0 .lss (.l 0) (.c (.int .i64 (0))), none⟩] [(19, 1)])
 (.cond (.t 19) (.seq (.region [⟨.mv (.c (.bool false)), none⟩] [(3, 0)])
 .ret) .skip))
 (.seq (.seq (.region [⟨.mv (.t 12), none⟩, ⟨.mv (.t 11), none⟩, ⟨.bin 0 .neq (.l 0) (.l 1), none⟩] [(20, 2)])
 (.cond (.t 20) (.seq (.region [⟨.mv (.c (.bool false)), none⟩] [(3, 0)])
 .ret) .skip))
 (.seq (.region [⟨.load true 3 (.t 2), none⟩, ⟨.call (.c (.fn f_l_toRaft [] [])) [(.l 0)], none⟩, ⟨.mv (.t 1), none⟩, ⟨.call (.c (.fn f_l_toLoadS [] [])) [(.l 2)], none⟩, ⟨.call (.c (.fn f_i_SafeOrder [] [])) [(.l 1), (.l 3)], none⟩, ⟨.mv (.l 4), none⟩, ⟨.extract 0 (.l 5), none⟩, ⟨.extract 1 (.l 5), none⟩, ⟨.mv (.l 6), none⟩, ⟨.mv (.l 7), none⟩] [(13, 8), (14, 9)])
 (.seq (.seq (.region [⟨.mv (.t 13), none⟩, ⟨.mv (.t 5), none⟩, ⟨.call (.c (.fn f_l_eqIntS [] [])) [(.l 0), (.l 1)], none⟩, ⟨.un .not (.l 2), none⟩, ⟨.mv (.l 3), none⟩, ⟨.mv (.t 14), some ((.l 4), false)⟩, ⟨.mv (.t 6), some ((.l 4), false)⟩, ⟨.bin 2 .neq (.l 5) (.l 6), some ((.l 4), false)⟩, ⟨.pick (.l 4) (.c (.bool true)) (.l 7), none⟩] [(21, 8)])
 (.cond (.t 21) (.seq (.region [⟨.mv (.c (.bool false)), none⟩] [(3, 0)])
 .ret) .skip))
 (.seq (.region [⟨.mv (.c (.int .i64 (1))), none⟩] [(12, 0)])
 (.seq (.region [⟨.mv (.t 8), none⟩, ⟨.mv (.t 12), none⟩, ⟨.call (.c (.fn f_l_heldIntS [] [])) [(.l 0), (.l 1)], none⟩, ⟨.mv (.l 2), none⟩] [(12, 3)])
 (.seq (.seq (.region [⟨.mv (.t 12), none⟩, ⟨.bin 0 .lss (.l 0) (.c (.int .i64 (0))), none⟩] [(22, 1)])
 (.cond (.t 22) (.seq (.region [⟨.mv (.c (.bool false)), none⟩] [(3, 0)])
 .ret) .skip))
 (.seq (.seq (.region [⟨.mv (.t 12), none⟩, ⟨.mv (.t 11), none⟩, ⟨.bin 0 .neq (.l 0) (.l 1), none⟩] [(23, 2)])
 (.cond (.t 23) (.seq (.region [⟨.mv (.c (.bool false)), none⟩] [(3, 0)])
 .ret) .skip))
 (.seq (.region [⟨.mv (.c (.bool true)), none⟩] [(3, 0)])
 .ret)))))))))))))))))))))))))
def a_l_FnExactSafeOrder : AFun := ⟨[0, 1, 2, 4, 5, 6, 7, 8, 9, 10, 11, 12, 13, 14, 15, 20, 46, 51, 67, 75, 78, 95, 100, 103], 104, c_l_FnExactSafeOrder, [.tmp 3], 1⟩
def c_l_FnExactSafeStep : ACode :=
 (.seq (.region [⟨.box (.t 0), none⟩, ⟨.mv (.c (.bool false)), none⟩] [(3, 0), (4, 1)])
 (.seq (.seq (.region [⟨.mv (.t 2), none⟩, ⟨.len (.l 0), none⟩, ⟨.bin 0 .gtr (.l 1) (.c (.int .i64 (1048576))), none⟩] [(17, 2)])
 (.cond (.t 17) (.seq (.region [⟨.mv (.c (.bool true)), none⟩] [(4, 0)])
 .ret) .skip))
 (.seq (.region [⟨.mv (.c (.int .i64 (1048576))), none⟩] [(5, 0)])
 (.seq (.region [⟨.mv (.t 1), none⟩, ⟨.mv (.t 5), none⟩, ⟨.call (.c (.fn f_l_szLoadS [] [])) [(.l 0), (.l 1)], none⟩, ⟨.mv (.l 2), none⟩] [(5, 3)])
 (.seq (.seq (.region [⟨.mv (.t 5), none⟩, ⟨.bin 0 .lss (.l 0) (.c (.int .i64 (0))), none⟩] [(18, 1)])
 (.cond (.t 18) (.seq (.region [⟨.mv (.c (.bool true)), none⟩] [(4, 0)])
 .ret) .skip))
 (.seq (.region [⟨.load true 3 (.t 3), none⟩, ⟨.call (.c (.fn f_l_toRaft [] [])) [(.l 0)], none⟩, ⟨.mv (.t 1), none⟩, ⟨.call (.c (.fn f_l_toLoadS [] [])) [(.l 2)], none⟩, ⟨.mv (.t 2), none⟩, ⟨.call (.c (.fn f_l_toIntS [] [])) [(.l 4)], none⟩, ⟨.call (.c (.fn f_s_SafeStep [] [])) [(.l 1), (.l 3), (.l 5)], none⟩, ⟨.mv (.l 6), none⟩, ⟨.extract 0 (.l 7), none⟩, ⟨.extract 1 (.l 7), none⟩, ⟨.mv (.l 8), none⟩, ⟨.mv (.l 9), none⟩] [(6, 10), (7, 11)])
 (.seq (.region [⟨.mv (.t 1), none⟩, ⟨.call (.c (.fn f_l_toLoadS [] [])) [(.l 0)], none⟩, ⟨.mv (.l 1), none⟩] [(8, 2)])
 (.seq (.region [⟨.mv (.t 2), none⟩, ⟨.call (.c (.fn f_l_toIntS [] [])) [(.l 0)], none⟩, ⟨.mv (.l 1), none⟩] [(9, 2)])
 (.seq (.region [⟨.load true 3 (.t 3), none⟩, ⟨.call (.c (.fn f_l_toRaft [] [])) [(.l 0)], none⟩, ⟨.mv (.t 8), none⟩, ⟨.mv (.t 9), none⟩, ⟨.call (.c (.fn f_i_SafeStep [] [])) [(.l 1), (.l 2), (.l 3)], none⟩, ⟨.mv (.l 4), none⟩, ⟨.extract 0 (.l 5), none⟩, ⟨.extract 1 (.l 5), none⟩, ⟨.mv (.l 6), none⟩, ⟨.mv (.l 7), none⟩] [(10, 8), (11, 9)])
 (.seq (.seq (.region [⟨.mv (.t 10), none⟩, ⟨.mv (.t 6), none⟩, ⟨.call (.c (.fn f_l_eqIntS [] [])) [(.l 0), (.l 1)], none⟩, ⟨.un .not (.l 2), none⟩, ⟨.mv (.l 3), none⟩, ⟨.mv (.t 11), some ((.l 4), false)⟩, ⟨.mv (.t 7), some ((.l 4), false)⟩, ⟨.bin 2 .neq (.l 5) (.l 6), some ((.l 4), false)⟩, ⟨.pick (.l 4) (.c (.bool true)) (.l 7), none⟩] [(19, 8)])
 (.cond (.t 19) (.seq (.region [⟨.mv (.c (.bool false)), none⟩] [(4, 0)])
 .ret) .skip))
 (.seq (.seq (.region [⟨.mv (.t 8), none⟩, ⟨.mv (.t 1), none⟩, ⟨.call (.c (.fn f_l_toLoadS [] [])) [(.l 1)], none⟩, ⟨.call (.c (.fn f_l_eqLoadS [] [])) [(.l 0), (.l 2)], none⟩, ⟨.un .not (.l 3), none⟩] [(20, 4)])
 (.cond (.t 20) (.seq (.region [⟨.mv (.c (.bool false)), none⟩] [(4, 0)])
 .ret) .skip))
 (.seq (.seq (.region [⟨.mv (.t 9), none⟩, ⟨.mv (.t 2), none⟩, ⟨.call (.c (.fn f_l_toIntS [] [])) [(.l 1)], none⟩, ⟨.call (.c (.fn f_l_eqIntS [] [])) [(.l 0), (.l 2)], none⟩, ⟨.un .not (.l 3), none⟩] [(21, 4)])
 (.cond (.t 21) (.seq (.region [⟨.mv (.c (.bool false)), none⟩] [(4, 0)])
 .ret) .skip))
 (.seq (.region [⟨.mv (.c (.int .i64 (1))), none⟩] [(12, 0)])
 (.seq (.region [⟨.mv (.t 8), none⟩, ⟨.mv (.t 12), none⟩, ⟨.call (.c (.fn f_l_markLoadS [] [])) [(.l 0), (.l 1)], none⟩, ⟨.mv (.l 2), none⟩] [(12, 3)])
 (.seq (.region [⟨.mv (.t 9), none⟩, ⟨.mv (.t 12), none⟩, ⟨.call (.c (.fn f_l_markIntS [] [])) [(.l 0), (.l 1)], none⟩, ⟨.mv (.l 2), none⟩] [(12, 3)])
 (.seq (.seq (.region [⟨.mv (.t 12), none⟩, ⟨.bin 0 .lss (.l 0) (.c (.int .i64 (0))), none⟩, ⟨.mv (.l 1), none⟩, ⟨.mv (.t 10), some ((.l 2), false)⟩, ⟨.mv (.t 6), some ((.l 2), false)⟩, ⟨.call (.c (.fn f_l_eqIntS [] [])) [(.l 3), (.l 4)], some ((.l 2), false)⟩, ⟨.un .not (.l 5), some ((.l 2), false)⟩, ⟨.pick (.l 2) (.c (.bool true)) (.l 6), none⟩, ⟨.mv (.l 7), none⟩, ⟨.mv (.t 11), some ((.l 8), false)⟩, ⟨.mv (.t 7), some ((.l 8), false)⟩, ⟨.bin 2 .neq (.l 9) (.l 10), some ((.l 8), false)⟩, ⟨.pick (.l 8) (.c (.bool true)) (.l 11), none⟩] [(22, 12)])
 (.cond (.t 22) (.seq (.region [⟨.mv (.c (.bool false)), none⟩] [(4, 0)])
 .ret) .skip))
 (.seq (.region [⟨.mv (.c (.int .i64 (1))), none⟩] [(13, 0)])
 (.seq (.region [⟨.mv (.t 10), none⟩, ⟨.mv (.t 13), none⟩, ⟨.call (.c (.fn f_l_markIntS [] [])) [(.l 0), (.l 1)], none⟩, ⟨.mv (.l 2), none⟩] [(13, 3)])
 (.seq (.region [⟨.mv (.c (.int .i64 (1))), none⟩] [(14, 0)])
 (.seq (.region [⟨.mv (.t 10), none⟩, ⟨.mv (.t 14), none⟩, ⟨.call (.c (.fn f_l_heldIntS [] [])) [(.l 0), (.l 1)], none⟩, ⟨.mv (.l 2), none⟩] [(14, 3)])
 (.seq (.seq (.region [⟨.mv (.t 14), none⟩, ⟨.bin 0 .lss (.l 0) (.c (.int .i64 (0))), none⟩] [(23, 1)])
 (.cond (.t 23) (.seq (.region [⟨.mv (.c (.bool false)), none⟩] [(4, 0)])
 .ret) .skip))
 (.seq (.seq (.region [⟨.mv (.t 14), none⟩, ⟨.mv (.t 13), none⟩, ⟨.bin 0 .neq (.l 0) (.l 1), none⟩] [(24, 2)])
 (.cond (.t 24) (.seq (.region [⟨.mv (.c (.bool false)), none⟩] [(4, 0)])
 .ret) .skip))
 (.seq (.region [⟨.load true 3 (.t 3), none⟩, ⟨.call (.c (.fn f_l_toRaft [] [])) [(.l 0)], none⟩, ⟨.mv (.t 1), none⟩, ⟨.call (.c (.fn f_l_toLoadS [] [])) [(.l 2)], none⟩, ⟨.mv (.t 2), none⟩, ⟨.call (.c (.fn f_l_toIntS [] [])) [(.l 4)], none⟩, ⟨.call (.c (.fn f_i_SafeStep [] [])) [(.l 1), (.l 3), (.l 5)], none⟩, ⟨.mv (.l 6), none⟩, ⟨.extract 0 (.l 7), none⟩, ⟨.extract 1 (.l 7), none⟩, ⟨.mv (.l 8), none⟩, ⟨.mv (.l 9), none⟩] [(15, 10), (16, 11)])
 (.seq (.seq (.region [⟨.mv (.t 15), none⟩, ⟨.mv (.t 6), none⟩, ⟨.call (.c (.fn f_l_eqIntS [] [])) [(.l 0), (.l 1)], none⟩, ⟨.un .not (.l 2), none⟩, ⟨.mv (.l 3), none⟩, ⟨.mv (.t 16), some ((.l 4), false)⟩, ⟨.mv (.t 7), some ((.l 4), false)⟩, ⟨.bin 2 .neq (.l 5) (.l 6), some ((.l 4), false)⟩, ⟨.pick (.l 4) (.c (.bool true)) (.l 7), none⟩] [(25, 8)])
 (.cond (.t 25) (.seq (.region [⟨.mv (.c (.bool false)), none⟩] [(4, 0)])
 .ret) .skip))
 (.seq (.region [⟨.mv (.c (.int .i64 (1))), none⟩] [(14, 0)])
 (.seq (.region [⟨.mv (.t 10), none⟩, ⟨.mv (.t 14), none⟩, ⟨.call (.c (.fn f_l_heldIntS [] [])) [(.l 0), (.l 1)], none⟩, ⟨.mv (.l 2), none⟩] [(14, 3)])
 (.seq (.seq (.region [⟨.mv (.t 14), none⟩, ⟨.bin 0 .lss (.l 0) (.c (.int .i64 (0))), none⟩] [(26, 1)])
 (.cond (.t 26) (.seq (.region [⟨.mv (.c (.bool false)), none⟩] [(4, 0)])
 .ret) .skip))
 (.seq (.seq (.region [⟨.mv (.t 14), none⟩, ⟨.mv (.t 13), none⟩, ⟨.bin 0 .neq (.l 0) (.l 1), none⟩] [(27, 2)])
 (.cond (.t 27) (.seq (.region [⟨.mv (.c (.bool false)), none⟩] [(4, 0)])
 .ret) .skip))
 (.seq (.region [⟨.mv (.c (.bool true)), none⟩] [(4, 0)])
 .ret)))))))))))))))))))))))))))))
def a_l_FnExactSafeStep : AFun := ⟨[0, 1, 2, 3, 6, 7, 8, 9, 10, 11, 12, 13, 14, 15, 16, 17, 18, 21, 26, 57, 62, 67, 86, 94, 97, 116, 121, 124], 125, c_l_FnExactSafeStep, [.tmp 4], 1⟩
def w_l_FnRafts_1 : ACode :=
 (.seq (.seq (.region [⟨.mv (.t 34), none⟩, ⟨.mv (.t 3), none⟩, ⟨.len (.l 1), none⟩, ⟨.bin 0 .lss (.l 0) (.l 2), none⟩] [(52, 3)])
 (.cond (.t 52) .skip (.exit 2)))
 (.seq (.block 3 (.seq (.region [⟨.mv (.t 32), none⟩, ⟨.mv (.t 34), none⟩, ⟨.bin 0 .shr (.l 0) (.l 1), none⟩, ⟨.bin 0 .and (.l 2) (.c (.int .i64 (1))), none⟩, ⟨.bin 0 .eql (.l 3) (.c (.int .i64 (1))), none⟩] [(53, 4)])
 (.cond (.t 53) (.region [⟨.mv (.t 33), none⟩, ⟨.mv (.t 34), none⟩, ⟨.buildSlice 1 1 [.int .i64 (0)] [(0, 1, (.l 1))], none⟩, ⟨.append false 1 8 (.l 0) (.l 2), none⟩, ⟨.mv (.l 3), none⟩] [(33, 4)]) .skip)))
 (.region [⟨.mv (.t 34), none⟩, ⟨.bin 0 .add (.l 0) (.c (.int .i64 (1))), none⟩, ⟨.mv (.l 1), none⟩] [(34, 2)])))
def w_l_FnRafts_2 : ACode :=
 (.seq (.seq (.region [⟨.mv (.t 32), none⟩, ⟨.mv (.t 3), none⟩, ⟨.len (.l 1), none⟩, ⟨.bin 0 .shl (.c (.int .i64 (1))) (.l 2), none⟩, ⟨.bin 0 .lss (.l 0) (.l 3), none⟩] [(51, 4)])
 (.cond (.t 51) .skip (.exit 0)))
 (.seq (.block 1 (.seq (.region [⟨.buildSlice 1 0 [] [], none⟩, ⟨.mv (.l 0), none⟩] [(33, 1)])
 (.seq (.seq (.region [⟨.mv (.c (.int .i64 (0))), none⟩] [(34, 0)])
 (.block 2 (.loop w_l_FnRafts_1)))
 (.seq (.region [⟨.load true 3 (.t 2), none⟩, ⟨.mv (.t 3), none⟩, ⟨.mv (.t 33), none⟩, ⟨.call (.c (.fn f_i_RaftSide [] [])) [(.l 0), (.l 1), (.l 2)], none⟩, ⟨.mv (.l 3), none⟩, ⟨.extract 0 (.l 4), none⟩, ⟨.extract 1 (.l 4), none⟩, ⟨.mv (.l 5), none⟩, ⟨.mv (.l 6), none⟩] [(35, 7), (36, 8)])
 (.seq (.seq (.region [⟨.mv (.t 36), none⟩, ⟨.un .not (.l 0), none⟩] [(54, 1)])
 (.cond (.t 54) (.seq (.region [⟨.mv (.c (.bool false)), none⟩] [(1, 0)])
 .ret) .skip))
 (.seq (.region [⟨.mv (.t 35), none⟩, ⟨.bin 0 .eql (.l 0) (.c (.int .i64 (0))), none⟩] [(55, 1)])
 (.cond (.t 55) (.region [⟨.mv (.t 31), none⟩, ⟨.bin 0 .add (.l 0) (.c (.int .i64 (1))), none⟩, ⟨.mv (.l 1), none⟩] [(31, 2)]) .skip)))))))
 (.region [⟨.mv (.t 32), none⟩, ⟨.bin 0 .add (.l 0) (.c (.int .i64 (1))), none⟩, ⟨.mv (.l 1), none⟩] [(32, 2)])))
def w_l_FnRafts_3 : ACode :=
 (.seq (.seq (.region [⟨.mv (.t 40), none⟩, ⟨.mv (.t 20), none⟩, ⟨.len (.l 1), none⟩, ⟨.bin 0 .lss (.l 0) (.l 2), none⟩] [(59, 3)])
 (.cond (.t 59) .skip (.exit 6)))
 (.seq (.block 7 (.seq (.region [⟨.mv (.t 21), none⟩, ⟨.mv (.t 38), none⟩, ⟨.sliceSl 1 (.l 0) none (some (.l 1)) none, none⟩, ⟨.mv (.t 40), none⟩, ⟨.call (.c (.fn f_l_rHas [] [])) [(.l 2), (.l 3)], none⟩] [(60, 4)])
 (.cond (.t 60) (.region [⟨.mv (.t 39), none⟩, ⟨.mv (.t 40), none⟩, ⟨.buildSlice 1 1 [.int .i64 (0)] [(0, 1, (.l 1))], none⟩, ⟨.append false 1 8 (.l 0) (.l 2), none⟩, ⟨.mv (.l 3), none⟩] [(39, 4)]) .skip)))
 (.region [⟨.mv (.t 40), none⟩, ⟨.bin 0 .add (.l 0) (.c (.int .i64 (1))), none⟩, ⟨.mv (.l 1), none⟩] [(40, 2)])))
def w_l_FnRafts_4 : ACode :=
 (.seq (.seq (.region [⟨.mv (.t 38), none⟩, ⟨.mv (.t 21), none⟩, ⟨.len (.l 1), none⟩, ⟨.bin 0 .leq (.l 0) (.l 2), none⟩] [(58, 3)])
 (.cond (.t 58) .skip (.exit 4)))
 (.seq (.block 5 (.seq (.region [⟨.buildSlice 1 0 [] [], none⟩, ⟨.mv (.l 0), none⟩] [(39, 1)])
 (.seq (.seq (.region [⟨.mv (.c (.int .i64 (0))), none⟩] [(40, 0)])
 (.block 6 (.loop w_l_FnRafts_3)))
 (.seq (.region [⟨.load true 3 (.t 19), none⟩, ⟨.mv (.t 20), none⟩, ⟨.mv (.t 39), none⟩, ⟨.call (.c (.fn f_i_RaftSide [] [])) [(.l 0), (.l 1), (.l 2)], none⟩, ⟨.mv (.l 3), none⟩, ⟨.extract 0 (.l 4), none⟩, ⟨.extract 1 (.l 4), none⟩, ⟨.mv (.l 5), none⟩, ⟨.mv (.l 6), none⟩] [(41, 7), (42, 8)])
 (.seq (.seq (.region [⟨.mv (.t 42), none⟩, ⟨.un .not (.l 0), none⟩] [(61, 1)])
 (.cond (.t 61) (.seq (.region [⟨.mv (.c (.bool false)), none⟩] [(1, 0)])
 .ret) .skip))
 (.seq (.region [⟨.mv (.t 41), none⟩, ⟨.bin 0 .neq (.l 0) (.c (.int .i64 (0))), none⟩, ⟨.mv (.l 1), none⟩, ⟨.mv (.t 37), some ((.l 2), true)⟩, ⟨.bin 0 .lss (.l 3) (.c (.int .i64 (0))), some ((.l 2), true)⟩, ⟨.pick (.l 2) (.l 4) (.c (.bool false)), none⟩] [(62, 5)])
 (.cond (.t 62) (.region [⟨.mv (.t 38), none⟩, ⟨.mv (.l 0), none⟩] [(37, 1)]) .skip)))))))
 (.region [⟨.mv (.t 38), none⟩, ⟨.bin 0 .add (.l 0) (.c (.int .i64 (1))), none⟩, ⟨.mv (.l 1), none⟩] [(38, 2)])))
def c_l_FnRafts : ACode :=
 (.seq (.region [⟨.mv (.c (.bool false)), none⟩] [(1, 0)])
 (.seq (.seq (.region [⟨.mv (.t 0), none⟩, ⟨.call (.c (.fn f_l_rBig [] [])) [(.l 0)], none⟩] [(43, 1)])
 (.cond (.t 43) (.seq (.region [⟨.mv (.c (.bool true)), none⟩] [(1, 0)])
 .ret) .skip))
 (.seq (.region [⟨.mv (.t 0), none⟩, ⟨.call (.c (.fn f_s_DrawRaftSide [] [])) [(.l 0)], none⟩, ⟨.mv (.l 1), none⟩, ⟨.extract 0 (.l 2), none⟩, ⟨.extract 1 (.l 2), none⟩, ⟨.extract 2 (.l 2), none⟩, ⟨.alloc [.int .i64 (0), .int .i64 (0), .int .i64 (0)], none⟩, ⟨.store 3 (.l 6) (.l 3), none⟩, ⟨.mv (.l 4), none⟩, ⟨.mv (.l 5), none⟩] [(2, 6), (3, 8), (4, 9)])
 (.seq (.region [⟨.load true 3 (.t 2), none⟩, ⟨.mv (.t 3), none⟩, ⟨.mv (.t 4), none⟩, ⟨.call (.c (.fn f_i_RaftSide [] [])) [(.l 0), (.l 1), (.l 2)], none⟩, ⟨.mv (.l 3), none⟩, ⟨.extract 0 (.l 4), none⟩, ⟨.extract 1 (.l 4), none⟩, ⟨.mv (.l 5), none⟩, ⟨.mv (.l 6), none⟩] [(5, 7), (6, 8)])
 (.seq (.seq (.region [⟨.load true 3 (.t 2), none⟩, ⟨.mv (.t 3), none⟩, ⟨.mv (.t 4), none⟩, ⟨.call (.c (.fn f_s_RaftSide [] [])) [(.l 0), (.l 1), (.l 2)], none⟩, ⟨.mv (.l 3), none⟩, ⟨.extract 0 (.l 4), none⟩, ⟨.extract 1 (.l 4), none⟩, ⟨.mv (.l 5), none⟩, ⟨.mv (.l 6), none⟩] [(7, 7), (8, 8)])
 (.seq (.region [⟨.mv (.t 5), none⟩, ⟨.mv (.t 7), none⟩, ⟨.bin 0 .neq (.l 0) (.l 1), none⟩, ⟨.mv (.l 2), none⟩, ⟨.mv (.t 6), some ((.l 3), false)⟩, ⟨.mv (.t 8), some ((.l 3), false)⟩, ⟨.bin 2 .neq (.l 4) (.l 5), some ((.l 3), false)⟩, ⟨.pick (.l 3) (.c (.bool true)) (.l 6), none⟩] [(44, 7)])
 (.cond (.t 44) (.seq (.region [⟨.mv (.c (.bool false)), none⟩] [(1, 0)])
 .ret) .skip)))
 (.seq (.region [⟨.load true 3 (.t 2), none⟩, ⟨.mv (.t 3), none⟩, ⟨.mv (.t 4), none⟩, ⟨.call (.c (.fn f_i_RaftReserve [] [])) [(.l 0), (.l 1), (.l 2)], none⟩, ⟨.mv (.l 3), none⟩, ⟨.extract 0 (.l 4), none⟩, ⟨.extract 1 (.l 4), none⟩, ⟨.extract 2 (.l 4), none⟩, ⟨.mv (.l 5), none⟩, ⟨.mv (.l 6), none⟩, ⟨.mv (.l 7), none⟩] [(9, 8), (10, 9), (11, 10)])
 (.seq (.seq (.region [⟨.load true 3 (.t 2), none⟩, ⟨.mv (.t 3), none⟩, ⟨.mv (.t 4), none⟩, ⟨.call (.c (.fn f_s_RaftReserve [] [])) [(.l 0), (.l 1), (.l 2)], none⟩, ⟨.mv (.l 3), none⟩, ⟨.extract 0 (.l 4), none⟩, ⟨.extract 1 (.l 4), none⟩, ⟨.extract 2 (.l 4), none⟩, ⟨.mv (.l 5), none⟩, ⟨.mv (.l 6), none⟩, ⟨.mv (.l 7), none⟩] [(12, 8), (13, 9), (14, 10)])
 (.seq (.region [⟨.mv (.t 9), none⟩, ⟨.mv (.t 12), none⟩, ⟨.bin 0 .neq (.l 0) (.l 1), none⟩, ⟨.mv (.l 2), none⟩, ⟨.mv (.t 10), some ((.l 3), false)⟩, ⟨.mv (.t 13), some ((.l 3), false)⟩, ⟨.bin 0 .neq (.l 4) (.l 5), some ((.l 3), false)⟩, ⟨.pick (.l 3) (.c (.bool true)) (.l 6), none⟩, ⟨.mv (.l 7), none⟩, ⟨.mv (.t 11), some ((.l 8), false)⟩, ⟨.mv (.t 14), some ((.l 8), false)⟩, ⟨.bin 2 .neq (.l 9) (.l 10), some ((.l 8), false)⟩, ⟨.pick (.l 8) (.c (.bool true)) (.l 11), none⟩, ⟨.mv (.l 12), none⟩, ⟨.mv (.t 11), some ((.l 13), false)⟩, ⟨.mv (.t 6), some ((.l 13), false)⟩, ⟨.bin 2 .neq (.l 14) (.l 15), some ((.l 13), false)⟩, ⟨.pick (.l 13) (.c (.bool true)) (.l 16), none⟩] [(45, 17)])
 (.cond (.t 45) (.seq (.region [⟨.mv (.c (.bool false)), none⟩] [(1, 0)])
 .ret) .skip)))
 (.seq (.region [⟨.load true 3 (.t 2), none⟩, ⟨.mv (.t 3), none⟩, ⟨.call (.c (.fn f_i_SafeSets [] [])) [(.l 0), (.l 1)], none⟩, ⟨.mv (.l 2), none⟩, ⟨.extract 0 (.l 3), none⟩, ⟨.extract 1 (.l 3), none⟩, ⟨.mv (.l 4), none⟩, ⟨.mv (.l 5), none⟩] [(15, 6), (16, 7)])
 (.seq (.seq (.region [⟨.load true 3 (.t 2), none⟩, ⟨.mv (.t 3), none⟩, ⟨.call (.c (.fn f_s_SafeSets [] [])) [(.l 0), (.l 1)], none⟩, ⟨.mv (.l 2), none⟩, ⟨.extract 0 (.l 3), none⟩, ⟨.extract 1 (.l 3), none⟩, ⟨.mv (.l 4), none⟩, ⟨.mv (.l 5), none⟩] [(17, 6), (18, 7)])
 (.seq (.region [⟨.mv (.t 15), none⟩, ⟨.mv (.t 17), none⟩, ⟨.bin 0 .neq (.l 0) (.l 1), none⟩, ⟨.mv (.l 2), none⟩, ⟨.mv (.t 16), some ((.l 3), false)⟩, ⟨.mv (.t 18), some ((.l 3), false)⟩, ⟨.bin 2 .neq (.l 4) (.l 5), some ((.l 3), false)⟩, ⟨.pick (.l 3) (.c (.bool true)) (.l 6), none⟩, ⟨.mv (.l 7), none⟩, ⟨.mv (.t 6), some ((.l 8), false)⟩, ⟨.mv (.l 9), some ((.l 8), false)⟩, ⟨.mv (.t 16), some ((.l 10), true)⟩, ⟨.un .not (.l 11), some ((.l 10), true)⟩, ⟨.pick (.l 10) (.l 12) (.c (.bool false)), some ((.l 8), false)⟩, ⟨.pick (.l 8) (.c (.bool true)) (.l 13), none⟩] [(46, 14)])
 (.cond (.t 46) (.seq (.region [⟨.mv (.c (.bool false)), none⟩] [(1, 0)])
 .ret) .skip)))
 (.seq (.region [⟨.mv (.t 0), none⟩, ⟨.call (.c (.fn f_s_DrawIsSafeOrder [] [])) [(.l 0)], none⟩, ⟨.mv (.l 1), none⟩, ⟨.extract 0 (.l 2), none⟩, ⟨.extract 1 (.l 2), none⟩, ⟨.extract 2 (.l 2), none⟩, ⟨.alloc [.int .i64 (0), .int .i64 (0), .int .i64 (0)], none⟩, ⟨.store 3 (.l 6) (.l 3), none⟩, ⟨.mv (.l 4), none⟩, ⟨.mv (.l 5), none⟩] [(19, 6), (20, 8), (21, 9)])
 (.seq (.region [⟨.load true 3 (.t 19), none⟩, ⟨.mv (.t 20), none⟩, ⟨.mv (.t 21), none⟩, ⟨.call (.c (.fn f_i_IsSafeOrder [] [])) [(.l 0), (.l 1), (.l 2)], none⟩, ⟨.mv (.l 3), none⟩, ⟨.extract 0 (.l 4), none⟩, ⟨.extract 1 (.l 4), none⟩, ⟨.mv (.l 5), none⟩, ⟨.mv (.l 6), none⟩] [(22, 7), (23, 8)])
 (.seq (.seq (.region [⟨.load true 3 (.t 19), none⟩, ⟨.mv (.t 20), none⟩, ⟨.mv (.t 21), none⟩, ⟨.call (.c (.fn f_s_IsSafeOrder [] [])) [(.l 0), (.l 1), (.l 2)], none⟩, ⟨.mv (.l 3), none⟩, ⟨.extract 0 (.l 4), none⟩, ⟨.extract 1 (.l 4), none⟩, ⟨.mv (.l 5), none⟩, ⟨.mv (.l 6), none⟩] [(24, 7), (25, 8)])
 (.seq (.region [⟨.mv (.t 22), none⟩, ⟨.mv (.t 24), none⟩, ⟨.bin 2 .neq (.l 0) (.l 1), none⟩, ⟨.mv (.l 2), none⟩, ⟨.mv (.t 23), some ((.l 3), false)⟩, ⟨.mv (.t 25), some ((.l 3), false)⟩, ⟨.bin 2 .neq (.l 4) (.l 5), some ((.l 3), false)⟩, ⟨.pick (.l 3) (.c (.bool true)) (.l 6), none⟩] [(47, 7)])
 (.cond (.t 47) (.seq (.region [⟨.mv (.c (.bool false)), none⟩] [(1, 0)])
 .ret) .skip)))
 (.seq (.region [⟨.load true 3 (.t 19), none⟩, ⟨.mv (.t 20), none⟩, ⟨.mv (.t 21), none⟩, ⟨.call (.c (.fn f_i_FirstTip [] [])) [(.l 0), (.l 1), (.l 2)], none⟩, ⟨.mv (.l 3), none⟩, ⟨.extract 0 (.l 4), none⟩, ⟨.extract 1 (.l 4), none⟩, ⟨.mv (.l 5), none⟩, ⟨.mv (.l 6), none⟩] [(26, 7), (27, 8)])
 (.seq (.seq (.region [⟨.load true 3 (.t 19), none⟩, ⟨.mv (.t 20), none⟩, ⟨.mv (.t 21), none⟩, ⟨.call (.c (.fn f_s_FirstTip [] [])) [(.l 0), (.l 1), (.l 2)], none⟩, ⟨.mv (.l 3), none⟩, ⟨.extract 0 (.l 4), none⟩, ⟨.extract 1 (.l 4), none⟩, ⟨.mv (.l 5), none⟩, ⟨.mv (.l 6), none⟩] [(28, 7), (29, 8)])
 (.seq (.region [⟨.mv (.t 26), none⟩, ⟨.mv (.t 28), none⟩, ⟨.bin 0 .neq (.l 0) (.l 1), none⟩, ⟨.mv (.l 2), none⟩, ⟨.mv (.t 27), some ((.l 3), false)⟩, ⟨.mv (.t 29), some ((.l 3), false)⟩, ⟨.bin 2 .neq (.l 4) (.l 5), some ((.l 3), false)⟩, ⟨.pick (.l 3) (.c (.bool true)) (.l 6), none⟩, ⟨.mv (.l 7), none⟩, ⟨.mv (.t 27), some ((.l 8), false)⟩, ⟨.mv (.t 23), some ((.l 8), false)⟩, ⟨.mv (.l 10), some ((.l 8), false)⟩, ⟨.mv (.t 22), some ((.l 11), true)⟩, ⟨.un .not (.l 12), some ((.l 11), true)⟩, ⟨.pick (.l 11) (.l 13) (.c (.bool false)), some ((.l 8), false)⟩, ⟨.bin 2 .neq (.l 9) (.l 14), some ((.l 8), false)⟩, ⟨.pick (.l 8) (.c (.bool true)) (.l 15), none⟩] [(48, 16)])
 (.cond (.t 48) (.seq (.region [⟨.mv (.c (.bool false)), none⟩] [(1, 0)])
 .ret) .skip)))
 (.seq (.region [⟨.mv (.t 0), none⟩, ⟨.call (.c (.fn f_s_DrawIsRaft [] [])) [(.l 0)], none⟩, ⟨.alloc [.int .i64 (0), .int .i64 (0), .int .i64 (0)], none⟩, ⟨.store 3 (.l 2) (.l 1), none⟩] [(30, 2)])
 (.seq (.seq (.draw [⟨.load true 3 (.t 30), none, []⟩, ⟨.load true 3 (.t 30), none, []⟩, ⟨.call (.c (.fn f_i_IsRaft [] [])) [(.l 0)], none, [(1, ⟨.load true 3 (.t 30), none⟩)]⟩, ⟨.call (.c (.fn f_s_IsRaft [] [])) [(.l 1)], none, []⟩, ⟨.bin 2 .neq (.l 2) (.l 3), none, []⟩, ⟨.mv (.l 4), none, []⟩, ⟨.mv (.t 6), some ((.l 5), false), []⟩, ⟨.mv (.l 6), some ((.l 5), false), []⟩, ⟨.mv (.t 5), some ((.l 7), true), []⟩, ⟨.bin 0 .eql (.l 8) (.c (.int .i64 (0))), some ((.l 7), true), []⟩, ⟨.mv (.t 9), some ((.l 7), true), []⟩, ⟨.bin 0 .geq (.l 10) (.c (.int .i64 (0))), some ((.l 7), true), []⟩, ⟨.mv (.l 11), some ((.l 7), true), []⟩, ⟨.mv (.t 10), some ((.l 12), true), []⟩, ⟨.bin 0 .geq (.l 13) (.c (.int .i64 (0))), some ((.l 12), true), []⟩, ⟨.pick (.l 12) (.l 14) (.c (.bool false)), some ((.l 7), true), []⟩, ⟨.bin 2 .neq (.l 9) (.l 15), some ((.l 7), true), []⟩, ⟨.pick (.l 7) (.l 16) (.c (.bool false)), some ((.l 5), false), []⟩, ⟨.pick (.l 5) (.c (.bool true)) (.l 17), none, []⟩] [(49, 18)])
 (.cond (.t 49) (.seq (.region [⟨.mv (.c (.bool false)), none⟩] [(1, 0)])
 .ret) .skip))
 (.seq (.seq (.region [⟨.mv (.t 16), none⟩] [(50, 0)])
 (.cond (.t 50) (.seq (.region [⟨.mv (.c (.int .i64 (0))), none⟩] [(31, 0)])
 (.seq (.seq (.region [⟨.mv (.c (.int .i64 (0))), none⟩] [(32, 0)])
 (.block 0 (.loop w_l_FnRafts_2)))
 (.seq (.region [⟨.mv (.t 31), none⟩, ⟨.mv (.t 15), none⟩, ⟨.bin 0 .neq (.l 0) (.l 1), none⟩] [(56, 2)])
 (.cond (.t 56) (.seq (.region [⟨.mv (.c (.bool false)), none⟩] [(1, 0)])
 .ret) .skip)))) .skip))
 (.seq (.seq (.region [⟨.mv (.t 23), none⟩, ⟨.un .not (.l 0), none⟩] [(57, 1)])
 (.cond (.t 57) (.seq (.region [⟨.mv (.c (.bool true)), none⟩] [(1, 0)])
 .ret) .skip))
 (.seq (.region [⟨.mv (.c (.int .i64 (-1))), none⟩] [(37, 0)])
 (.seq (.seq (.region [⟨.mv (.c (.int .i64 (1))), none⟩] [(38, 0)])
 (.block 4 (.loop w_l_FnRafts_4)))
 (.seq (.region [⟨.mv (.t 22), none⟩, ⟨.mv (.t 37), none⟩, ⟨.bin 0 .lss (.l 1) (.c (.int .i64 (0))), none⟩, ⟨.bin 2 .eql (.l 0) (.l 2), none⟩, ⟨.mv (.l 3), none⟩, ⟨.mv (.t 22), some ((.l 4), true)⟩, ⟨.mv (.l 5), some ((.l 4), true)⟩, ⟨.mv (.t 26), some ((.l 6), false)⟩, ⟨.mv (.t 37), some ((.l 6), false)⟩, ⟨.bin 0 .eql (.l 7) (.l 8), some ((.l 6), false)⟩, ⟨.pick (.l 6) (.c (.bool true)) (.l 9), some ((.l 4), true)⟩, ⟨.pick (.l 4) (.l 10) (.c (.bool false)), none⟩, ⟨.mv (.l 11), none⟩] [(1, 12)])
 .ret)))))))))))))))))))))
def a_l_FnRafts : AFun := ⟨[0, 2, 3, 4, 5, 6, 7, 8, 9, 10, 11, 12, 13, 14, 15, 16, 17, 18, 19, 20, 21, 22, 23, 24, 25, 26, 27, 28, 29, 30, 31, 32, 33, 34, 35, 36, 37, 38, 39, 40, 41, 42, 43, 45, 73, 107, 134, 162, 193, 214, 215, 220, 227, 234, 247, 249, 254, 256, 260, 267, 274, 287, 293], 307, c_l_FnRafts, [.tmp 1], 1⟩
def w_l_FnSafeOrders_1 : ACode :=
 (.seq (.seq (.region [⟨.mv (.t 41), none⟩, ⟨.bin 0 .geq (.l 0) (.c (.int .i64 (0))), none⟩] [(60, 1)])
 (.cond (.t 60) .skip (.exit 0)))
 (.seq (.block 1 (.region [⟨.mv (.t 40), none⟩, ⟨.mv (.t 12), none⟩, ⟨.mv (.t 41), none⟩, ⟨.indexAddrS 1 (.l 1) (.l 2), none⟩, ⟨.load false 1 (.l 3), none⟩, ⟨.buildSlice 1 1 [.int .i64 (0)] [(0, 1, (.l 4))], none⟩, ⟨.append false 1 8 (.l 0) (.l 5), none⟩, ⟨.mv (.l 6), none⟩] [(40, 7)]))
 (.region [⟨.mv (.t 41), none⟩, ⟨.bin 0 .sub (.l 0) (.c (.int .i64 (1))), none⟩, ⟨.mv (.l 1), none⟩] [(41, 2)])))
def c_l_FnSafeOrders : ACode :=
 (.seq (.region [⟨.mv (.c (.bool false)), none⟩] [(1, 0)])
 (.seq (.seq (.region [⟨.mv (.t 0), none⟩, ⟨.call (.c (.fn f_l_rBig [] [])) [(.l 0)], none⟩] [(48, 1)])
 (.cond (.t 48) (.seq (.region [⟨.mv (.c (.bool true)), none⟩] [(1, 0)])
 .ret) .skip))
 (.seq (.region [⟨.mv (.t 0), none⟩, ⟨.call (.c (.fn f_s_DrawSafeOrder [] [])) [(.l 0)], none⟩, ⟨.mv (.l 1), none⟩, ⟨.extract 0 (.l 2), none⟩, ⟨.extract 1 (.l 2), none⟩, ⟨.alloc [.int .i64 (0), .int .i64 (0), .int .i64 (0)], none⟩, ⟨.store 3 (.l 5) (.l 3), none⟩, ⟨.mv (.l 4), none⟩] [(2, 5), (3, 7)])
 (.seq (.region [⟨.load true 3 (.t 2), none⟩, ⟨.mv (.t 3), none⟩, ⟨.call (.c (.fn f_i_SafeOrder [] [])) [(.l 0), (.l 1)], none⟩, ⟨.mv (.l 2), none⟩, ⟨.extract 0 (.l 3), none⟩, ⟨.extract 1 (.l 3), none⟩, ⟨.mv (.l 4), none⟩, ⟨.mv (.l 5), none⟩] [(4, 6), (5, 7)])
 (.seq (.seq (.region [⟨.load true 3 (.t 2), none⟩, ⟨.mv (.t 3), none⟩, ⟨.call (.c (.fn f_s_SafeOrder [] [])) [(.l 0), (.l 1)], none⟩, ⟨.mv (.l 2), none⟩, ⟨.extract 0 (.l 3), none⟩, ⟨.extract 1 (.l 3), none⟩, ⟨.mv (.l 4), none⟩, ⟨.mv (.l 5), none⟩] [(6, 6), (7, 7)])
 (.seq (.region [⟨.mv (.t 5), none⟩, ⟨.mv (.t 7), none⟩, ⟨.bin 2 .neq (.l 0) (.l 1), none⟩, ⟨.mv (.l 2), none⟩, ⟨.mv (.t 4), some ((.l 3), false)⟩, ⟨.mv (.t 6), some ((.l 3), false)⟩, ⟨.call (.c (.fn f_l_rInts [] [])) [(.l 4), (.l 5)], some ((.l 3), false)⟩, ⟨.un .not (.l 6), some ((.l 3), false)⟩, ⟨.pick (.l 3) (.c (.bool true)) (.l 7), none⟩] [(49, 8)])
 (.cond (.t 49) (.seq (.region [⟨.mv (.c (.bool false)), none⟩] [(1, 0)])
 .ret) .skip)))
 (.seq (.region [⟨.load true 3 (.t 2), none⟩, ⟨.mv (.t 3), none⟩, ⟨.call (.c (.fn f_i_CountSafe [] [])) [(.l 0), (.l 1)], none⟩, ⟨.mv (.l 2), none⟩, ⟨.extract 0 (.l 3), none⟩, ⟨.extract 1 (.l 3), none⟩, ⟨.mv (.l 4), none⟩, ⟨.mv (.l 5), none⟩] [(8, 6), (9, 7)])
 (.seq (.seq (.region [⟨.load true 3 (.t 2), none⟩, ⟨.mv (.t 3), none⟩, ⟨.call (.c (.fn f_s_CountSafe [] [])) [(.l 0), (.l 1)], none⟩, ⟨.mv (.l 2), none⟩, ⟨.extract 0 (.l 3), none⟩, ⟨.extract 1 (.l 3), none⟩, ⟨.mv (.l 4), none⟩, ⟨.mv (.l 5), none⟩] [(10, 6), (11, 7)])
 (.seq (.region [⟨.mv (.t 8), none⟩, ⟨.mv (.t 10), none⟩, ⟨.bin 0 .neq (.l 0) (.l 1), none⟩, ⟨.mv (.l 2), none⟩, ⟨.mv (.t 9), some ((.l 3), false)⟩, ⟨.mv (.t 11), some ((.l 3), false)⟩, ⟨.bin 2 .neq (.l 4) (.l 5), some ((.l 3), false)⟩, ⟨.pick (.l 3) (.c (.bool true)) (.l 6), none⟩, ⟨.mv (.l 7), none⟩, ⟨.mv (.t 5), some ((.l 8), false)⟩, ⟨.mv (.t 9), some ((.l 8), false)⟩, ⟨.mv (.l 10), some ((.l 8), false)⟩, ⟨.mv (.t 8), some ((.l 11), true)⟩, ⟨.bin 0 .gtr (.l 12) (.c (.int .i64 (0))), some ((.l 11), true)⟩, ⟨.pick (.l 11) (.l 13) (.c (.bool false)), some ((.l 8), false)⟩, ⟨.bin 2 .neq (.l 9) (.l 14), some ((.l 8), false)⟩, ⟨.pick (.l 8) (.c (.bool true)) (.l 15), none⟩] [(50, 16)])
 (.cond (.t 50) (.seq (.region [⟨.mv (.c (.bool false)), none⟩] [(1, 0)])
 .ret) .skip)))
 (.seq (.region [⟨.load true 3 (.t 2), none⟩, ⟨.mv (.t 3), none⟩, ⟨.call (.c (.fn f_i_UnloadOrder [] [])) [(.l 0), (.l 1)], none⟩, ⟨.mv (.l 2), none⟩, ⟨.extract 0 (.l 3), none⟩, ⟨.extract 1 (.l 3), none⟩, ⟨.mv (.l 4), none⟩, ⟨.mv (.l 5), none⟩] [(12, 6), (13, 7)])
 (.seq (.seq (.region [⟨.load true 3 (.t 2), none⟩, ⟨.mv (.t 3), none⟩, ⟨.call (.c (.fn f_s_UnloadOrder [] [])) [(.l 0), (.l 1)], none⟩, ⟨.mv (.l 2), none⟩, ⟨.extract 0 (.l 3), none⟩, ⟨.extract 1 (.l 3), none⟩, ⟨.mv (.l 4), none⟩, ⟨.mv (.l 5), none⟩] [(14, 6), (15, 7)])
 (.seq (.region [⟨.mv (.t 13), none⟩, ⟨.mv (.t 15), none⟩, ⟨.bin 2 .neq (.l 0) (.l 1), none⟩, ⟨.mv (.l 2), none⟩, ⟨.mv (.t 13), some ((.l 3), false)⟩, ⟨.mv (.t 5), some ((.l 3), false)⟩, ⟨.bin 2 .neq (.l 4) (.l 5), some ((.l 3), false)⟩, ⟨.pick (.l 3) (.c (.bool true)) (.l 6), none⟩, ⟨.mv (.l 7), none⟩, ⟨.mv (.t 12), some ((.l 8), false)⟩, ⟨.mv (.t 14), some ((.l 8), false)⟩, ⟨.call (.c (.fn f_l_rInts [] [])) [(.l 9), (.l 10)], some ((.l 8), false)⟩, ⟨.un .not (.l 11), some ((.l 8), false)⟩, ⟨.pick (.l 8) (.c (.bool true)) (.l 12), none⟩] [(51, 13)])
 (.cond (.t 51) (.seq (.region [⟨.mv (.c (.bool false)), none⟩] [(1, 0)])
 .ret) .skip)))
 (.seq (.region [⟨.load true 3 (.t 2), none⟩, ⟨.mv (.t 3), none⟩, ⟨.call (.c (.fn f_i_LeastOwn [] [])) [(.l 0), (.l 1)], none⟩, ⟨.mv (.l 2), none⟩, ⟨.extract 0 (.l 3), none⟩, ⟨.extract 1 (.l 3), none⟩, ⟨.mv (.l 4), none⟩, ⟨.mv (.l 5), none⟩] [(16, 6), (17, 7)])
 (.seq (.seq (.region [⟨.load true 3 (.t 2), none⟩, ⟨.mv (.t 3), none⟩, ⟨.call (.c (.fn f_s_LeastOwn [] [])) [(.l 0), (.l 1)], none⟩, ⟨.mv (.l 2), none⟩, ⟨.extract 0 (.l 3), none⟩, ⟨.extract 1 (.l 3), none⟩, ⟨.mv (.l 4), none⟩, ⟨.mv (.l 5), none⟩] [(18, 6), (19, 7)])
 (.seq (.region [⟨.mv (.t 16), none⟩, ⟨.mv (.t 18), none⟩, ⟨.bin 0 .neq (.l 0) (.l 1), none⟩, ⟨.mv (.l 2), none⟩, ⟨.mv (.t 17), some ((.l 3), false)⟩, ⟨.mv (.t 19), some ((.l 3), false)⟩, ⟨.bin 2 .neq (.l 4) (.l 5), some ((.l 3), false)⟩, ⟨.pick (.l 3) (.c (.bool true)) (.l 6), none⟩] [(52, 7)])
 (.cond (.t 52) (.seq (.region [⟨.mv (.c (.bool false)), none⟩] [(1, 0)])
 .ret) .skip)))
 (.seq (.region [⟨.load true 3 (.t 2), none⟩, ⟨.mv (.t 3), none⟩, ⟨.call (.c (.fn f_i_PairSteps [] [])) [(.l 0), (.l 1)], none⟩, ⟨.mv (.l 2), none⟩, ⟨.extract 0 (.l 3), none⟩, ⟨.extract 1 (.l 3), none⟩, ⟨.mv (.l 4), none⟩, ⟨.mv (.l 5), none⟩] [(20, 6), (21, 7)])
 (.seq (.seq (.region [⟨.load true 3 (.t 2), none⟩, ⟨.mv (.t 3), none⟩, ⟨.call (.c (.fn f_s_PairSteps [] [])) [(.l 0), (.l 1)], none⟩, ⟨.mv (.l 2), none⟩, ⟨.extract 0 (.l 3), none⟩, ⟨.extract 1 (.l 3), none⟩, ⟨.mv (.l 4), none⟩, ⟨.mv (.l 5), none⟩] [(22, 6), (23, 7)])
 (.seq (.region [⟨.mv (.t 20), none⟩, ⟨.mv (.t 22), none⟩, ⟨.bin 0 .neq (.l 0) (.l 1), none⟩, ⟨.mv (.l 2), none⟩, ⟨.mv (.t 21), some ((.l 3), false)⟩, ⟨.mv (.t 23), some ((.l 3), false)⟩, ⟨.bin 2 .neq (.l 4) (.l 5), some ((.l 3), false)⟩, ⟨.pick (.l 3) (.c (.bool true)) (.l 6), none⟩, ⟨.mv (.l 7), none⟩, ⟨.mv (.t 5), some ((.l 8), false)⟩, ⟨.mv (.l 9), some ((.l 8), false)⟩, ⟨.mv (.t 21), some ((.l 10), true)⟩, ⟨.un .not (.l 11), some ((.l 10), true)⟩, ⟨.pick (.l 10) (.l 12) (.c (.bool false)), some ((.l 8), false)⟩, ⟨.pick (.l 8) (.c (.bool true)) (.l 13), none⟩] [(53, 14)])
 (.cond (.t 53) (.seq (.region [⟨.mv (.c (.bool false)), none⟩] [(1, 0)])
 .ret) .skip)))
 (.seq (.region [⟨.load true 3 (.t 2), none⟩, ⟨.mv (.t 3), none⟩, ⟨.call (.c (.fn f_i_HardestItem [] [])) [(.l 0), (.l 1)], none⟩, ⟨.mv (.l 2), none⟩, ⟨.extract 0 (.l 3), none⟩, ⟨.extract 1 (.l 3), none⟩, ⟨.mv (.l 4), none⟩, ⟨.mv (.l 5), none⟩] [(24, 6), (25, 7)])
 (.seq (.seq (.region [⟨.load true 3 (.t 2), none⟩, ⟨.mv (.t 3), none⟩, ⟨.call (.c (.fn f_s_HardestItem [] [])) [(.l 0), (.l 1)], none⟩, ⟨.mv (.l 2), none⟩, ⟨.extract 0 (.l 3), none⟩, ⟨.extract 1 (.l 3), none⟩, ⟨.mv (.l 4), none⟩, ⟨.mv (.l 5), none⟩] [(26, 6), (27, 7)])
 (.seq (.region [⟨.mv (.t 24), none⟩, ⟨.mv (.t 26), none⟩, ⟨.bin 0 .neq (.l 0) (.l 1), none⟩, ⟨.mv (.l 2), none⟩, ⟨.mv (.t 25), some ((.l 3), false)⟩, ⟨.mv (.t 27), some ((.l 3), false)⟩, ⟨.bin 2 .neq (.l 4) (.l 5), some ((.l 3), false)⟩, ⟨.pick (.l 3) (.c (.bool true)) (.l 6), none⟩] [(54, 7)])
 (.cond (.t 54) (.seq (.region [⟨.mv (.c (.bool false)), none⟩] [(1, 0)])
 .ret) .skip)))
 (.seq (.region [⟨.mv (.t 0), none⟩, ⟨.call (.c (.fn f_s_DrawSafeStep [] [])) [(.l 0)], none⟩, ⟨.mv (.l 1), none⟩, ⟨.extract 0 (.l 2), none⟩, ⟨.extract 1 (.l 2), none⟩, ⟨.extract 2 (.l 2), none⟩, ⟨.alloc [.int .i64 (0), .int .i64 (0), .int .i64 (0)], none⟩, ⟨.store 3 (.l 6) (.l 3), none⟩, ⟨.mv (.l 4), none⟩, ⟨.mv (.l 5), none⟩] [(28, 6), (29, 8), (30, 9)])
 (.seq (.region [⟨.load true 3 (.t 28), none⟩, ⟨.mv (.t 29), none⟩, ⟨.mv (.t 30), none⟩, ⟨.call (.c (.fn f_i_SafeStep [] [])) [(.l 0), (.l 1), (.l 2)], none⟩, ⟨.mv (.l 3), none⟩, ⟨.extract 0 (.l 4), none⟩, ⟨.extract 1 (.l 4), none⟩, ⟨.mv (.l 5), none⟩, ⟨.mv (.l 6), none⟩] [(31, 7), (32, 8)])
 (.seq (.seq (.region [⟨.load true 3 (.t 28), none⟩, ⟨.mv (.t 29), none⟩, ⟨.mv (.t 30), none⟩, ⟨.call (.c (.fn f_s_SafeStep [] [])) [(.l 0), (.l 1), (.l 2)], none⟩, ⟨.mv (.l 3), none⟩, ⟨.extract 0 (.l 4), none⟩, ⟨.extract 1 (.l 4), none⟩, ⟨.mv (.l 5), none⟩, ⟨.mv (.l 6), none⟩] [(33, 7), (34, 8)])
 (.seq (.region [⟨.mv (.t 32), none⟩, ⟨.mv (.t 34), none⟩, ⟨.bin 2 .neq (.l 0) (.l 1), none⟩, ⟨.mv (.l 2), none⟩, ⟨.mv (.t 31), some ((.l 3), false)⟩, ⟨.mv (.t 33), some ((.l 3), false)⟩, ⟨.call (.c (.fn f_l_rInts [] [])) [(.l 4), (.l 5)], some ((.l 3), false)⟩, ⟨.un .not (.l 6), some ((.l 3), false)⟩, ⟨.pick (.l 3) (.c (.bool true)) (.l 7), none⟩] [(55, 8)])
 (.cond (.t 55) (.seq (.region [⟨.mv (.c (.bool false)), none⟩] [(1, 0)])
 .ret) .skip)))
 (.seq (.seq (.region [⟨.mv (.t 9), none⟩, ⟨.mv (.l 0), none⟩, ⟨.mv (.t 17), some ((.l 1), true)⟩, ⟨.pick (.l 1) (.l 2) (.c (.bool false)), none⟩] [(56, 3)])
 (.cond (.t 56) (.seq (.seq (.region [⟨.mv (.t 5), none⟩, ⟨.mv (.t 16), none⟩, ⟨.fieldAddr 2 (.t 2), none⟩, ⟨.load false 1 (.l 2), none⟩, ⟨.bin 0 .leq (.l 1) (.l 3), none⟩, ⟨.bin 2 .neq (.l 0) (.l 4), none⟩] [(57, 5)])
 (.cond (.t 57) (.seq (.region [⟨.mv (.c (.bool false)), none⟩] [(1, 0)])
 .ret) .skip))
 (.seq (.region [⟨.fieldAddr 0 (.t 2), none⟩, ⟨.load false 1 (.l 0), none⟩, ⟨.fieldAddr 1 (.t 2), none⟩, ⟨.load false 1 (.l 2), none⟩, ⟨.build [.int .i64 (0), .int .i64 (0), .int .i64 (0)] [(0, 1, (.l 1)), (1, 1, (.l 3)), (2, 1, (.c (.int .i64 (99))))], none⟩, ⟨.alloc [.int .i64 (0), .int .i64 (0), .int .i64 (0)], none⟩, ⟨.store 3 (.l 5) (.l 4), none⟩] [(35, 5)])
 (.seq (.region [⟨.load true 3 (.t 35), none⟩, ⟨.mv (.t 3), none⟩, ⟨.call (.c (.fn f_i_CountSafe [] [])) [(.l 0), (.l 1)], none⟩, ⟨.mv (.l 2), none⟩, ⟨.extract 0 (.l 3), none⟩, ⟨.extract 1 (.l 3), none⟩, ⟨.mv (.l 4), none⟩, ⟨.mv (.l 5), none⟩] [(36, 6), (37, 7)])
 (.seq (.region [⟨.mv (.t 37), none⟩, ⟨.un .not (.l 0), none⟩, ⟨.mv (.l 1), none⟩, ⟨.mv (.t 36), some ((.l 2), false)⟩, ⟨.mv (.t 8), some ((.l 2), false)⟩, ⟨.bin 0 .lss (.l 3) (.l 4), some ((.l 2), false)⟩, ⟨.pick (.l 2) (.c (.bool true)) (.l 5), none⟩] [(58, 6)])
 (.cond (.t 58) (.seq (.region [⟨.mv (.c (.bool false)), none⟩] [(1, 0)])
 .ret) .skip))))) .skip))
 (.seq (.seq (.region [⟨.mv (.t 5), none⟩, ⟨.un .not (.l 0), none⟩] [(59, 1)])
 (.cond (.t 59) (.seq (.region [⟨.mv (.c (.bool true)), none⟩] [(1, 0)])
 .ret) .skip))
 (.seq (.region [⟨.load true 3 (.t 2), none⟩, ⟨.mv (.t 3), none⟩, ⟨.mv (.t 4), none⟩, ⟨.call (.c (.fn f_i_IsSafeOrder [] [])) [(.l 0), (.l 1), (.l 2)], none⟩, ⟨.mv (.l 3), none⟩, ⟨.extract 0 (.l 4), none⟩, ⟨.extract 1 (.l 4), none⟩, ⟨.mv (.l 5), none⟩, ⟨.mv (.l 6), none⟩] [(38, 7), (39, 8)])
 (.seq (.region [⟨.buildSlice 1 0 [] [], none⟩, ⟨.mv (.l 0), none⟩] [(40, 1)])
 (.seq (.seq (.region [⟨.mv (.t 12), none⟩, ⟨.len (.l 0), none⟩, ⟨.bin 0 .sub (.l 1) (.c (.int .i64 (1))), none⟩, ⟨.mv (.l 2), none⟩] [(41, 3)])
 (.block 0 (.loop w_l_FnSafeOrders_1)))
 (.seq (.region [⟨.load true 3 (.t 2), none⟩, ⟨.mv (.t 3), none⟩, ⟨.mv (.t 40), none⟩, ⟨.call (.c (.fn f_i_IsSafeOrder [] [])) [(.l 0), (.l 1), (.l 2)], none⟩, ⟨.mv (.l 3), none⟩, ⟨.extract 0 (.l 4), none⟩, ⟨.extract 1 (.l 4), none⟩, ⟨.mv (.l 5), none⟩, ⟨.mv (.l 6), none⟩] [(42, 7), (43, 8)])
 (.seq (.region [⟨.load true 3 (.t 2), none⟩, ⟨.mv (.t 3), none⟩, ⟨.buildSlice 1 0 [] [], none⟩, ⟨.call (.c (.fn f_i_SafeStep [] [])) [(.l 0), (.l 1), (.l 2)], none⟩, ⟨.mv (.l 3), none⟩, ⟨.extract 0 (.l 4), none⟩, ⟨.extract 1 (.l 4), none⟩, ⟨.mv (.l 5), none⟩, ⟨.mv (.l 6), none⟩] [(44, 7), (45, 8)])
 (.seq (.seq (.region [⟨.load true 3 (.t 2), none⟩, ⟨.mv (.t 3), none⟩, ⟨.buildSlice 1 0 [] [], none⟩, ⟨.call (.c (.fn f_s_SafeStep [] [])) [(.l 0), (.l 1), (.l 2)], none⟩, ⟨.mv (.l 3), none⟩, ⟨.extract 0 (.l 4), none⟩, ⟨.extract 1 (.l 4), none⟩, ⟨.mv (.l 5), none⟩, ⟨.mv (.l 6), none⟩] [(46, 7), (47, 8)])
 (.seq (.region [⟨.mv (.t 45), none⟩, ⟨.un .not (.l 0), none⟩, ⟨.mv (.l 1), none⟩, ⟨.mv (.t 47), some ((.l 2), false)⟩, ⟨.un .not (.l 3), some ((.l 2), false)⟩, ⟨.pick (.l 2) (.c (.bool true)) (.l 4), none⟩, ⟨.mv (.l 5), none⟩, ⟨.mv (.t 44), some ((.l 6), false)⟩, ⟨.mv (.t 46), some ((.l 6), false)⟩, ⟨.call (.c (.fn f_l_rInts [] [])) [(.l 7), (.l 8)], some ((.l 6), false)⟩, ⟨.un .not (.l 9), some ((.l 6), false)⟩, ⟨.pick (.l 6) (.c (.bool true)) (.l 10), none⟩] [(61, 11)])
 (.cond (.t 61) (.seq (.region [⟨.mv (.c (.bool false)), none⟩] [(1, 0)])
 .ret) .skip)))
 (.seq (.seq (.region [⟨.mv (.t 39), none⟩, ⟨.un .not (.l 0), none⟩, ⟨.mv (.l 1), none⟩, ⟨.mv (.t 43), some ((.l 2), false)⟩, ⟨.un .not (.l 3), some ((.l 2), false)⟩, ⟨.pick (.l 2) (.c (.bool true)) (.l 4), none⟩, ⟨.mv (.l 5), none⟩, ⟨.mv (.t 38), some ((.l 6), false)⟩, ⟨.un .not (.l 7), some ((.l 6), false)⟩, ⟨.pick (.l 6) (.c (.bool true)) (.l 8), none⟩, ⟨.mv (.l 9), none⟩, ⟨.mv (.t 42), some ((.l 10), false)⟩, ⟨.un .not (.l 11), some ((.l 10), false)⟩, ⟨.pick (.l 10) (.c (.bool true)) (.l 12), none⟩, ⟨.mv (.l 13), none⟩, ⟨.mv (.t 20), some ((.l 14), false)⟩, ⟨.mv (.t 3), some ((.l 14), false)⟩, ⟨.len (.l 16), some ((.l 14), false)⟩, ⟨.bin 0 .gtr (.l 15) (.l 17), some ((.l 14), false)⟩, ⟨.pick (.l 14) (.c (.bool true)) (.l 18), none⟩, ⟨.mv (.l 19), none⟩, ⟨.mv (.t 20), some ((.l 20), false)⟩, ⟨.bin 0 .mul (.c (.int .i64 (2))) (.l 21), some ((.l 20), false)⟩, ⟨.mv (.t 3), some ((.l 20), false)⟩, ⟨.len (.l 23), some ((.l 20), false)⟩, ⟨.bin 0 .lss (.l 22) (.l 24), some ((.l 20), false)⟩, ⟨.pick (.l 20) (.c (.bool true)) (.l 25), none⟩] [(62, 26)])
 (.cond (.t 62) (.seq (.region [⟨.mv (.c (.bool false)), none⟩] [(1, 0)])
 .ret) .skip))
 (.seq (.draw [⟨.mv (.t 4), none, []⟩, ⟨.len (.l 0), none, []⟩, ⟨.bin 0 .eql (.l 1) (.c (.int .i64 (0))), none, []⟩, ⟨.mv (.l 2), none, []⟩, ⟨.mv (.t 44), some ((.l 3), false), []⟩, ⟨.len (.l 4), some ((.l 3), false), []⟩, ⟨.bin 0 .gtr (.l 5) (.c (.int .i64 (0))), some ((.l 3), false), []⟩, ⟨.mv (.l 6), some ((.l 3), false), []⟩, ⟨.mv (.t 44), some ((.l 7), true), []⟩, ⟨.indexAddrS 1 (.l 8) (.c (.int .i64 (0))), some ((.l 7), true), []⟩, ⟨.load false 1 (.l 9), some ((.l 7), true), []⟩, ⟨.mv (.t 4), some ((.l 7), true), []⟩, ⟨.indexAddrS 1 (.l 11) (.c (.int .i64 (0))), some ((.l 7), true), []⟩, ⟨.load false 1 (.l 12), some ((.l 7), true), []⟩, ⟨.bin 0 .eql (.l 10) (.l 13), some ((.l 7), true), []⟩, ⟨.pick (.l 7) (.l 14) (.c (.bool false)), some ((.l 3), false), []⟩, ⟨.pick (.l 3) (.c (.bool true)) (.l 15), none, []⟩, ⟨.mv (.l 16), none, []⟩] [(1, 17)])
 .ret))))))))))))))))))))))))))))
def a_l_FnSafeOrders : AFun := ⟨[0, 2, 3, 4, 5, 6, 7, 8, 9, 10, 11, 12, 13, 14, 15, 16, 17, 18, 19, 20, 21, 22, 23, 24, 25, 26, 27, 28, 29, 30, 31, 32, 33, 34, 35, 36, 37, 38, 39, 40, 41, 42, 43, 44, 45, 46, 47, 48, 50, 76, 105, 131, 151, 178, 198, 227, 231, 237, 255, 257, 270, 312, 339], 357, c_l_FnSafeOrders, [.tmp 1], 1⟩
def c_l_szLoadS : ACode :=
 (.seq (.region [⟨.mv (.c (.int .i64 (0))), none⟩] [(2, 0)])
 (.seq (.region [⟨.mv (.t 1), none⟩, ⟨.mv (.t 0), none⟩, ⟨.len (.l 1), none⟩, ⟨.bin 0 .sub (.l 0) (.l 2), none⟩, ⟨.mv (.l 3), none⟩] [(1, 4)])
 (.seq (.seq (.region [⟨.mv (.t 1), none⟩, ⟨.bin 0 .lss (.l 0) (.c (.int .i64 (0))), none⟩] [(3, 1)])
 (.cond (.t 3) (.seq (.region [⟨.mv (.c (.int .i64 (-1))), none⟩] [(2, 0)])
 .ret) .skip))
 (.seq (.region [⟨.mv (.t 1), none⟩, ⟨.mv (.l 0), none⟩] [(2, 1)])
 .ret))))
def a_l_szLoadS : AFun := ⟨[0, 1, 4, 10], 12, c_l_szLoadS, [.tmp 2], 1⟩
def c_s_FirstTip : ACode :=
 (.seq (.region [⟨.box (.t 0), none⟩, ⟨.mv (.c (.int .i64 (0))), none⟩, ⟨.mv (.c (.bool false)), none⟩] [(3, 0), (4, 1), (5, 2)])
 (.seq (.seq (.region [⟨.load true 3 (.t 3), none⟩, ⟨.mv (.t 1), none⟩, ⟨.mv (.t 2), none⟩, ⟨.call (.c (.fn f_s_l10Order [] [])) [(.l 0), (.l 1), (.l 2)], none⟩, ⟨.un .not (.l 3), none⟩, ⟨.mv (.l 4), none⟩, ⟨.load true 3 (.t 3), some ((.l 5), false)⟩, ⟨.mv (.t 1), some ((.l 5), false)⟩, ⟨.mv (.t 2), some ((.l 5), false)⟩, ⟨.call (.c (.fn f_s_l10Tip [] [])) [(.l 6), (.l 7), (.l 8)], some ((.l 5), false)⟩, ⟨.bin 0 .lss (.l 9) (.c (.int .i64 (0))), some ((.l 5), false)⟩, ⟨.pick (.l 5) (.c (.bool true)) (.l 10), none⟩] [(6, 11)])
 (.cond (.t 6) (.seq (.region [⟨.mv (.c (.int .i64 (0))), none⟩, ⟨.mv (.c (.bool false)), none⟩] [(4, 0), (5, 1)])
 .ret) .skip))
 (.seq (.region [⟨.load true 3 (.t 3), none⟩, ⟨.mv (.t 1), none⟩, ⟨.mv (.t 2), none⟩, ⟨.call (.c (.fn f_s_l10Tip [] [])) [(.l 0), (.l 1), (.l 2)], none⟩, ⟨.mv (.l 3), none⟩, ⟨.mv (.c (.bool true)), none⟩] [(4, 4), (5, 5)])
 .ret)))
def a_s_FirstTip : AFun := ⟨[0, 1, 2, 3, 6, 7, 19], 24, c_s_FirstTip, [.tmp 4, .tmp 5], 1⟩
def c_l_toRaft : ACode :=
 (.seq (.region [⟨.box (.t 0), none⟩, ⟨.alloc [.int .i64 (0), .int .i64 (0), .int .i64 (0)], none⟩] [(1, 0), (2, 1)])
 (.seq (.region [⟨.alloc [.int .i64 (0), .int .i64 (0), .int .i64 (0)], none⟩] [(3, 0)])
 (.seq (.region [⟨.fieldAddr 0 (.t 1), none⟩, ⟨.load false 1 (.l 0), none⟩, ⟨.fieldAddr 0 (.t 3), none⟩, ⟨.store 1 (.l 2) (.l 1), none⟩] [])
 (.seq (.region [⟨.fieldAddr 1 (.t 1), none⟩, ⟨.load false 1 (.l 0), none⟩, ⟨.fieldAddr 1 (.t 3), none⟩, ⟨.store 1 (.l 2) (.l 1), none⟩] [])
 (.seq (.region [⟨.fieldAddr 2 (.t 1), none⟩, ⟨.load false 1 (.l 0), none⟩, ⟨.fieldAddr 2 (.t 3), none⟩, ⟨.store 1 (.l 2) (.l 1), none⟩] [])
 (.seq (.region [⟨.load true 3 (.t 3), none⟩, ⟨.store 3 (.t 2) (.l 0), none⟩] [])
 .ret))))))
def a_l_toRaft : AFun := ⟨[0, 1, 2, 3], 14, c_l_toRaft, [.cell 2 true 3], 1⟩
def w_l_toLoadS_1 : ACode :=
 (.seq (.seq (.region [⟨.mv (.t 3), none⟩, ⟨.mv (.t 0), none⟩, ⟨.len (.l 1), none⟩, ⟨.bin 0 .lss (.l 0) (.l 2), none⟩] [(4, 3)])
 (.cond (.t 4) .skip (.exit 0)))
 (.seq (.block 1 (.region [⟨.mv (.t 2), none⟩, ⟨.mv (.t 3), none⟩, ⟨.mv (.t 0), none⟩, ⟨.mv (.t 3), none⟩, ⟨.indexAddrS 2 (.l 2) (.l 3), none⟩, ⟨.load true 2 (.l 4), none⟩, ⟨.call (.c (.fn f_l_toLoad [] [])) [(.l 5)], none⟩, ⟨.indexAddrS 2 (.l 0) (.l 1), none⟩, ⟨.store 2 (.l 7) (.l 6), none⟩] []))
 (.region [⟨.mv (.t 3), none⟩, ⟨.bin 0 .add (.l 0) (.c (.int .i64 (1))), none⟩, ⟨.mv (.l 1), none⟩] [(3, 2)])))
def c_l_toLoadS : ACode :=
 (.seq (.region [⟨.mv (.c (.slice none 0 0 none)), none⟩] [(1, 0)])
 (.seq (.region [⟨.mv (.t 0), none⟩, ⟨.len (.l 0), none⟩, ⟨.makeSlice 2 16 [.int .i64 (0), .int .i64 (0)] (.l 1) (.l 1), none⟩, ⟨.mv (.l 2), none⟩] [(2, 3)])
 (.seq (.seq (.region [⟨.mv (.c (.int .i64 (0))), none⟩] [(3, 0)])
 (.block 0 (.loop w_l_toLoadS_1)))
 (.seq (.region [⟨.mv (.t 2), none⟩, ⟨.mv (.l 0), none⟩] [(1, 1)])
 .ret))))
def a_l_toLoadS : AFun := ⟨[0, 2, 3, 4, 11], 23, c_l_toLoadS, [.tmp 1], 2⟩
def w_l_toIntS_1 : ACode :=
 (.seq (.seq (.region [⟨.mv (.t 3), none⟩, ⟨.mv (.t 0), none⟩, ⟨.len (.l 1), none⟩, ⟨.bin 0 .lss (.l 0) (.l 2), none⟩] [(4, 3)])
 (.cond (.t 4) .skip (.exit 0)))
 (.seq (.block 1 (.region [⟨.mv (.t 2), none⟩, ⟨.mv (.t 3), none⟩, ⟨.mv (.t 0), none⟩, ⟨.mv (.t 3), none⟩, ⟨.indexAddrS 1 (.l 2) (.l 3), none⟩, ⟨.load false 1 (.l 4), none⟩, ⟨.indexAddrS 1 (.l 0) (.l 1), none⟩, ⟨.store 1 (.l 6) (.l 5), none⟩] []))
 (.region [⟨.mv (.t 3), none⟩, ⟨.bin 0 .add (.l 0) (.c (.int .i64 (1))), none⟩, ⟨.mv (.l 1), none⟩] [(3, 2)])))
def c_l_toIntS : ACode :=
 (.seq (.region [⟨.mv (.c (.slice none 0 0 none)), none⟩] [(1, 0)])
 (.seq (.region [⟨.mv (.t 0), none⟩, ⟨.len (.l 0), none⟩, ⟨.makeSlice 1 8 [.int .i64 (0)] (.l 1) (.l 1), none⟩, ⟨.mv (.l 2), none⟩] [(2, 3)])
 (.seq (.seq (.region [⟨.mv (.c (.int .i64 (0))), none⟩] [(3, 0)])
 (.block 0 (.loop w_l_toIntS_1)))
 (.seq (.region [⟨.mv (.t 2), none⟩, ⟨.mv (.l 0), none⟩] [(1, 1)])
 .ret))))
def a_l_toIntS : AFun := ⟨[0, 2, 3, 4, 11], 22, c_l_toIntS, [.tmp 1], 2⟩
def c_i_FirstTip : ACode :=
 (.seq (.region [⟨.box (.t 0), none⟩, ⟨.mv (.c (.int .i64 (0))), none⟩, ⟨.mv (.c (.bool false)), none⟩] [(3, 0), (4, 1), (5, 2)])
 (.seq (.seq (.region [⟨.load true 3 (.t 3), none⟩, ⟨.mv (.t 1), none⟩, ⟨.call (.c (.fn f_i_areCargo [] [])) [(.l 0), (.l 1)], none⟩, ⟨.un .not (.l 2), none⟩, ⟨.mv (.l 3), none⟩, ⟨.mv (.t 1), some ((.l 4), false)⟩, ⟨.mv (.t 2), some ((.l 4), false)⟩, ⟨.call (.c (.fn f_i_isOrder [] [])) [(.l 5), (.l 6)], some ((.l 4), false)⟩, ⟨.un .not (.l 7), some ((.l 4), false)⟩, ⟨.pick (.l 4) (.c (.bool true)) (.l 8), none⟩] [(7, 9)])
 (.cond (.t 7) (.seq (.region [⟨.mv (.c (.int .i64 (0))), none⟩, ⟨.mv (.c (.bool false)), none⟩] [(4, 0), (5, 1)])
 .ret) .skip))
 (.seq (.region [⟨.load true 3 (.t 3), none⟩, ⟨.mv (.t 1), none⟩, ⟨.mv (.t 2), none⟩, ⟨.call (.c (.fn f_i_Raft_firstTip [] [])) [(.l 0), (.l 1), (.l 2)], none⟩, ⟨.mv (.l 3), none⟩] [(6, 4)])
 (.seq (.region [⟨.mv (.t 6), none⟩, ⟨.mv (.t 6), none⟩, ⟨.bin 0 .gtr (.l 1) (.c (.int .i64 (0))), none⟩, ⟨.mv (.l 0), none⟩, ⟨.mv (.l 2), none⟩] [(4, 3), (5, 4)])
 .ret))))
def a_i_FirstTip : AFun := ⟨[0, 1, 2, 3, 6, 7, 8, 18], 26, c_i_FirstTip, [.tmp 4, .tmp 5], 1⟩
def w_l_eqLoadS_1 : ACode :=
 (.seq (.seq (.region [⟨.mv (.t 3), none⟩, ⟨.mv (.t 0), none⟩, ⟨.len (.l 1), none⟩, ⟨.bin 0 .lss (.l 0) (.l 2), none⟩] [(5, 3)])
 (.cond (.t 5) .skip (.exit 0)))
 (.seq (.block 1 (.seq (.draw [⟨.mv (.t 0), none, []⟩, ⟨.mv (.t 3), none, []⟩, ⟨.indexAddrS 2 (.l 0) (.l 1), none, []⟩, ⟨.load true 2 (.l 2), none, []⟩, ⟨.mv (.t 1), none, []⟩, ⟨.mv (.t 3), none, []⟩, ⟨.indexAddrS 2 (.l 4) (.l 5), none, []⟩, ⟨.load true 2 (.l 6), none, []⟩, ⟨.call (.c (.fn f_l_eqLoad [] [])) [(.l 3), (.l 7)], none, []⟩, ⟨.un .not (.l 8), none, []⟩] [(6, 9)])
 (.cond (.t 6) (.seq (.region [⟨.mv (.c (.bool false)), none⟩] [(2, 0)])
 .ret) .skip)))
 (.region [⟨.mv (.t 3), none⟩, ⟨.bin 0 .add (.l 0) (.c (.int .i64 (1))), none⟩, ⟨.mv (.l 1), none⟩] [(3, 2)])))
def c_l_eqLoadS : ACode :=
 (.seq (.region [⟨.mv (.c (.bool false)), none⟩] [(2, 0)])
 (.seq (.seq (.region [⟨.mv (.t 0), none⟩, ⟨.len (.l 0), none⟩, ⟨.mv (.t 1), none⟩, ⟨.len (.l 2), none⟩, ⟨.bin 0 .neq (.l 1) (.l 3), none⟩] [(4, 4)])
 (.cond (.t 4) (.seq (.region [⟨.mv (.c (.bool false)), none⟩] [(2, 0)])
 .ret) .skip))
 (.seq (.seq (.region [⟨.mv (.c (.int .i64 (0))), none⟩] [(3, 0)])
 (.block 0 (.loop w_l_eqLoadS_1)))
 (.seq (.region [⟨.mv (.c (.bool true)), none⟩] [(2, 0)])
 .ret))))
def a_l_eqLoadS : AFun := ⟨[0, 1, 4, 5, 10, 14, 26], 27, c_l_eqLoadS, [.tmp 2], 1⟩
def w_l_eqIntS_1 : ACode :=
 (.seq (.seq (.region [⟨.mv (.t 3), none⟩, ⟨.mv (.t 0), none⟩, ⟨.len (.l 1), none⟩, ⟨.bin 0 .lss (.l 0) (.l 2), none⟩] [(5, 3)])
 (.cond (.t 5) .skip (.exit 0)))
 (.seq (.block 1 (.seq (.draw [⟨.mv (.t 0), none, []⟩, ⟨.mv (.t 3), none, []⟩, ⟨.indexAddrS 1 (.l 0) (.l 1), none, []⟩, ⟨.load false 1 (.l 2), none, []⟩, ⟨.mv (.t 1), none, []⟩, ⟨.mv (.t 3), none, []⟩, ⟨.indexAddrS 1 (.l 4) (.l 5), none, []⟩, ⟨.load false 1 (.l 6), none, []⟩, ⟨.bin 0 .neq (.l 3) (.l 7), none, []⟩] [(6, 8)])
 (.cond (.t 6) (.seq (.region [⟨.mv (.c (.bool false)), none⟩] [(2, 0)])
 .ret) .skip)))
 (.region [⟨.mv (.t 3), none⟩, ⟨.bin 0 .add (.l 0) (.c (.int .i64 (1))), none⟩, ⟨.mv (.l 1), none⟩] [(3, 2)])))
def c_l_eqIntS : ACode :=
 (.seq (.region [⟨.mv (.c (.bool false)), none⟩] [(2, 0)])
 (.seq (.seq (.region [⟨.mv (.t 0), none⟩, ⟨.len (.l 0), none⟩, ⟨.mv (.t 1), none⟩, ⟨.len (.l 2), none⟩, ⟨.bin 0 .neq (.l 1) (.l 3), none⟩] [(4, 4)])
 (.cond (.t 4) (.seq (.region [⟨.mv (.c (.bool false)), none⟩] [(2, 0)])
 .ret) .skip))
 (.seq (.seq (.region [⟨.mv (.c (.int .i64 (0))), none⟩] [(3, 0)])
 (.block 0 (.loop w_l_eqIntS_1)))
 (.seq (.region [⟨.mv (.c (.bool true)), none⟩] [(2, 0)])
 .ret))))
def a_l_eqIntS : AFun := ⟨[0, 1, 4, 5, 10, 14, 25], 26, c_l_eqIntS, [.tmp 2], 1⟩
def w_s_HardestItem_1 : ACode :=
 (.seq (.seq (.region [⟨.mv (.t 7), none⟩, ⟨.mv (.t 1), none⟩, ⟨.len (.l 1), none⟩, ⟨.bin 0 .lss (.l 0) (.l 2), none⟩] [(11, 3)])
 (.cond (.t 11) .skip (.exit 0)))
 (.seq (.block 1 (.seq (.draw [⟨.mv (.t 1), none, []⟩, ⟨.mv (.t 7), none, []⟩, ⟨.sliceSl 2 (.l 0) none (some (.l 1)) none, none, []⟩, ⟨.mv (.t 1), none, []⟩, ⟨.mv (.t 7), none, []⟩, ⟨.bin 0 .add (.l 4) (.c (.int .i64 (1))), none, []⟩, ⟨.sliceSl 2 (.l 3) (some (.l 5)) none none, none, []⟩, ⟨.buildSlice 2 0 [] [], none, []⟩, ⟨.append false 2 16 (.l 7) (.l 2), none, []⟩, ⟨.append false 2 16 (.l 8) (.l 6), none, []⟩, ⟨.mv (.l 9), none, []⟩] [(8, 10)])
 (.seq (.region [⟨.load true 3 (.t 2), none⟩, ⟨.mv (.t 8), none⟩, ⟨.call (.c (.fn f_s_l10Ways [] [])) [(.l 0), (.l 1)], none⟩, ⟨.indexAddrS 1 (.l 2) (.c (.int .i64 (0))), none⟩, ⟨.load false 1 (.l 3), none⟩, ⟨.mv (.l 4), none⟩] [(9, 5)])
 (.seq (.region [⟨.mv (.t 9), none⟩, ⟨.mv (.t 6), none⟩, ⟨.bin 0 .gtr (.l 0) (.l 1), none⟩] [(12, 2)])
 (.cond (.t 12) (.seq (.region [⟨.mv (.t 7), none⟩, ⟨.mv (.l 0), none⟩] [(5, 1)])
 (.region [⟨.mv (.t 9), none⟩, ⟨.mv (.l 0), none⟩] [(6, 1)])) .skip)))))
 (.region [⟨.mv (.t 7), none⟩, ⟨.bin 0 .add (.l 0) (.c (.int .i64 (1))), none⟩, ⟨.mv (.l 1), none⟩] [(7, 2)])))
def c_s_HardestItem : ACode :=
 (.seq (.region [⟨.box (.t 0), none⟩, ⟨.mv (.c (.int .i64 (0))), none⟩, ⟨.mv (.c (.bool false)), none⟩] [(2, 0), (3, 1), (4, 2)])
 (.seq (.seq (.region [⟨.load true 3 (.t 2), none⟩, ⟨.mv (.t 1), none⟩, ⟨.call (.c (.fn f_s_l10Cargo [] [])) [(.l 0), (.l 1)], none⟩, ⟨.un .not (.l 2), none⟩, ⟨.mv (.l 3), none⟩, ⟨.mv (.t 1), some ((.l 4), false)⟩, ⟨.len (.l 5), some ((.l 4), false)⟩, ⟨.bin 0 .eql (.l 6) (.c (.int .i64 (0))), some ((.l 4), false)⟩, ⟨.pick (.l 4) (.c (.bool true)) (.l 7), none⟩] [(10, 8)])
 (.cond (.t 10) (.seq (.region [⟨.mv (.c (.int .i64 (0))), none⟩, ⟨.mv (.c (.bool false)), none⟩] [(3, 0), (4, 1)])
 .ret) .skip))
 (.seq (.region [⟨.mv (.c (.int .i64 (0))), none⟩, ⟨.mv (.c (.int .i64 (-1))), none⟩] [(5, 0), (6, 1)])
 (.seq (.seq (.region [⟨.mv (.c (.int .i64 (0))), none⟩] [(7, 0)])
 (.block 0 (.loop w_s_HardestItem_1)))
 (.seq (.region [⟨.mv (.t 5), none⟩, ⟨.mv (.l 0), none⟩, ⟨.mv (.c (.bool true)), none⟩] [(3, 1), (4, 2)])
 .ret)))))
def a_s_HardestItem : AFun := ⟨[0, 1, 2, 4, 5, 6, 7, 8, 9, 10, 19, 23, 43], 47, c_s_HardestItem, [.tmp 3, .tmp 4], 1⟩
def w_i_HardestItem_1 : ACode :=
 (.seq (.region [⟨.bin 0 .lss (.t 11) (.t 10), none⟩] [(12, 0)])
 (.seq (.cond (.t 12) .skip (.exit 0))
 (.seq (.block 1 (.seq (.region [⟨.mv (.t 11), none⟩, ⟨.mv (.l 0), none⟩] [(7, 1)])
 (.seq (.draw [⟨.load true 3 (.t 2), none, []⟩, ⟨.mv (.t 1), none, []⟩, ⟨.mv (.t 7), none, []⟩, ⟨.mv (.t 7), none, []⟩, ⟨.bin 0 .add (.l 3) (.c (.int .i64 (1))), none, []⟩, ⟨.call (.c (.fn f_slices_Clone_Si_Load_i_Load [] [])) [(.l 1)], none, [(0, ⟨.load true 3 (.t 2), none⟩)]⟩, ⟨.call (.c (.fn f_slices_Delete_Si_Load_i_Load [] [])) [(.l 5), (.l 2), (.l 4)], none, [(0, ⟨.load true 3 (.t 2), none⟩)]⟩, ⟨.call (.c (.fn f_i_Raft_waysOf [] [])) [(.l 0), (.l 6)], none, []⟩, ⟨.indexAddrS 1 (.l 7) (.c (.int .i64 (0))), none, []⟩, ⟨.load false 1 (.l 8), none, []⟩, ⟨.mv (.l 9), none, []⟩] [(8, 10)])
 (.seq (.region [⟨.mv (.t 8), none⟩, ⟨.mv (.t 6), none⟩, ⟨.bin 0 .gtr (.l 0) (.l 1), none⟩] [(13, 2)])
 (.cond (.t 13) (.region [⟨.mv (.t 7), none⟩, ⟨.mv (.t 8), none⟩, ⟨.mv (.l 0), none⟩, ⟨.mv (.l 1), none⟩] [(5, 2), (6, 3)]) .skip)))))
 (.region [⟨.bin 0 .add (.t 11) (.c (.int .i64 (1))), none⟩, ⟨.mv (.l 0), none⟩] [(11, 1)]))))
def c_i_HardestItem : ACode :=
 (.seq (.region [⟨.box (.t 0), none⟩, ⟨.mv (.c (.int .i64 (0))), none⟩, ⟨.mv (.c (.bool false)), none⟩] [(2, 0), (3, 1), (4, 2)])
 (.seq (.seq (.region [⟨.load true 3 (.t 2), none⟩, ⟨.mv (.t 1), none⟩, ⟨.call (.c (.fn f_i_areCargo [] [])) [(.l 0), (.l 1)], none⟩, ⟨.un .not (.l 2), none⟩, ⟨.mv (.l 3), none⟩, ⟨.mv (.t 1), some ((.l 4), false)⟩, ⟨.len (.l 5), some ((.l 4), false)⟩, ⟨.bin 0 .eql (.l 6) (.c (.int .i64 (0))), some ((.l 4), false)⟩, ⟨.pick (.l 4) (.c (.bool true)) (.l 7), none⟩] [(9, 8)])
 (.cond (.t 9) (.seq (.region [⟨.mv (.c (.int .i64 (0))), none⟩, ⟨.mv (.c (.bool false)), none⟩] [(3, 0), (4, 1)])
 .ret) .skip))
 (.seq (.region [⟨.mv (.c (.int .i64 (0))), none⟩, ⟨.mv (.c (.int .i64 (-1))), none⟩] [(5, 0), (6, 1)])
 (.seq (.seq (.region [⟨.mv (.t 1), none⟩, ⟨.len (.l 0), none⟩, ⟨.mv (.c (.int .i64 (0))), none⟩] [(10, 1), (11, 2)])
 (.block 0 (.loop w_i_HardestItem_1)))
 (.seq (.region [⟨.mv (.t 5), none⟩, ⟨.mv (.l 0), none⟩, ⟨.mv (.c (.bool true)), none⟩] [(3, 1), (4, 2)])
 .ret)))))
def a_i_HardestItem : AFun := ⟨[0, 1, 2, 4, 5, 6, 7, 8, 9, 18, 20, 21, 22, 36], 41, c_i_HardestItem, [.tmp 3, .tmp 4], 1⟩
def w_s_UnloadOrder_1 : ACode :=
 (.seq (.seq (.region [⟨.mv (.t 7), none⟩, ⟨.mv (.t 8), none⟩, ⟨.bin 0 .shr (.l 0) (.l 1), none⟩, ⟨.bin 0 .and (.l 2) (.c (.int .i64 (1))), none⟩, ⟨.bin 0 .eql (.l 3) (.c (.int .i64 (0))), none⟩, ⟨.mv (.l 4), none⟩, ⟨.mv (.t 6), some ((.l 5), false)⟩, ⟨.mv (.t 7), some ((.l 5), false)⟩, ⟨.mv (.t 8), some ((.l 5), false)⟩, ⟨.bin 0 .shl (.c (.int .i64 (1))) (.l 8), some ((.l 5), false)⟩, ⟨.bin 0 .sub (.l 7) (.l 9), some ((.l 5), false)⟩, ⟨.indexAddrS 1 (.l 6) (.l 10), some ((.l 5), false)⟩, ⟨.load false 1 (.l 11), some ((.l 5), false)⟩, ⟨.un .not (.l 12), some ((.l 5), false)⟩, ⟨.pick (.l 5) (.c (.bool true)) (.l 13), none⟩] [(12, 14)])
 (.cond (.t 12) .skip (.exit 2)))
 (.block 3 (.region [⟨.mv (.t 8), none⟩, ⟨.bin 0 .add (.l 0) (.c (.int .i64 (1))), none⟩, ⟨.mv (.l 1), none⟩] [(8, 2)])))
def w_s_UnloadOrder_2 : ACode :=
 (.seq (.seq (.region [⟨.mv (.t 7), none⟩, ⟨.bin 0 .gtr (.l 0) (.c (.int .i64 (0))), none⟩] [(11, 1)])
 (.cond (.t 11) .skip (.exit 0)))
 (.block 1 (.seq (.region [⟨.mv (.c (.int .i64 (0))), none⟩] [(8, 0)])
 (.seq (.block 2 (.loop w_s_UnloadOrder_1))
 (.seq (.region [⟨.mv (.t 5), none⟩, ⟨.mv (.t 8), none⟩, ⟨.buildSlice 1 1 [.int .i64 (0)] [(0, 1, (.l 1))], none⟩, ⟨.append false 1 8 (.l 0) (.l 2), none⟩, ⟨.mv (.l 3), none⟩] [(5, 4)])
 (.region [⟨.mv (.t 7), none⟩, ⟨.mv (.t 8), none⟩, ⟨.bin 0 .shl (.c (.int .i64 (1))) (.l 1), none⟩, ⟨.bin 0 .sub (.l 0) (.l 2), none⟩, ⟨.mv (.l 3), none⟩] [(7, 4)]))))))
def c_s_UnloadOrder : ACode :=
 (.seq (.region [⟨.box (.t 0), none⟩, ⟨.mv (.c (.slice none 0 0 none)), none⟩, ⟨.mv (.c (.bool false)), none⟩] [(2, 0), (3, 1), (4, 2)])
 (.seq (.region [⟨.buildSlice 1 0 [] [], none⟩, ⟨.mv (.l 0), none⟩] [(5, 1)])
 (.seq (.seq (.region [⟨.load true 3 (.t 2), none⟩, ⟨.mv (.t 1), none⟩, ⟨.call (.c (.fn f_s_l10Cargo [] [])) [(.l 0), (.l 1)], none⟩, ⟨.un .not (.l 2), none⟩] [(9, 3)])
 (.cond (.t 9) (.seq (.region [⟨.mv (.t 5), none⟩, ⟨.mv (.l 0), none⟩, ⟨.mv (.c (.bool false)), none⟩] [(3, 1), (4, 2)])
 .ret) .skip))
 (.seq (.draw [⟨.load true 3 (.t 2), none, []⟩, ⟨.mv (.t 1), none, []⟩, ⟨.mv (.t 1), none, []⟩, ⟨.len (.l 2), none, []⟩, ⟨.bin 0 .shl (.c (.int .i64 (1))) (.l 3), none, []⟩, ⟨.bin 0 .sub (.l 4) (.c (.int .i64 (1))), none, []⟩, ⟨.call (.c (.fn f_s_l10Back [] [])) [(.l 0), (.l 1)], none, []⟩, ⟨.mv (.l 6), none, []⟩, ⟨.mv (.l 5), none, []⟩] [(6, 7), (7, 8)])
 (.seq (.seq (.region [⟨.mv (.t 6), none⟩, ⟨.mv (.t 7), none⟩, ⟨.indexAddrS 1 (.l 0) (.l 1), none⟩, ⟨.load false 1 (.l 2), none⟩, ⟨.un .not (.l 3), none⟩] [(10, 4)])
 (.cond (.t 10) (.seq (.region [⟨.mv (.t 5), none⟩, ⟨.mv (.l 0), none⟩, ⟨.mv (.c (.bool false)), none⟩] [(3, 1), (4, 2)])
 .ret) .skip))
 (.seq (.block 0 (.loop w_s_UnloadOrder_2))
 (.seq (.region [⟨.mv (.t 5), none⟩, ⟨.mv (.l 0), none⟩, ⟨.mv (.c (.bool true)), none⟩] [(3, 1), (4, 2)])
 .ret)))))))
def a_s_UnloadOrder : AFun := ⟨[0, 1, 2, 4, 5, 6, 7, 8, 9, 14, 27, 30, 45], 57, c_s_UnloadOrder, [.tmp 3, .tmp 4], 2⟩
def w_i_UnloadOrder_1 : ACode :=
 (.seq (.region [⟨.bin 0 .lss (.t 18) (.t 17), none⟩] [(19, 0)])
 (.seq (.cond (.t 19) .skip (.exit 2))
 (.seq (.block 3 (.seq (.region [⟨.mv (.t 18), none⟩, ⟨.mv (.l 0), none⟩] [(8, 1)])
 (.seq (.region [⟨.mv (.t 7), none⟩, ⟨.mv (.t 8), none⟩, ⟨.bin 0 .shr (.l 0) (.l 1), none⟩, ⟨.bin 0 .and (.l 2) (.c (.int .i64 (1))), none⟩, ⟨.bin 0 .eql (.l 3) (.c (.int .i64 (1))), none⟩, ⟨.mv (.l 4), none⟩, ⟨.mv (.t 6), some ((.l 5), true)⟩, ⟨.mv (.t 7), some ((.l 5), true)⟩, ⟨.mv (.t 8), some ((.l 5), true)⟩, ⟨.bin 0 .shl (.c (.int .i64 (1))) (.l 8), some ((.l 5), true)⟩, ⟨.bin 0 .andNot (.l 7) (.l 9), some ((.l 5), true)⟩, ⟨.indexAddrS 1 (.l 6) (.l 10), some ((.l 5), true)⟩, ⟨.load false 1 (.l 11), some ((.l 5), true)⟩, ⟨.pick (.l 5) (.l 12) (.c (.bool false)), none⟩] [(20, 13)])
 (.cond (.t 20) (.region [⟨.mv (.t 6), none⟩, ⟨.mv (.t 7), none⟩, ⟨.indexAddrS 1 (.l 0) (.l 1), none⟩, ⟨.store 1 (.l 2) (.c (.bool true)), none⟩] []) .skip))))
 (.region [⟨.bin 0 .add (.t 18) (.c (.int .i64 (1))), none⟩, ⟨.mv (.l 0), none⟩] [(18, 1)]))))
def w_i_UnloadOrder_2 : ACode :=
 (.seq (.region [⟨.bin 0 .lss (.t 14) (.t 13), none⟩] [(15, 0)])
 (.seq (.cond (.t 15) .skip (.exit 0))
 (.seq (.block 1 (.seq (.region [⟨.mv (.t 14), none⟩, ⟨.mv (.l 0), none⟩] [(7, 1)])
 (.seq (.seq (.region [⟨.load true 3 (.t 2), none⟩, ⟨.mv (.t 1), none⟩, ⟨.mv (.t 7), none⟩, ⟨.call (.c (.fn f_i_Raft_isSafe [] [])) [(.l 0), (.l 1), (.l 2)], none⟩, ⟨.un .not (.l 3), none⟩] [(16, 4)])
 (.cond (.t 16) (.exit 1) .skip))
 (.seq (.region [⟨.mv (.t 6), none⟩, ⟨.mv (.t 7), none⟩, ⟨.mv (.t 7), none⟩, ⟨.bin 0 .eql (.l 2) (.c (.int .i64 (0))), none⟩, ⟨.indexAddrS 1 (.l 0) (.l 1), none⟩, ⟨.store 1 (.l 4) (.l 3), none⟩] [])
 (.seq (.region [⟨.mv (.t 1), none⟩, ⟨.len (.l 0), none⟩, ⟨.mv (.c (.int .i64 (0))), none⟩] [(17, 1), (18, 2)])
 (.block 2 (.loop w_i_UnloadOrder_1)))))))
 (.region [⟨.bin 0 .add (.t 14) (.c (.int .i64 (1))), none⟩, ⟨.mv (.l 0), none⟩] [(14, 1)]))))
def w_i_UnloadOrder_3 : ACode :=
 (.seq (.region [⟨.bin 0 .lss (.t 24) (.t 23), none⟩] [(25, 0)])
 (.seq (.cond (.t 25) .skip (.exit 6))
 (.seq (.block 7 (.seq (.region [⟨.mv (.t 24), none⟩, ⟨.mv (.l 0), none⟩] [(11, 1)])
 (.seq (.region [⟨.mv (.t 10), none⟩, ⟨.mv (.t 11), none⟩, ⟨.bin 0 .shr (.l 0) (.l 1), none⟩, ⟨.bin 0 .and (.l 2) (.c (.int .i64 (1))), none⟩, ⟨.bin 0 .eql (.l 3) (.c (.int .i64 (1))), none⟩, ⟨.mv (.l 4), none⟩, ⟨.mv (.t 6), some ((.l 5), true)⟩, ⟨.mv (.t 10), some ((.l 5), true)⟩, ⟨.mv (.t 11), some ((.l 5), true)⟩, ⟨.bin 0 .shl (.c (.int .i64 (1))) (.l 8), some ((.l 5), true)⟩, ⟨.bin 0 .andNot (.l 7) (.l 9), some ((.l 5), true)⟩, ⟨.indexAddrS 1 (.l 6) (.l 10), some ((.l 5), true)⟩, ⟨.load false 1 (.l 11), some ((.l 5), true)⟩, ⟨.pick (.l 5) (.l 12) (.c (.bool false)), none⟩] [(26, 13)])
 (.cond (.t 26) (.seq (.region [⟨.mv (.t 9), none⟩, ⟨.mv (.t 11), none⟩, ⟨.buildSlice 1 1 [.int .i64 (0)] [(0, 1, (.l 1))], none⟩, ⟨.append false 1 8 (.l 0) (.l 2), none⟩, ⟨.mv (.l 3), none⟩] [(9, 4)])
 (.seq (.region [⟨.mv (.t 10), none⟩, ⟨.mv (.t 11), none⟩, ⟨.bin 0 .shl (.c (.int .i64 (1))) (.l 1), none⟩, ⟨.bin 0 .andNot (.l 0) (.l 2), none⟩, ⟨.mv (.l 3), none⟩] [(10, 4)])
 (.exit 6))) .skip))))
 (.region [⟨.bin 0 .add (.t 24) (.c (.int .i64 (1))), none⟩, ⟨.mv (.l 0), none⟩] [(24, 1)]))))
def w_i_UnloadOrder_4 : ACode :=
 (.seq (.seq (.region [⟨.mv (.t 10), none⟩, ⟨.bin 0 .gtr (.l 0) (.c (.int .i64 (0))), none⟩] [(22, 1)])
 (.cond (.t 22) .skip (.exit 4)))
 (.block 5 (.seq (.region [⟨.mv (.t 1), none⟩, ⟨.len (.l 0), none⟩, ⟨.mv (.c (.int .i64 (0))), none⟩] [(23, 1), (24, 2)])
 (.block 6 (.loop w_i_UnloadOrder_3)))))
def c_i_UnloadOrder : ACode :=
 (.seq (.region [⟨.box (.t 0), none⟩, ⟨.mv (.c (.slice none 0 0 none)), none⟩, ⟨.mv (.c (.bool false)), none⟩] [(2, 0), (3, 1), (4, 2)])
 (.seq (.seq (.region [⟨.load true 3 (.t 2), none⟩, ⟨.mv (.t 1), none⟩, ⟨.call (.c (.fn f_i_areCargo [] [])) [(.l 0), (.l 1)], none⟩, ⟨.un .not (.l 2), none⟩] [(12, 3)])
 (.cond (.t 12) (.seq (.region [⟨.mv (.c (.slice none 0 0 none)), none⟩, ⟨.mv (.c (.bool false)), none⟩] [(3, 0), (4, 1)])
 .ret) .skip))
 (.seq (.region [⟨.mv (.t 1), none⟩, ⟨.len (.l 0), none⟩, ⟨.bin 0 .shl (.c (.int .i64 (1))) (.l 1), none⟩, ⟨.bin 0 .sub (.l 2) (.c (.int .i64 (1))), none⟩, ⟨.mv (.l 3), none⟩] [(5, 4)])
 (.seq (.region [⟨.mv (.t 5), none⟩, ⟨.bin 0 .add (.l 0) (.c (.int .i64 (1))), none⟩, ⟨.makeSlice 1 1 [.bool false] (.l 1) (.l 1), none⟩, ⟨.mv (.l 2), none⟩] [(6, 3)])
 (.seq (.seq (.region [⟨.mv (.t 5), none⟩, ⟨.bin 0 .add (.l 0) (.c (.int .i64 (1))), none⟩, ⟨.mv (.c (.int .i64 (0))), none⟩] [(13, 1), (14, 2)])
 (.block 0 (.loop w_i_UnloadOrder_2)))
 (.seq (.seq (.region [⟨.mv (.t 6), none⟩, ⟨.mv (.t 5), none⟩, ⟨.indexAddrS 1 (.l 0) (.l 1), none⟩, ⟨.load false 1 (.l 2), none⟩, ⟨.un .not (.l 3), none⟩] [(21, 4)])
 (.cond (.t 21) (.seq (.region [⟨.mv (.c (.slice none 0 0 none)), none⟩, ⟨.mv (.c (.bool false)), none⟩] [(3, 0), (4, 1)])
 .ret) .skip))
 (.seq (.region [⟨.buildSlice 1 0 [] [], none⟩, ⟨.mv (.l 0), none⟩] [(9, 1)])
 (.seq (.seq (.region [⟨.mv (.t 5), none⟩, ⟨.mv (.l 0), none⟩] [(10, 1)])
 (.block 4 (.loop w_i_UnloadOrder_4)))
 (.seq (.region [⟨.mv (.t 9), none⟩, ⟨.mv (.l 0), none⟩, ⟨.mv (.c (.bool true)), none⟩] [(3, 1), (4, 2)])
 .ret)))))))))
def a_i_UnloadOrder : AFun := ⟨[0, 1, 2, 4, 5, 6, 7, 8, 9, 10, 11, 12, 16, 25, 26, 27, 33, 40, 41, 42, 57, 67, 71, 73, 74, 75, 90], 101, c_i_UnloadOrder, [.tmp 3, .tmp 4], 2⟩
def w_l_markLoadS_1 : ACode :=
 (.seq (.seq (.region [⟨.mv (.t 3), none⟩, ⟨.mv (.t 0), none⟩, ⟨.len (.l 1), none⟩, ⟨.bin 0 .lss (.l 0) (.l 2), none⟩] [(4, 3)])
 (.cond (.t 4) .skip (.exit 0)))
 (.seq (.block 1 (.seq (.region [⟨.mv (.t 0), none⟩, ⟨.mv (.t 3), none⟩, ⟨.mv (.t 1), none⟩, ⟨.indexAddrS 2 (.l 0) (.l 1), none⟩, ⟨.fieldAddr 0 (.l 3), none⟩, ⟨.store 1 (.l 4) (.l 2), none⟩] [])
 (.seq (.region [⟨.mv (.t 1), none⟩, ⟨.bin 0 .add (.l 0) (.c (.int .i64 (1))), none⟩, ⟨.mv (.l 1), none⟩] [(1, 2)])
 (.seq (.region [⟨.mv (.t 0), none⟩, ⟨.mv (.t 3), none⟩, ⟨.mv (.t 1), none⟩, ⟨.indexAddrS 2 (.l 0) (.l 1), none⟩, ⟨.fieldAddr 1 (.l 3), none⟩, ⟨.store 1 (.l 4) (.l 2), none⟩] [])
 (.region [⟨.mv (.t 1), none⟩, ⟨.bin 0 .add (.l 0) (.c (.int .i64 (1))), none⟩, ⟨.mv (.l 1), none⟩] [(1, 2)])))))
 (.region [⟨.mv (.t 3), none⟩, ⟨.bin 0 .add (.l 0) (.c (.int .i64 (1))), none⟩, ⟨.mv (.l 1), none⟩] [(3, 2)])))
def c_l_markLoadS : ACode :=
 (.seq (.region [⟨.mv (.c (.int .i64 (0))), none⟩] [(2, 0)])
 (.seq (.seq (.region [⟨.mv (.c (.int .i64 (0))), none⟩] [(3, 0)])
 (.block 0 (.loop w_l_markLoadS_1)))
 (.seq (.region [⟨.mv (.t 1), none⟩, ⟨.mv (.l 0), none⟩] [(2, 1)])
 .ret)))
def a_l_markLoadS : AFun := ⟨[0, 1, 4, 5, 9], 27, c_l_markLoadS, [.tmp 2], 1⟩
def w_l_markIntS_1 : ACode :=
 (.seq (.seq (.region [⟨.mv (.t 3), none⟩, ⟨.mv (.t 0), none⟩, ⟨.len (.l 1), none⟩, ⟨.bin 0 .lss (.l 0) (.l 2), none⟩] [(4, 3)])
 (.cond (.t 4) .skip (.exit 0)))
 (.seq (.block 1 (.seq (.region [⟨.mv (.t 0), none⟩, ⟨.mv (.t 3), none⟩, ⟨.mv (.t 1), none⟩, ⟨.indexAddrS 1 (.l 0) (.l 1), none⟩, ⟨.store 1 (.l 3) (.l 2), none⟩] [])
 (.region [⟨.mv (.t 1), none⟩, ⟨.bin 0 .add (.l 0) (.c (.int .i64 (1))), none⟩, ⟨.mv (.l 1), none⟩] [(1, 2)])))
 (.region [⟨.mv (.t 3), none⟩, ⟨.bin 0 .add (.l 0) (.c (.int .i64 (1))), none⟩, ⟨.mv (.l 1), none⟩] [(3, 2)])))
def c_l_markIntS : ACode :=
 (.seq (.region [⟨.mv (.c (.int .i64 (0))), none⟩] [(2, 0)])
 (.seq (.seq (.region [⟨.mv (.c (.int .i64 (0))), none⟩] [(3, 0)])
 (.block 0 (.loop w_l_markIntS_1)))
 (.seq (.region [⟨.mv (.t 1), none⟩, ⟨.mv (.l 0), none⟩] [(2, 1)])
 .ret)))
def a_l_markIntS : AFun := ⟨[0, 1, 4, 5, 9], 19, c_l_markIntS, [.tmp 2], 1⟩
def w_l_heldIntS_1 : ACode :=
 (.seq (.seq (.region [⟨.mv (.t 3), none⟩, ⟨.mv (.t 0), none⟩, ⟨.len (.l 1), none⟩, ⟨.bin 0 .lss (.l 0) (.l 2), none⟩] [(4, 3)])
 (.cond (.t 4) .skip (.exit 0)))
 (.seq (.block 1 (.seq (.seq (.region [⟨.mv (.t 0), none⟩, ⟨.mv (.t 3), none⟩, ⟨.indexAddrS 1 (.l 0) (.l 1), none⟩, ⟨.load false 1 (.l 2), none⟩, ⟨.mv (.t 1), none⟩, ⟨.bin 0 .neq (.l 3) (.l 4), none⟩] [(5, 5)])
 (.cond (.t 5) (.seq (.region [⟨.mv (.c (.int .i64 (-1))), none⟩] [(2, 0)])
 .ret) .skip))
 (.region [⟨.mv (.t 1), none⟩, ⟨.bin 0 .add (.l 0) (.c (.int .i64 (1))), none⟩, ⟨.mv (.l 1), none⟩] [(1, 2)])))
 (.region [⟨.mv (.t 3), none⟩, ⟨.bin 0 .add (.l 0) (.c (.int .i64 (1))), none⟩, ⟨.mv (.l 1), none⟩] [(3, 2)])))
def c_l_heldIntS : ACode :=
 (.seq (.region [⟨.mv (.c (.int .i64 (0))), none⟩] [(2, 0)])
 (.seq (.seq (.region [⟨.mv (.c (.int .i64 (0))), none⟩] [(3, 0)])
 (.block 0 (.loop w_l_heldIntS_1)))
 (.seq (.region [⟨.mv (.t 1), none⟩, ⟨.mv (.l 0), none⟩] [(2, 1)])
 .ret)))
def a_l_heldIntS : AFun := ⟨[0, 1, 4, 5, 9, 17], 21, c_l_heldIntS, [.tmp 2], 1⟩
def w_s_SafeOrder_1 : ACode :=
 (.seq (.seq (.region [⟨.mv (.t 7), none⟩, ⟨.mv (.t 8), none⟩, ⟨.bin 0 .shr (.l 0) (.l 1), none⟩, ⟨.bin 0 .and (.l 2) (.c (.int .i64 (1))), none⟩, ⟨.bin 0 .eql (.l 3) (.c (.int .i64 (1))), none⟩, ⟨.mv (.l 4), none⟩, ⟨.mv (.t 6), some ((.l 5), false)⟩, ⟨.mv (.t 7), some ((.l 5), false)⟩, ⟨.mv (.t 8), some ((.l 5), false)⟩, ⟨.bin 0 .shl (.c (.int .i64 (1))) (.l 8), some ((.l 5), false)⟩, ⟨.bin 0 .add (.l 7) (.l 9), some ((.l 5), false)⟩, ⟨.indexAddrS 1 (.l 6) (.l 10), some ((.l 5), false)⟩, ⟨.load false 1 (.l 11), some ((.l 5), false)⟩, ⟨.bin 0 .eql (.l 12) (.c (.int .i64 (0))), some ((.l 5), false)⟩, ⟨.pick (.l 5) (.c (.bool true)) (.l 13), none⟩] [(12, 14)])
 (.cond (.t 12) .skip (.exit 2)))
 (.block 3 (.region [⟨.mv (.t 8), none⟩, ⟨.bin 0 .add (.l 0) (.c (.int .i64 (1))), none⟩, ⟨.mv (.l 1), none⟩] [(8, 2)])))
def w_s_SafeOrder_2 : ACode :=
 (.seq (.seq (.region [⟨.mv (.t 5), none⟩, ⟨.len (.l 0), none⟩, ⟨.mv (.t 1), none⟩, ⟨.len (.l 2), none⟩, ⟨.bin 0 .lss (.l 1) (.l 3), none⟩] [(11, 4)])
 (.cond (.t 11) .skip (.exit 0)))
 (.block 1 (.seq (.region [⟨.mv (.c (.int .i64 (0))), none⟩] [(8, 0)])
 (.seq (.block 2 (.loop w_s_SafeOrder_1))
 (.seq (.region [⟨.mv (.t 5), none⟩, ⟨.mv (.t 8), none⟩, ⟨.buildSlice 1 1 [.int .i64 (0)] [(0, 1, (.l 1))], none⟩, ⟨.append false 1 8 (.l 0) (.l 2), none⟩, ⟨.mv (.l 3), none⟩] [(5, 4)])
 (.region [⟨.mv (.t 7), none⟩, ⟨.mv (.t 8), none⟩, ⟨.bin 0 .shl (.c (.int .i64 (1))) (.l 1), none⟩, ⟨.bin 0 .add (.l 0) (.l 2), none⟩, ⟨.mv (.l 3), none⟩] [(7, 4)]))))))
def c_s_SafeOrder : ACode :=
 (.seq (.region [⟨.box (.t 0), none⟩, ⟨.mv (.c (.slice none 0 0 none)), none⟩, ⟨.mv (.c (.bool false)), none⟩] [(2, 0), (3, 1), (4, 2)])
 (.seq (.region [⟨.buildSlice 1 0 [] [], none⟩, ⟨.mv (.l 0), none⟩] [(5, 1)])
 (.seq (.seq (.region [⟨.load true 3 (.t 2), none⟩, ⟨.mv (.t 1), none⟩, ⟨.call (.c (.fn f_s_l10Cargo [] [])) [(.l 0), (.l 1)], none⟩, ⟨.un .not (.l 2), none⟩] [(9, 3)])
 (.cond (.t 9) (.seq (.region [⟨.mv (.t 5), none⟩, ⟨.mv (.l 0), none⟩, ⟨.mv (.c (.bool false)), none⟩] [(3, 1), (4, 2)])
 .ret) .skip))
 (.seq (.region [⟨.load true 3 (.t 2), none⟩, ⟨.mv (.t 1), none⟩, ⟨.call (.c (.fn f_s_l10Ways [] [])) [(.l 0), (.l 1)], none⟩, ⟨.mv (.l 2), none⟩, ⟨.mv (.c (.int .i64 (0))), none⟩] [(6, 3), (7, 4)])
 (.seq (.seq (.region [⟨.mv (.t 6), none⟩, ⟨.indexAddrS 1 (.l 0) (.c (.int .i64 (0))), none⟩, ⟨.load false 1 (.l 1), none⟩, ⟨.bin 0 .eql (.l 2) (.c (.int .i64 (0))), none⟩] [(10, 3)])
 (.cond (.t 10) (.seq (.region [⟨.mv (.t 5), none⟩, ⟨.mv (.l 0), none⟩, ⟨.mv (.c (.bool false)), none⟩] [(3, 1), (4, 2)])
 .ret) .skip))
 (.seq (.block 0 (.loop w_s_SafeOrder_2))
 (.seq (.region [⟨.mv (.t 5), none⟩, ⟨.mv (.l 0), none⟩, ⟨.mv (.c (.bool true)), none⟩] [(3, 1), (4, 2)])
 .ret)))))))
def a_s_SafeOrder : AFun := ⟨[0, 1, 2, 4, 5, 6, 7, 8, 9, 14, 22, 28, 43], 55, c_s_SafeOrder, [.tmp 3, .tmp 4], 2⟩
def w_i_SafeOrder_1 : ACode :=
 (.seq (.seq (.region [⟨.mv (.t 6), none⟩, ⟨.len (.l 0), none⟩, ⟨.mv (.t 1), none⟩, ⟨.len (.l 2), none⟩, ⟨.bin 0 .lss (.l 1) (.l 3), none⟩] [(11, 4)])
 (.cond (.t 11) .skip (.exit 0)))
 (.block 1 (.seq (.region [⟨.mv (.t 1), none⟩, ⟨.mv (.t 5), none⟩, ⟨.mv (.t 7), none⟩, ⟨.call (.c (.fn f_i_stepsFrom [] [])) [(.l 0), (.l 1), (.l 2)], none⟩, ⟨.indexAddrS 1 (.l 3) (.c (.int .i64 (0))), none⟩, ⟨.load false 1 (.l 4), none⟩, ⟨.mv (.l 5), none⟩] [(8, 6)])
 (.seq (.region [⟨.mv (.t 6), none⟩, ⟨.mv (.t 8), none⟩, ⟨.buildSlice 1 1 [.int .i64 (0)] [(0, 1, (.l 1))], none⟩, ⟨.append false 1 8 (.l 0) (.l 2), none⟩, ⟨.mv (.l 3), none⟩] [(6, 4)])
 (.region [⟨.mv (.t 7), none⟩, ⟨.mv (.t 8), none⟩, ⟨.bin 0 .shl (.c (.int .i64 (1))) (.l 1), none⟩, ⟨.bin 0 .or (.l 0) (.l 2), none⟩, ⟨.mv (.l 3), none⟩] [(7, 4)])))))
def c_i_SafeOrder : ACode :=
 (.seq (.region [⟨.box (.t 0), none⟩, ⟨.mv (.c (.slice none 0 0 none)), none⟩, ⟨.mv (.c (.bool false)), none⟩] [(2, 0), (3, 1), (4, 2)])
 (.seq (.seq (.region [⟨.load true 3 (.t 2), none⟩, ⟨.mv (.t 1), none⟩, ⟨.call (.c (.fn f_i_areCargo [] [])) [(.l 0), (.l 1)], none⟩, ⟨.un .not (.l 2), none⟩] [(9, 3)])
 (.cond (.t 9) (.seq (.region [⟨.mv (.c (.slice none 0 0 none)), none⟩, ⟨.mv (.c (.bool false)), none⟩] [(3, 0), (4, 1)])
 .ret) .skip))
 (.seq (.region [⟨.load true 3 (.t 2), none⟩, ⟨.mv (.t 1), none⟩, ⟨.call (.c (.fn f_i_Raft_waysOf [] [])) [(.l 0), (.l 1)], none⟩, ⟨.buildSlice 1 0 [] [], none⟩, ⟨.mv (.l 2), none⟩, ⟨.mv (.l 3), none⟩, ⟨.mv (.c (.int .i64 (0))), none⟩] [(5, 4), (6, 5), (7, 6)])
 (.seq (.seq (.region [⟨.mv (.t 5), none⟩, ⟨.indexAddrS 1 (.l 0) (.c (.int .i64 (0))), none⟩, ⟨.load false 1 (.l 1), none⟩, ⟨.bin 0 .eql (.l 2) (.c (.int .i64 (0))), none⟩] [(10, 3)])
 (.cond (.t 10) (.seq (.region [⟨.mv (.c (.slice none 0 0 none)), none⟩, ⟨.mv (.c (.bool false)), none⟩] [(3, 0), (4, 1)])
 .ret) .skip))
 (.seq (.block 0 (.loop w_i_SafeOrder_1))
 (.seq (.region [⟨.mv (.t 6), none⟩, ⟨.mv (.l 0), none⟩, ⟨.mv (.c (.bool true)), none⟩] [(3, 1), (4, 2)])
 .ret))))))
def a_i_SafeOrder : AFun := ⟨[0, 1, 2, 4, 5, 6, 7, 8, 9, 13, 21, 26], 42, c_i_SafeOrder, [.tmp 3, .tmp 4], 2⟩
def w_s_SafeStep_1 : ACode :=
 (.seq (.seq (.region [⟨.mv (.t 10), none⟩, ⟨.mv (.t 1), none⟩, ⟨.len (.l 1), none⟩, ⟨.bin 0 .lss (.l 0) (.l 2), none⟩] [(12, 3)])
 (.cond (.t 12) .skip (.exit 0)))
 (.seq (.block 1 (.seq (.region [⟨.mv (.t 7), none⟩, ⟨.mv (.t 10), none⟩, ⟨.bin 0 .shr (.l 0) (.l 1), none⟩, ⟨.bin 0 .and (.l 2) (.c (.int .i64 (1))), none⟩, ⟨.bin 0 .eql (.l 3) (.c (.int .i64 (0))), none⟩, ⟨.mv (.l 4), none⟩, ⟨.mv (.t 9), some ((.l 5), true)⟩, ⟨.mv (.t 7), some ((.l 5), true)⟩, ⟨.mv (.t 10), some ((.l 5), true)⟩, ⟨.bin 0 .shl (.c (.int .i64 (1))) (.l 8), some ((.l 5), true)⟩, ⟨.bin 0 .add (.l 7) (.l 9), some ((.l 5), true)⟩, ⟨.indexAddrS 1 (.l 6) (.l 10), some ((.l 5), true)⟩, ⟨.load false 1 (.l 11), some ((.l 5), true)⟩, ⟨.bin 0 .gtr (.l 12) (.c (.int .i64 (0))), some ((.l 5), true)⟩, ⟨.pick (.l 5) (.l 13) (.c (.bool false)), none⟩] [(13, 14)])
 (.cond (.t 13) (.region [⟨.mv (.t 6), none⟩, ⟨.mv (.t 10), none⟩, ⟨.buildSlice 1 1 [.int .i64 (0)] [(0, 1, (.l 1))], none⟩, ⟨.append false 1 8 (.l 0) (.l 2), none⟩, ⟨.mv (.l 3), none⟩] [(6, 4)]) .skip)))
 (.region [⟨.mv (.t 10), none⟩, ⟨.bin 0 .add (.l 0) (.c (.int .i64 (1))), none⟩, ⟨.mv (.l 1), none⟩] [(10, 2)])))
def c_s_SafeStep : ACode :=
 (.seq (.region [⟨.box (.t 0), none⟩, ⟨.mv (.c (.slice none 0 0 none)), none⟩, ⟨.mv (.c (.bool false)), none⟩] [(3, 0), (4, 1), (5, 2)])
 (.seq (.region [⟨.buildSlice 1 0 [] [], none⟩, ⟨.mv (.l 0), none⟩] [(6, 1)])
 (.seq (.region [⟨.load true 3 (.t 3), none⟩, ⟨.mv (.t 1), none⟩, ⟨.mv (.t 2), none⟩, ⟨.call (.c (.fn f_s_l10Code [] [])) [(.l 0), (.l 1), (.l 2)], none⟩, ⟨.mv (.l 3), none⟩, ⟨.extract 0 (.l 4), none⟩, ⟨.extract 1 (.l 4), none⟩, ⟨.mv (.l 5), none⟩, ⟨.mv (.l 6), none⟩] [(7, 7), (8, 8)])
 (.seq (.seq (.region [⟨.mv (.t 8), none⟩, ⟨.un .not (.l 0), none⟩, ⟨.mv (.l 1), none⟩, ⟨.load true 3 (.t 3), some ((.l 2), false)⟩, ⟨.mv (.t 1), some ((.l 2), false)⟩, ⟨.mv (.t 7), some ((.l 2), false)⟩, ⟨.call (.c (.fn f_s_l10Safe [] [])) [(.l 3), (.l 4), (.l 5)], some ((.l 2), false)⟩, ⟨.un .not (.l 6), some ((.l 2), false)⟩, ⟨.pick (.l 2) (.c (.bool true)) (.l 7), none⟩] [(11, 8)])
 (.cond (.t 11) (.seq (.region [⟨.mv (.t 6), none⟩, ⟨.mv (.l 0), none⟩, ⟨.mv (.c (.bool false)), none⟩] [(4, 1), (5, 2)])
 .ret) .skip))
 (.seq (.region [⟨.load true 3 (.t 3), none⟩, ⟨.mv (.t 1), none⟩, ⟨.call (.c (.fn f_s_l10Ways [] [])) [(.l 0), (.l 1)], none⟩, ⟨.mv (.l 2), none⟩] [(9, 3)])
 (.seq (.seq (.region [⟨.mv (.c (.int .i64 (0))), none⟩] [(10, 0)])
 (.block 0 (.loop w_s_SafeStep_1)))
 (.seq (.region [⟨.mv (.t 6), none⟩, ⟨.mv (.l 0), none⟩, ⟨.mv (.c (.bool true)), none⟩] [(4, 1), (5, 2)])
 .ret)))))))
def a_s_SafeStep : AFun := ⟨[0, 1, 2, 3, 6, 7, 8, 9, 10, 11, 12, 29, 37, 54], 60, c_s_SafeStep, [.tmp 4, .tmp 5], 2⟩
def c_i_SafeStep : ACode :=
 (.seq (.region [⟨.box (.t 0), none⟩, ⟨.mv (.c (.slice none 0 0 none)), none⟩, ⟨.mv (.c (.bool false)), none⟩] [(3, 0), (4, 1), (5, 2)])
 (.seq (.region [⟨.mv (.t 1), none⟩, ⟨.mv (.t 2), none⟩, ⟨.call (.c (.fn f_i_bitsOf [] [])) [(.l 0), (.l 1)], none⟩, ⟨.mv (.l 2), none⟩, ⟨.extract 0 (.l 3), none⟩, ⟨.extract 1 (.l 3), none⟩, ⟨.mv (.l 4), none⟩, ⟨.mv (.l 5), none⟩] [(6, 6), (7, 7)])
 (.seq (.seq (.region [⟨.mv (.t 7), none⟩, ⟨.un .not (.l 0), none⟩, ⟨.mv (.l 1), none⟩, ⟨.load true 3 (.t 3), some ((.l 2), false)⟩, ⟨.mv (.t 1), some ((.l 2), false)⟩, ⟨.call (.c (.fn f_i_areCargo [] [])) [(.l 3), (.l 4)], some ((.l 2), false)⟩, ⟨.un .not (.l 5), some ((.l 2), false)⟩, ⟨.pick (.l 2) (.c (.bool true)) (.l 6), none⟩, ⟨.mv (.l 7), none⟩, ⟨.load true 3 (.t 3), some ((.l 8), false)⟩, ⟨.mv (.t 1), some ((.l 8), false)⟩, ⟨.mv (.t 6), some ((.l 8), false)⟩, ⟨.call (.c (.fn f_i_Raft_isSafe [] [])) [(.l 9), (.l 10), (.l 11)], some ((.l 8), false)⟩, ⟨.un .not (.l 12), some ((.l 8), false)⟩, ⟨.pick (.l 8) (.c (.bool true)) (.l 13), none⟩] [(8, 14)])
 (.cond (.t 8) (.seq (.region [⟨.mv (.c (.slice none 0 0 none)), none⟩, ⟨.mv (.c (.bool false)), none⟩] [(4, 0), (5, 1)])
 .ret) .skip))
 (.seq (.region [⟨.mv (.t 1), none⟩, ⟨.load true 3 (.t 3), none⟩, ⟨.mv (.t 1), none⟩, ⟨.call (.c (.fn f_i_Raft_waysOf [] [])) [(.l 1), (.l 2)], none⟩, ⟨.mv (.t 6), none⟩, ⟨.call (.c (.fn f_i_stepsFrom [] [])) [(.l 0), (.l 3), (.l 4)], none⟩, ⟨.mv (.l 5), none⟩, ⟨.mv (.c (.bool true)), none⟩] [(4, 6), (5, 7)])
 .ret))))
def a_i_SafeStep : AFun := ⟨[0, 1, 2, 3, 6, 7, 8, 9, 30], 37, c_i_SafeStep, [.tmp 4, .tmp 5], 2⟩
def c_l_rBig : ACode :=
 (.seq (.region [⟨.mv (.c (.bool false)), none⟩] [(1, 0)])
 (.seq (.region [⟨.mv (.t 0), none⟩, ⟨.len (.l 0), none⟩, ⟨.bin 0 .gtr (.l 1) (.c (.int .i64 (65536))), none⟩, ⟨.mv (.l 2), none⟩] [(1, 3)])
 .ret))
def a_l_rBig : AFun := ⟨[0, 2], 6, c_l_rBig, [.tmp 1], 1⟩
def c_s_DrawRaftSide : ACode :=
 (.seq (.region [⟨.alloc [.int .i64 (0), .int .i64 (0), .int .i64 (0)], none⟩, ⟨.mv (.c (.slice none 0 0 none)), none⟩, ⟨.mv (.c (.slice none 0 0 none)), none⟩] [(1, 0), (2, 1), (3, 2)])
 (.seq (.region [⟨.mv (.t 0), none⟩, ⟨.build [.slice none 0 0 none, .int .i64 (0), .int .u64 (0)] [(0, 1, (.l 0))], none⟩, ⟨.box (.l 1), none⟩, ⟨.mv (.l 2), none⟩] [(4, 3)])
 (.seq (.region [⟨.mv (.t 4), none⟩, ⟨.call (.c (.fn f_s_l1Cur_raft [] [])) [(.l 0)], none⟩, ⟨.mv (.t 4), none⟩, ⟨.call (.c (.fn f_s_l1Cur_cargo [] [])) [(.l 2)], none⟩, ⟨.alloc [.int .i64 (0), .int .i64 (0), .int .i64 (0)], none⟩, ⟨.store 3 (.l 4) (.l 1), none⟩, ⟨.mv (.l 3), none⟩] [(5, 4), (6, 6)])
 (.seq (.draw [⟨.load true 3 (.t 5), none, []⟩, ⟨.mv (.t 6), none, []⟩, ⟨.mv (.t 4), none, []⟩, ⟨.mv (.t 6), none, []⟩, ⟨.call (.c (.fn f_s_l1Cur_setOf [] [])) [(.l 2), (.l 3)], none, [(0, ⟨.load true 3 (.t 5), none⟩)]⟩, ⟨.store 3 (.t 1) (.l 0), none, []⟩, ⟨.mv (.l 1), none, []⟩, ⟨.mv (.l 4), none, []⟩] [(2, 6), (3, 7)])
 .ret))))
def a_s_DrawRaftSide : AFun := ⟨[0, 2, 3, 4, 5, 6, 7], 20, c_s_DrawRaftSide, [.cell 1 true 3, .tmp 2, .tmp 3], 2⟩
def c_i_RaftSide : ACode :=
 (.seq (.region [⟨.box (.t 0), none⟩, ⟨.mv (.c (.int .i64 (0))), none⟩, ⟨.mv (.c (.bool false)), none⟩] [(3, 0), (4, 1), (5, 2)])
 (.seq (.region [⟨.load true 3 (.t 3), none⟩, ⟨.mv (.t 1), none⟩, ⟨.mv (.t 2), none⟩, ⟨.call (.c (.fn f_i_RaftReserve [] [])) [(.l 0), (.l 1), (.l 2)], none⟩, ⟨.mv (.l 3), none⟩, ⟨.extract 0 (.l 4), none⟩, ⟨.extract 1 (.l 4), none⟩, ⟨.extract 2 (.l 4), none⟩, ⟨.mv (.l 5), none⟩, ⟨.mv (.l 6), none⟩, ⟨.mv (.l 7), none⟩] [(6, 8), (7, 9), (8, 10)])
 (.seq (.block 0 (.seq (.region [⟨.mv (.t 6), none⟩, ⟨.bin 0 .lss (.l 0) (.c (.int .i64 (0))), none⟩, ⟨.mv (.l 1), none⟩] [(9, 2)])
 (.cond (.t 9) (.seq (.region [⟨.mv (.t 8), none⟩, ⟨.mv (.c (.int .i64 (-1))), none⟩, ⟨.mv (.l 0), none⟩] [(4, 1), (5, 2)])
 .ret) (.seq (.region [⟨.mv (.t 7), none⟩, ⟨.bin 0 .lss (.l 0) (.c (.int .i64 (0))), none⟩, ⟨.mv (.l 1), none⟩] [(10, 2)])
 (.cond (.t 10) (.seq (.region [⟨.mv (.t 8), none⟩, ⟨.mv (.c (.int .i64 (1))), none⟩, ⟨.mv (.l 0), none⟩] [(4, 1), (5, 2)])
 .ret) .skip)))))
 (.seq (.region [⟨.mv (.t 8), none⟩, ⟨.mv (.c (.int .i64 (0))), none⟩, ⟨.mv (.l 0), none⟩] [(4, 1), (5, 2)])
 .ret))))
def a_i_RaftSide : AFun := ⟨[0, 1, 2, 3, 6, 7, 8, 9, 10, 19, 23], 28, c_i_RaftSide, [.tmp 4, .tmp 5], 1⟩
def c_s_RaftSide : ACode :=
 (.seq (.region [⟨.box (.t 0), none⟩, ⟨.mv (.c (.int .i64 (0))), none⟩, ⟨.mv (.c (.bool false)), none⟩] [(3, 0), (4, 1), (5, 2)])
 (.seq (.region [⟨.load true 3 (.t 3), none⟩, ⟨.mv (.t 1), none⟩, ⟨.mv (.t 2), none⟩, ⟨.call (.c (.fn f_s_l10Code [] [])) [(.l 0), (.l 1), (.l 2)], none⟩, ⟨.mv (.l 3), none⟩, ⟨.extract 0 (.l 4), none⟩, ⟨.extract 1 (.l 4), none⟩, ⟨.mv (.l 5), none⟩, ⟨.mv (.l 6), none⟩] [(6, 7), (7, 8)])
 (.seq (.seq (.region [⟨.mv (.t 7), none⟩, ⟨.un .not (.l 0), none⟩] [(10, 1)])
 (.cond (.t 10) (.seq (.region [⟨.mv (.c (.int .i64 (0))), none⟩, ⟨.mv (.c (.bool false)), none⟩] [(4, 0), (5, 1)])
 .ret) .skip))
 (.seq (.region [⟨.load true 3 (.t 3), none⟩, ⟨.mv (.t 1), none⟩, ⟨.mv (.t 6), none⟩, ⟨.call (.c (.fn f_s_l10Reserve [] [])) [(.l 0), (.l 1), (.l 2)], none⟩, ⟨.mv (.l 3), none⟩, ⟨.extract 0 (.l 4), none⟩, ⟨.extract 1 (.l 4), none⟩, ⟨.mv (.l 5), none⟩, ⟨.mv (.l 6), none⟩] [(8, 7), (9, 8)])
 (.seq (.seq (.region [⟨.mv (.t 8), none⟩, ⟨.bin 0 .lss (.l 0) (.c (.int .i64 (0))), none⟩] [(11, 1)])
 (.cond (.t 11) (.seq (.region [⟨.mv (.c (.int .i64 (-1))), none⟩, ⟨.mv (.c (.bool true)), none⟩] [(4, 0), (5, 1)])
 .ret) .skip))
 (.seq (.seq (.region [⟨.mv (.t 9), none⟩, ⟨.bin 0 .lss (.l 0) (.c (.int .i64 (0))), none⟩] [(12, 1)])
 (.cond (.t 12) (.seq (.region [⟨.mv (.c (.int .i64 (1))), none⟩, ⟨.mv (.c (.bool true)), none⟩] [(4, 0), (5, 1)])
 .ret) .skip))
 (.seq (.region [⟨.mv (.c (.int .i64 (0))), none⟩, ⟨.mv (.c (.bool true)), none⟩] [(4, 0), (5, 1)])
 .ret)))))))
def a_s_RaftSide : AFun := ⟨[0, 1, 2, 3, 6, 7, 8, 9, 10, 11, 20, 29, 31], 32, c_s_RaftSide, [.tmp 4, .tmp 5], 1⟩
def c_i_RaftReserve : ACode :=
 (.seq (.region [⟨.box (.t 0), none⟩, ⟨.mv (.c (.int .i64 (0))), none⟩, ⟨.mv (.c (.int .i64 (0))), none⟩, ⟨.mv (.c (.bool false)), none⟩] [(3, 0), (4, 1), (5, 2), (6, 3)])
 (.seq (.region [⟨.mv (.t 1), none⟩, ⟨.mv (.t 2), none⟩, ⟨.call (.c (.fn f_i_bitsOf [] [])) [(.l 0), (.l 1)], none⟩, ⟨.mv (.l 2), none⟩, ⟨.extract 0 (.l 3), none⟩, ⟨.extract 1 (.l 3), none⟩, ⟨.mv (.l 4), none⟩, ⟨.mv (.l 5), none⟩] [(7, 6), (8, 7)])
 (.seq (.seq (.region [⟨.mv (.t 8), none⟩, ⟨.un .not (.l 0), none⟩, ⟨.mv (.l 1), none⟩, ⟨.load true 3 (.t 3), some ((.l 2), false)⟩, ⟨.mv (.t 1), some ((.l 2), false)⟩, ⟨.call (.c (.fn f_i_areCargo [] [])) [(.l 3), (.l 4)], some ((.l 2), false)⟩, ⟨.un .not (.l 5), some ((.l 2), false)⟩, ⟨.pick (.l 2) (.c (.bool true)) (.l 6), none⟩] [(11, 7)])
 (.cond (.t 11) (.seq (.region [⟨.mv (.c (.int .i64 (0))), none⟩, ⟨.mv (.c (.int .i64 (0))), none⟩, ⟨.mv (.c (.bool false)), none⟩] [(4, 0), (5, 1), (6, 2)])
 .ret) .skip))
 (.seq (.region [⟨.load true 3 (.t 3), none⟩, ⟨.mv (.t 1), none⟩, ⟨.mv (.t 7), none⟩, ⟨.call (.c (.fn f_i_Raft_reserve [] [])) [(.l 0), (.l 1), (.l 2)], none⟩, ⟨.mv (.l 3), none⟩, ⟨.extract 0 (.l 4), none⟩, ⟨.extract 1 (.l 4), none⟩, ⟨.mv (.l 5), none⟩, ⟨.mv (.l 6), none⟩] [(9, 7), (10, 8)])
 (.seq (.region [⟨.mv (.t 9), none⟩, ⟨.mv (.t 10), none⟩, ⟨.mv (.l 0), none⟩, ⟨.mv (.l 1), none⟩, ⟨.mv (.c (.bool true)), none⟩] [(4, 2), (5, 3), (6, 4)])
 .ret)))))
def a_i_RaftReserve : AFun := ⟨[0, 1, 2, 3, 6, 7, 8, 9, 10, 11, 12, 26], 36, c_i_RaftReserve, [.tmp 4, .tmp 5, .tmp 6], 1⟩
def c_s_RaftReserve : ACode :=
 (.seq (.region [⟨.box (.t 0), none⟩, ⟨.mv (.c (.int .i64 (0))), none⟩, ⟨.mv (.c (.int .i64 (0))), none⟩, ⟨.mv (.c (.bool false)), none⟩] [(3, 0), (4, 1), (5, 2), (6, 3)])
 (.seq (.region [⟨.load true 3 (.t 3), none⟩, ⟨.mv (.t 1), none⟩, ⟨.mv (.t 2), none⟩, ⟨.call (.c (.fn f_s_l10Code [] [])) [(.l 0), (.l 1), (.l 2)], none⟩, ⟨.mv (.l 3), none⟩, ⟨.extract 0 (.l 4), none⟩, ⟨.extract 1 (.l 4), none⟩, ⟨.mv (.l 5), none⟩, ⟨.mv (.l 6), none⟩] [(7, 7), (8, 8)])
 (.seq (.seq (.region [⟨.mv (.t 8), none⟩, ⟨.un .not (.l 0), none⟩] [(11, 1)])
 (.cond (.t 11) (.seq (.region [⟨.mv (.c (.int .i64 (0))), none⟩, ⟨.mv (.c (.int .i64 (0))), none⟩, ⟨.mv (.c (.bool false)), none⟩] [(4, 0), (5, 1), (6, 2)])
 .ret) .skip))
 (.seq (.region [⟨.load true 3 (.t 3), none⟩, ⟨.mv (.t 1), none⟩, ⟨.mv (.t 7), none⟩, ⟨.call (.c (.fn f_s_l10Reserve [] [])) [(.l 0), (.l 1), (.l 2)], none⟩, ⟨.mv (.l 3), none⟩, ⟨.extract 0 (.l 4), none⟩, ⟨.extract 1 (.l 4), none⟩, ⟨.mv (.l 5), none⟩, ⟨.mv (.l 6), none⟩] [(9, 7), (10, 8)])
 (.seq (.region [⟨.mv (.t 9), none⟩, ⟨.mv (.t 10), none⟩, ⟨.mv (.l 0), none⟩, ⟨.mv (.l 1), none⟩, ⟨.mv (.c (.bool true)), none⟩] [(4, 2), (5, 3), (6, 4)])
 .ret)))))
def a_s_RaftReserve : AFun := ⟨[0, 1, 2, 3, 6, 7, 8, 9, 10, 11, 12, 21], 31, c_s_RaftReserve, [.tmp 4, .tmp 5, .tmp 6], 1⟩
def w_i_SafeSets_1 : ACode :=
 (.seq (.region [⟨.bin 0 .lss (.t 9) (.t 8), none⟩] [(10, 0)])
 (.seq (.cond (.t 10) .skip (.exit 0))
 (.seq (.block 1 (.seq (.region [⟨.mv (.t 9), none⟩, ⟨.mv (.l 0), none⟩] [(6, 1)])
 (.seq (.region [⟨.load true 3 (.t 2), none⟩, ⟨.mv (.t 1), none⟩, ⟨.mv (.t 6), none⟩, ⟨.call (.c (.fn f_i_Raft_isSafe [] [])) [(.l 0), (.l 1), (.l 2)], none⟩] [(11, 3)])
 (.cond (.t 11) (.region [⟨.mv (.t 5), none⟩, ⟨.bin 0 .add (.l 0) (.c (.int .i64 (1))), none⟩, ⟨.mv (.l 1), none⟩] [(5, 2)]) .skip))))
 (.region [⟨.bin 0 .add (.t 9) (.c (.int .i64 (1))), none⟩, ⟨.mv (.l 0), none⟩] [(9, 1)]))))
def c_i_SafeSets : ACode :=
 (.seq (.region [⟨.box (.t 0), none⟩, ⟨.mv (.c (.int .i64 (0))), none⟩, ⟨.mv (.c (.bool false)), none⟩] [(2, 0), (3, 1), (4, 2)])
 (.seq (.seq (.region [⟨.load true 3 (.t 2), none⟩, ⟨.mv (.t 1), none⟩, ⟨.call (.c (.fn f_i_areCargo [] [])) [(.l 0), (.l 1)], none⟩, ⟨.un .not (.l 2), none⟩] [(7, 3)])
 (.cond (.t 7) (.seq (.region [⟨.mv (.c (.int .i64 (0))), none⟩, ⟨.mv (.c (.bool false)), none⟩] [(3, 0), (4, 1)])
 .ret) .skip))
 (.seq (.region [⟨.mv (.c (.int .i64 (0))), none⟩] [(5, 0)])
 (.seq (.seq (.region [⟨.mv (.t 1), none⟩, ⟨.len (.l 0), none⟩, ⟨.bin 0 .shl (.c (.int .i64 (1))) (.l 1), none⟩, ⟨.mv (.c (.int .i64 (0))), none⟩] [(8, 2), (9, 3)])
 (.block 0 (.loop w_i_SafeSets_1)))
 (.seq (.region [⟨.mv (.t 5), none⟩, ⟨.mv (.l 0), none⟩, ⟨.mv (.c (.bool true)), none⟩] [(3, 1), (4, 2)])
 .ret)))))
def a_i_SafeSets : AFun := ⟨[0, 1, 2, 4, 5, 6, 7, 11, 14, 15, 16, 21], 26, c_i_SafeSets, [.tmp 3, .tmp 4], 1⟩
def w_s_SafeSets_1 : ACode :=
 (.seq (.seq (.region [⟨.mv (.t 6), none⟩, ⟨.mv (.t 1), none⟩, ⟨.len (.l 1), none⟩, ⟨.bin 0 .shl (.c (.int .i64 (1))) (.l 2), none⟩, ⟨.bin 0 .lss (.l 0) (.l 3), none⟩] [(8, 4)])
 (.cond (.t 8) .skip (.exit 0)))
 (.seq (.block 1 (.seq (.region [⟨.load true 3 (.t 2), none⟩, ⟨.mv (.t 1), none⟩, ⟨.mv (.t 6), none⟩, ⟨.call (.c (.fn f_s_l10Safe [] [])) [(.l 0), (.l 1), (.l 2)], none⟩] [(9, 3)])
 (.cond (.t 9) (.region [⟨.mv (.t 5), none⟩, ⟨.bin 0 .add (.l 0) (.c (.int .i64 (1))), none⟩, ⟨.mv (.l 1), none⟩] [(5, 2)]) .skip)))
 (.region [⟨.mv (.t 6), none⟩, ⟨.bin 0 .add (.l 0) (.c (.int .i64 (1))), none⟩, ⟨.mv (.l 1), none⟩] [(6, 2)])))
def c_s_SafeSets : ACode :=
 (.seq (.region [⟨.box (.t 0), none⟩, ⟨.mv (.c (.int .i64 (0))), none⟩, ⟨.mv (.c (.bool false)), none⟩] [(2, 0), (3, 1), (4, 2)])
 (.seq (.seq (.region [⟨.load true 3 (.t 2), none⟩, ⟨.mv (.t 1), none⟩, ⟨.call (.c (.fn f_s_l10Cargo [] [])) [(.l 0), (.l 1)], none⟩, ⟨.un .not (.l 2), none⟩] [(7, 3)])
 (.cond (.t 7) (.seq (.region [⟨.mv (.c (.int .i64 (0))), none⟩, ⟨.mv (.c (.bool false)), none⟩] [(3, 0), (4, 1)])
 .ret) .skip))
 (.seq (.region [⟨.mv (.c (.int .i64 (0))), none⟩] [(5, 0)])
 (.seq (.seq (.region [⟨.mv (.c (.int .i64 (0))), none⟩] [(6, 0)])
 (.block 0 (.loop w_s_SafeSets_1)))
 (.seq (.region [⟨.mv (.t 5), none⟩, ⟨.mv (.l 0), none⟩, ⟨.mv (.c (.bool true)), none⟩] [(3, 1), (4, 2)])
 .ret)))))
def a_s_SafeSets : AFun := ⟨[0, 1, 2, 4, 5, 6, 7, 11, 16, 22], 26, c_s_SafeSets, [.tmp 3, .tmp 4], 1⟩
def c_s_DrawIsSafeOrder : ACode :=
 (.seq (.region [⟨.alloc [.int .i64 (0), .int .i64 (0), .int .i64 (0)], none⟩, ⟨.mv (.c (.slice none 0 0 none)), none⟩, ⟨.mv (.c (.slice none 0 0 none)), none⟩] [(1, 0), (2, 1), (3, 2)])
 (.seq (.region [⟨.mv (.t 0), none⟩, ⟨.build [.slice none 0 0 none, .int .i64 (0), .int .u64 (0)] [(0, 1, (.l 0))], none⟩, ⟨.box (.l 1), none⟩, ⟨.mv (.l 2), none⟩] [(4, 3)])
 (.seq (.region [⟨.mv (.t 4), none⟩, ⟨.call (.c (.fn f_s_l1Cur_raft [] [])) [(.l 0)], none⟩, ⟨.mv (.t 4), none⟩, ⟨.call (.c (.fn f_s_l1Cur_cargo [] [])) [(.l 2)], none⟩, ⟨.alloc [.int .i64 (0), .int .i64 (0), .int .i64 (0)], none⟩, ⟨.store 3 (.l 4) (.l 1), none⟩, ⟨.mv (.l 3), none⟩] [(5, 4), (6, 6)])
 (.seq (.seq (.region [⟨.load true 3 (.t 5), none⟩, ⟨.mv (.t 6), none⟩, ⟨.call (.c (.fn f_s_SafeOrder [] [])) [(.l 0), (.l 1)], none⟩, ⟨.mv (.l 2), none⟩, ⟨.extract 0 (.l 3), none⟩, ⟨.extract 1 (.l 3), none⟩, ⟨.mv (.l 4), none⟩, ⟨.mv (.l 5), none⟩] [(7, 6), (8, 7)])
 (.seq (.region [⟨.mv (.t 8), none⟩, ⟨.mv (.l 0), none⟩, ⟨.mv (.t 4), some ((.l 1), true)⟩, ⟨.call (.c (.fn f_s_l1Cur_one [] [])) [(.l 2), (.c (.int .i64 (2)))], some ((.l 1), true)⟩, ⟨.pick (.l 1) (.l 3) (.c (.bool false)), none⟩] [(9, 4)])
 (.cond (.t 9) (.seq (.region [⟨.load true 3 (.t 5), none⟩, ⟨.mv (.t 6), none⟩, ⟨.mv (.t 7), none⟩, ⟨.store 3 (.t 1) (.l 0), none⟩, ⟨.mv (.l 1), none⟩, ⟨.mv (.l 2), none⟩] [(2, 4), (3, 5)])
 .ret) .skip)))
 (.seq (.draw [⟨.load true 3 (.t 5), none, []⟩, ⟨.mv (.t 6), none, []⟩, ⟨.mv (.t 4), none, []⟩, ⟨.mv (.t 6), none, []⟩, ⟨.call (.c (.fn f_s_l1Cur_orderFor [] [])) [(.l 2), (.l 3)], none, [(0, ⟨.load true 3 (.t 5), none⟩)]⟩, ⟨.store 3 (.t 1) (.l 0), none, []⟩, ⟨.mv (.l 1), none, []⟩, ⟨.mv (.l 4), none, []⟩] [(2, 6), (3, 7)])
 .ret)))))
def a_s_DrawIsSafeOrder : AFun := ⟨[0, 2, 3, 4, 5, 6, 7, 8, 9, 27], 36, c_s_DrawIsSafeOrder, [.cell 1 true 3, .tmp 2, .tmp 3], 2⟩
def c_i_IsSafeOrder : ACode :=
 (.seq (.region [⟨.box (.t 0), none⟩, ⟨.mv (.c (.bool false)), none⟩, ⟨.mv (.c (.bool false)), none⟩] [(3, 0), (4, 1), (5, 2)])
 (.seq (.seq (.region [⟨.load true 3 (.t 3), none⟩, ⟨.mv (.t 1), none⟩, ⟨.call (.c (.fn f_i_areCargo [] [])) [(.l 0), (.l 1)], none⟩, ⟨.un .not (.l 2), none⟩, ⟨.mv (.l 3), none⟩, ⟨.mv (.t 1), some ((.l 4), false)⟩, ⟨.mv (.t 2), some ((.l 4), false)⟩, ⟨.call (.c (.fn f_i_isOrder [] [])) [(.l 5), (.l 6)], some ((.l 4), false)⟩, ⟨.un .not (.l 7), some ((.l 4), false)⟩, ⟨.pick (.l 4) (.c (.bool true)) (.l 8), none⟩] [(6, 9)])
 (.cond (.t 6) (.seq (.region [⟨.mv (.c (.bool false)), none⟩, ⟨.mv (.c (.bool false)), none⟩] [(4, 0), (5, 1)])
 .ret) .skip))
 (.seq (.region [⟨.load true 3 (.t 3), none⟩, ⟨.mv (.t 1), none⟩, ⟨.mv (.t 2), none⟩, ⟨.call (.c (.fn f_i_Raft_firstTip [] [])) [(.l 0), (.l 1), (.l 2)], none⟩, ⟨.bin 0 .eql (.l 3) (.c (.int .i64 (0))), none⟩, ⟨.mv (.l 4), none⟩, ⟨.mv (.c (.bool true)), none⟩] [(4, 5), (5, 6)])
 .ret)))
def a_i_IsSafeOrder : AFun := ⟨[0, 1, 2, 3, 6, 7, 17], 23, c_i_IsSafeOrder, [.tmp 4, .tmp 5], 1⟩
def c_s_IsSafeOrder : ACode :=
 (.seq (.region [⟨.box (.t 0), none⟩, ⟨.mv (.c (.bool false)), none⟩, ⟨.mv (.c (.bool false)), none⟩] [(3, 0), (4, 1), (5, 2)])
 (.seq (.seq (.region [⟨.load true 3 (.t 3), none⟩, ⟨.mv (.t 1), none⟩, ⟨.mv (.t 2), none⟩, ⟨.call (.c (.fn f_s_l10Order [] [])) [(.l 0), (.l 1), (.l 2)], none⟩, ⟨.un .not (.l 3), none⟩] [(6, 4)])
 (.cond (.t 6) (.seq (.region [⟨.mv (.c (.bool false)), none⟩, ⟨.mv (.c (.bool false)), none⟩] [(4, 0), (5, 1)])
 .ret) .skip))
 (.seq (.region [⟨.load true 3 (.t 3), none⟩, ⟨.mv (.t 1), none⟩, ⟨.mv (.t 2), none⟩, ⟨.call (.c (.fn f_s_l10Tip [] [])) [(.l 0), (.l 1), (.l 2)], none⟩, ⟨.bin 0 .lss (.l 3) (.c (.int .i64 (0))), none⟩, ⟨.mv (.l 4), none⟩, ⟨.mv (.c (.bool true)), none⟩] [(4, 5), (5, 6)])
 .ret)))
def a_s_IsSafeOrder : AFun := ⟨[0, 1, 2, 3, 6, 7, 12], 18, c_s_IsSafeOrder, [.tmp 4, .tmp 5], 1⟩
def c_s_DrawIsRaft : ACode :=
 (.seq (.region [⟨.alloc [.int .i64 (0), .int .i64 (0), .int .i64 (0)], none⟩] [(1, 0)])
 (.seq (.region [⟨.mv (.t 0), none⟩, ⟨.build [.slice none 0 0 none, .int .i64 (0), .int .u64 (0)] [(0, 1, (.l 0))], none⟩, ⟨.box (.l 1), none⟩, ⟨.mv (.l 2), none⟩] [(2, 3)])
 (.seq (.region [⟨.mv (.t 2), none⟩, ⟨.call (.c (.fn f_s_l1Cur_raft [] [])) [(.l 0)], none⟩, ⟨.store 3 (.t 1) (.l 1), none⟩] [])
 .ret)))
def a_s_DrawIsRaft : AFun := ⟨[0, 2, 3], 9, c_s_DrawIsRaft, [.cell 1 true 3], 1⟩
def c_i_IsRaft : ACode :=
 (.seq (.region [⟨.box (.t 0), none⟩, ⟨.mv (.c (.bool false)), none⟩] [(1, 0), (2, 1)])
 (.seq (.region [⟨.fieldAddr 0 (.t 1), none⟩, ⟨.load false 1 (.l 0), none⟩, ⟨.fieldAddr 1 (.t 1), none⟩, ⟨.load false 1 (.l 2), none⟩, ⟨.call (.c (.fn f_i_isBase [] [])) [(.l 1), (.l 3)], none⟩, ⟨.mv (.l 4), none⟩, ⟨.fieldAddr 2 (.t 1), some ((.l 5), true)⟩, ⟨.load false 1 (.l 6), some ((.l 5), true)⟩, ⟨.call (.c (.fn f_i_within [] [])) [(.l 7), (.c (.int .i64 (1))), (.c (.int .i64 (99)))], some ((.l 5), true)⟩, ⟨.pick (.l 5) (.l 8) (.c (.bool false)), none⟩, ⟨.mv (.l 9), none⟩] [(2, 10)])
 .ret))
def a_i_IsRaft : AFun := ⟨[0, 1, 2], 13, c_i_IsRaft, [.tmp 2], 1⟩
def c_s_IsRaft : ACode :=
 (.seq (.region [⟨.box (.t 0), none⟩, ⟨.mv (.c (.bool false)), none⟩] [(1, 0), (2, 1)])
 (.seq (.region [⟨.load true 3 (.t 1), none⟩, ⟨.call (.c (.fn f_s_l10Raft [] [])) [(.l 0)], none⟩, ⟨.mv (.l 1), none⟩] [(2, 2)])
 .ret))
def a_s_IsRaft : AFun := ⟨[0, 1, 2], 5, c_s_IsRaft, [.tmp 2], 1⟩
def w_l_rHas_1 : ACode :=
 (.seq (.seq (.region [⟨.mv (.t 3), none⟩, ⟨.mv (.t 0), none⟩, ⟨.len (.l 1), none⟩, ⟨.bin 0 .lss (.l 0) (.l 2), none⟩] [(4, 3)])
 (.cond (.t 4) .skip (.exit 0)))
 (.seq (.block 1 (.seq (.region [⟨.mv (.t 0), none⟩, ⟨.mv (.t 3), none⟩, ⟨.indexAddrS 1 (.l 0) (.l 1), none⟩, ⟨.load false 1 (.l 2), none⟩, ⟨.mv (.t 1), none⟩, ⟨.bin 0 .eql (.l 3) (.l 4), none⟩] [(5, 5)])
 (.cond (.t 5) (.seq (.region [⟨.mv (.c (.bool true)), none⟩] [(2, 0)])
 .ret) .skip)))
 (.region [⟨.mv (.t 3), none⟩, ⟨.bin 0 .add (.l 0) (.c (.int .i64 (1))), none⟩, ⟨.mv (.l 1), none⟩] [(3, 2)])))
def c_l_rHas : ACode :=
 (.seq (.region [⟨.mv (.c (.bool false)), none⟩] [(2, 0)])
 (.seq (.seq (.region [⟨.mv (.c (.int .i64 (0))), none⟩] [(3, 0)])
 (.block 0 (.loop w_l_rHas_1)))
 (.seq (.region [⟨.mv (.c (.bool false)), none⟩] [(2, 0)])
 .ret)))
def a_l_rHas : AFun := ⟨[0, 1, 4, 5, 9, 17], 18, c_l_rHas, [.tmp 2], 1⟩
def c_s_DrawSafeOrder : ACode :=
 (.seq (.region [⟨.alloc [.int .i64 (0), .int .i64 (0), .int .i64 (0)], none⟩, ⟨.mv (.c (.slice none 0 0 none)), none⟩] [(1, 0), (2, 1)])
 (.seq (.region [⟨.mv (.t 0), none⟩, ⟨.call (.c (.fn f_s_DrawSafeSets [] [])) [(.l 0)], none⟩, ⟨.extract 0 (.l 1), none⟩, ⟨.extract 1 (.l 1), none⟩, ⟨.store 3 (.t 1) (.l 2), none⟩, ⟨.mv (.l 3), none⟩] [(2, 5)])
 .ret))
def a_s_DrawSafeOrder : AFun := ⟨[0, 2, 3], 8, c_s_DrawSafeOrder, [.cell 1 true 3, .tmp 2], 2⟩
def w_l_rInts_1 : ACode :=
 (.seq (.seq (.region [⟨.mv (.t 3), none⟩, ⟨.mv (.t 0), none⟩, ⟨.len (.l 1), none⟩, ⟨.bin 0 .lss (.l 0) (.l 2), none⟩] [(5, 3)])
 (.cond (.t 5) .skip (.exit 0)))
 (.seq (.block 1 (.seq (.draw [⟨.mv (.t 0), none, []⟩, ⟨.mv (.t 3), none, []⟩, ⟨.indexAddrS 1 (.l 0) (.l 1), none, []⟩, ⟨.load false 1 (.l 2), none, []⟩, ⟨.mv (.t 1), none, []⟩, ⟨.mv (.t 3), none, []⟩, ⟨.indexAddrS 1 (.l 4) (.l 5), none, []⟩, ⟨.load false 1 (.l 6), none, []⟩, ⟨.bin 0 .neq (.l 3) (.l 7), none, []⟩] [(6, 8)])
 (.cond (.t 6) (.seq (.region [⟨.mv (.c (.bool false)), none⟩] [(2, 0)])
 .ret) .skip)))
 (.region [⟨.mv (.t 3), none⟩, ⟨.bin 0 .add (.l 0) (.c (.int .i64 (1))), none⟩, ⟨.mv (.l 1), none⟩] [(3, 2)])))
def c_l_rInts : ACode :=
 (.seq (.region [⟨.mv (.c (.bool false)), none⟩] [(2, 0)])
 (.seq (.seq (.region [⟨.mv (.t 0), none⟩, ⟨.len (.l 0), none⟩, ⟨.mv (.t 1), none⟩, ⟨.len (.l 2), none⟩, ⟨.bin 0 .neq (.l 1) (.l 3), none⟩] [(4, 4)])
 (.cond (.t 4) (.seq (.region [⟨.mv (.c (.bool false)), none⟩] [(2, 0)])
 .ret) .skip))
 (.seq (.seq (.region [⟨.mv (.c (.int .i64 (0))), none⟩] [(3, 0)])
 (.block 0 (.loop w_l_rInts_1)))
 (.seq (.region [⟨.mv (.c (.bool true)), none⟩] [(2, 0)])
 .ret))))
def a_l_rInts : AFun := ⟨[0, 1, 4, 5, 10, 14, 25], 26, c_l_rInts, [.tmp 2], 1⟩
def c_i_CountSafe : ACode :=
 (.seq (.region [⟨.box (.t 0), none⟩, ⟨.mv (.c (.int .i64 (0))), none⟩, ⟨.mv (.c (.bool false)), none⟩] [(2, 0), (3, 1), (4, 2)])
 (.seq (.seq (.region [⟨.load true 3 (.t 2), none⟩, ⟨.mv (.t 1), none⟩, ⟨.call (.c (.fn f_i_areCargo [] [])) [(.l 0), (.l 1)], none⟩, ⟨.un .not (.l 2), none⟩] [(5, 3)])
 (.cond (.t 5) (.seq (.region [⟨.mv (.c (.int .i64 (0))), none⟩, ⟨.mv (.c (.bool false)), none⟩] [(3, 0), (4, 1)])
 .ret) .skip))
 (.seq (.region [⟨.load true 3 (.t 2), none⟩, ⟨.mv (.t 1), none⟩, ⟨.call (.c (.fn f_i_Raft_waysOf [] [])) [(.l 0), (.l 1)], none⟩, ⟨.indexAddrS 1 (.l 2) (.c (.int .i64 (0))), none⟩, ⟨.load false 1 (.l 3), none⟩, ⟨.mv (.l 4), none⟩, ⟨.mv (.c (.bool true)), none⟩] [(3, 5), (4, 6)])
 .ret)))
def a_i_CountSafe : AFun := ⟨[0, 1, 2, 4, 5, 9], 15, c_i_CountSafe, [.tmp 3, .tmp 4], 1⟩
def c_s_CountSafe : ACode :=
 (.seq (.region [⟨.box (.t 0), none⟩, ⟨.mv (.c (.int .i64 (0))), none⟩, ⟨.mv (.c (.bool false)), none⟩] [(2, 0), (3, 1), (4, 2)])
 (.seq (.seq (.region [⟨.load true 3 (.t 2), none⟩, ⟨.mv (.t 1), none⟩, ⟨.call (.c (.fn f_s_l10Cargo [] [])) [(.l 0), (.l 1)], none⟩, ⟨.un .not (.l 2), none⟩] [(5, 3)])
 (.cond (.t 5) (.seq (.region [⟨.mv (.c (.int .i64 (0))), none⟩, ⟨.mv (.c (.bool false)), none⟩] [(3, 0), (4, 1)])
 .ret) .skip))
 (.seq (.region [⟨.load true 3 (.t 2), none⟩, ⟨.mv (.t 1), none⟩, ⟨.call (.c (.fn f_s_l10Ways [] [])) [(.l 0), (.l 1)], none⟩, ⟨.indexAddrS 1 (.l 2) (.c (.int .i64 (0))), none⟩, ⟨.load false 1 (.l 3), none⟩, ⟨.mv (.l 4), none⟩, ⟨.mv (.c (.bool true)), none⟩] [(3, 5), (4, 6)])
 .ret)))
def a_s_CountSafe : AFun := ⟨[0, 1, 2, 4, 5, 9], 15, c_s_CountSafe, [.tmp 3, .tmp 4], 1⟩
def w_i_LeastOwn_1 : ACode :=
 (.seq (.seq (.region [⟨.mv (.t 5), none⟩, ⟨.bin 0 .leq (.l 0) (.c (.int .i64 (99))), none⟩] [(7, 1)])
 (.cond (.t 7) .skip (.exit 0)))
 (.seq (.block 1 (.seq (.region [⟨.fieldAddr 0 (.t 2), none⟩, ⟨.load false 1 (.l 0), none⟩, ⟨.fieldAddr 1 (.t 2), none⟩, ⟨.load false 1 (.l 2), none⟩, ⟨.mv (.t 5), none⟩, ⟨.build [.int .i64 (0), .int .i64 (0), .int .i64 (0)] [(0, 1, (.l 1)), (1, 1, (.l 3)), (2, 1, (.l 4))], none⟩, ⟨.mv (.t 1), none⟩, ⟨.call (.c (.fn f_i_Raft_waysOf [] [])) [(.l 5), (.l 6)], none⟩, ⟨.indexAddrS 1 (.l 7) (.c (.int .i64 (0))), none⟩, ⟨.load false 1 (.l 8), none⟩, ⟨.bin 0 .gtr (.l 9) (.c (.int .i64 (0))), none⟩] [(8, 10)])
 (.cond (.t 8) (.seq (.region [⟨.mv (.t 5), none⟩, ⟨.mv (.l 0), none⟩, ⟨.mv (.c (.bool true)), none⟩] [(3, 1), (4, 2)])
 .ret) .skip)))
 (.region [⟨.mv (.t 5), none⟩, ⟨.bin 0 .add (.l 0) (.c (.int .i64 (1))), none⟩, ⟨.mv (.l 1), none⟩] [(5, 2)])))
def c_i_LeastOwn : ACode :=
 (.seq (.region [⟨.box (.t 0), none⟩, ⟨.mv (.c (.int .i64 (0))), none⟩, ⟨.mv (.c (.bool false)), none⟩] [(2, 0), (3, 1), (4, 2)])
 (.seq (.seq (.region [⟨.load true 3 (.t 2), none⟩, ⟨.mv (.t 1), none⟩, ⟨.call (.c (.fn f_i_areCargo [] [])) [(.l 0), (.l 1)], none⟩, ⟨.un .not (.l 2), none⟩] [(6, 3)])
 (.cond (.t 6) (.seq (.region [⟨.mv (.c (.int .i64 (0))), none⟩, ⟨.mv (.c (.bool false)), none⟩] [(3, 0), (4, 1)])
 .ret) .skip))
 (.seq (.seq (.region [⟨.mv (.c (.int .i64 (1))), none⟩] [(5, 0)])
 (.block 0 (.loop w_i_LeastOwn_1)))
 (.seq (.region [⟨.mv (.c (.int .i64 (0))), none⟩, ⟨.mv (.c (.bool false)), none⟩] [(3, 0), (4, 1)])
 .ret))))
def a_i_LeastOwn : AFun := ⟨[0, 1, 2, 4, 5, 6, 10, 12, 25], 27, c_i_LeastOwn, [.tmp 3, .tmp 4], 1⟩
def w_s_LeastOwn_1 : ACode :=
 (.seq (.seq (.region [⟨.mv (.t 5), none⟩, ⟨.bin 0 .leq (.l 0) (.c (.int .i64 (99))), none⟩] [(7, 1)])
 (.cond (.t 7) .skip (.exit 0)))
 (.seq (.block 1 (.seq (.region [⟨.fieldAddr 0 (.t 2), none⟩, ⟨.load false 1 (.l 0), none⟩, ⟨.fieldAddr 1 (.t 2), none⟩, ⟨.load false 1 (.l 2), none⟩, ⟨.mv (.t 5), none⟩, ⟨.build [.int .i64 (0), .int .i64 (0), .int .i64 (0)] [(0, 1, (.l 1)), (1, 1, (.l 3)), (2, 1, (.l 4))], none⟩, ⟨.mv (.t 1), none⟩, ⟨.call (.c (.fn f_s_l10Ways [] [])) [(.l 5), (.l 6)], none⟩, ⟨.indexAddrS 1 (.l 7) (.c (.int .i64 (0))), none⟩, ⟨.load false 1 (.l 8), none⟩, ⟨.bin 0 .gtr (.l 9) (.c (.int .i64 (0))), none⟩] [(8, 10)])
 (.cond (.t 8) (.seq (.region [⟨.mv (.t 5), none⟩, ⟨.mv (.l 0), none⟩, ⟨.mv (.c (.bool true)), none⟩] [(3, 1), (4, 2)])
 .ret) .skip)))
 (.region [⟨.mv (.t 5), none⟩, ⟨.bin 0 .add (.l 0) (.c (.int .i64 (1))), none⟩, ⟨.mv (.l 1), none⟩] [(5, 2)])))
def c_s_LeastOwn : ACode :=
 (.seq (.region [⟨.box (.t 0), none⟩, ⟨.mv (.c (.int .i64 (0))), none⟩, ⟨.mv (.c (.bool false)), none⟩] [(2, 0), (3, 1), (4, 2)])
 (.seq (.seq (.region [⟨.load true 3 (.t 2), none⟩, ⟨.mv (.t 1), none⟩, ⟨.call (.c (.fn f_s_l10Cargo [] [])) [(.l 0), (.l 1)], none⟩, ⟨.un .not (.l 2), none⟩] [(6, 3)])
 (.cond (.t 6) (.seq (.region [⟨.mv (.c (.int .i64 (0))), none⟩, ⟨.mv (.c (.bool false)), none⟩] [(3, 0), (4, 1)])
 .ret) .skip))
 (.seq (.seq (.region [⟨.mv (.c (.int .i64 (1))), none⟩] [(5, 0)])
 (.block 0 (.loop w_s_LeastOwn_1)))
 (.seq (.region [⟨.mv (.c (.int .i64 (0))), none⟩, ⟨.mv (.c (.bool false)), none⟩] [(3, 0), (4, 1)])
 .ret))))
def a_s_LeastOwn : AFun := ⟨[0, 1, 2, 4, 5, 6, 10, 12, 25], 27, c_s_LeastOwn, [.tmp 3, .tmp 4], 1⟩
def w_i_PairSteps_1 : ACode :=
 (.seq (.region [⟨.bin 0 .lss (.t 18) (.t 17), none⟩] [(19, 0)])
 (.seq (.cond (.t 19) .skip (.exit 4))
 (.seq (.block 5 (.seq (.region [⟨.mv (.t 18), none⟩, ⟨.mv (.l 0), none⟩] [(9, 1)])
 (.seq (.seq (.region [⟨.mv (.t 7), none⟩, ⟨.mv (.t 8), none⟩, ⟨.bin 0 .shr (.l 0) (.l 1), none⟩, ⟨.bin 0 .and (.l 2) (.c (.int .i64 (1))), none⟩, ⟨.bin 0 .eql (.l 3) (.c (.int .i64 (0))), none⟩, ⟨.mv (.l 4), none⟩, ⟨.mv (.t 7), some ((.l 5), false)⟩, ⟨.mv (.t 9), some ((.l 5), false)⟩, ⟨.bin 0 .shr (.l 6) (.l 7), some ((.l 5), false)⟩, ⟨.bin 0 .and (.l 8) (.c (.int .i64 (1))), some ((.l 5), false)⟩, ⟨.bin 0 .eql (.l 9) (.c (.int .i64 (0))), some ((.l 5), false)⟩, ⟨.pick (.l 5) (.c (.bool true)) (.l 10), none⟩] [(20, 11)])
 (.cond (.t 20) (.exit 5) .skip))
 (.seq (.draw [⟨.mv (.t 6), none, []⟩, ⟨.mv (.t 7), none, []⟩, ⟨.mv (.t 8), none, []⟩, ⟨.bin 0 .shl (.c (.int .i64 (1))) (.l 2), none, []⟩, ⟨.mv (.t 9), none, []⟩, ⟨.bin 0 .shl (.c (.int .i64 (1))) (.l 4), none, []⟩, ⟨.bin 0 .or (.l 3) (.l 5), none, []⟩, ⟨.bin 0 .andNot (.l 1) (.l 6), none, []⟩, ⟨.indexAddrS 1 (.l 0) (.l 7), none, []⟩, ⟨.load false 1 (.l 8), none, []⟩, ⟨.mv (.l 9), none, []⟩] [(10, 10)])
 (.seq (.region [⟨.mv (.t 10), none⟩, ⟨.bin 0 .geq (.l 0) (.c (.int .i64 (0))), none⟩, ⟨.mv (.l 1), none⟩, ⟨.mv (.t 6), some ((.l 2), true)⟩, ⟨.mv (.t 7), some ((.l 2), true)⟩, ⟨.indexAddrS 1 (.l 3) (.l 4), some ((.l 2), true)⟩, ⟨.load false 1 (.l 5), some ((.l 2), true)⟩, ⟨.bin 0 .lss (.l 6) (.c (.int .i64 (0))), some ((.l 2), true)⟩, ⟨.mv (.l 7), some ((.l 2), true)⟩, ⟨.mv (.t 10), some ((.l 8), false)⟩, ⟨.bin 0 .add (.l 9) (.c (.int .i64 (1))), some ((.l 8), false)⟩, ⟨.mv (.t 6), some ((.l 8), false)⟩, ⟨.mv (.t 7), some ((.l 8), false)⟩, ⟨.indexAddrS 1 (.l 11) (.l 12), some ((.l 8), false)⟩, ⟨.load false 1 (.l 13), some ((.l 8), false)⟩, ⟨.bin 0 .lss (.l 10) (.l 14), some ((.l 8), false)⟩, ⟨.pick (.l 8) (.c (.bool true)) (.l 15), some ((.l 2), true)⟩, ⟨.pick (.l 2) (.l 16) (.c (.bool false)), none⟩] [(21, 17)])
 (.cond (.t 21) (.region [⟨.mv (.t 6), none⟩, ⟨.mv (.t 7), none⟩, ⟨.mv (.t 10), none⟩, ⟨.bin 0 .add (.l 2) (.c (.int .i64 (1))), none⟩, ⟨.indexAddrS 1 (.l 0) (.l 1), none⟩, ⟨.store 1 (.l 4) (.l 3), none⟩] []) .skip))))))
 (.region [⟨.bin 0 .add (.t 18) (.c (.int .i64 (1))), none⟩, ⟨.mv (.l 0), none⟩] [(18, 1)]))))
def w_i_PairSteps_2 : ACode :=
 (.seq (.region [⟨.bin 0 .lss (.t 15) (.t 14), none⟩] [(16, 0)])
 (.seq (.cond (.t 16) .skip (.exit 2))
 (.seq (.block 3 (.seq (.region [⟨.mv (.t 15), none⟩, ⟨.mv (.l 0), none⟩] [(8, 1)])
 (.seq (.region [⟨.mv (.t 8), none⟩, ⟨.bin 0 .add (.l 0) (.c (.int .i64 (1))), none⟩, ⟨.mv (.c (.int .i64 (0))), none⟩] [(17, 1), (18, 2)])
 (.block 4 (.loop w_i_PairSteps_1)))))
 (.region [⟨.bin 0 .add (.t 15) (.c (.int .i64 (1))), none⟩, ⟨.mv (.l 0), none⟩] [(15, 1)]))))
def w_i_PairSteps_3 : ACode :=
 (.seq (.seq (.region [⟨.mv (.t 7), none⟩, ⟨.mv (.t 5), none⟩, ⟨.bin 0 .leq (.l 0) (.l 1), none⟩] [(12, 2)])
 (.cond (.t 12) .skip (.exit 0)))
 (.seq (.block 1 (.seq (.region [⟨.mv (.t 6), none⟩, ⟨.mv (.t 7), none⟩, ⟨.indexAddrS 1 (.l 0) (.l 1), none⟩, ⟨.store 1 (.l 2) (.c (.int .i64 (-1))), none⟩] [])
 (.seq (.seq (.region [⟨.load true 3 (.t 2), none⟩, ⟨.mv (.t 1), none⟩, ⟨.mv (.t 7), none⟩, ⟨.call (.c (.fn f_i_Raft_isSafe [] [])) [(.l 0), (.l 1), (.l 2)], none⟩, ⟨.un .not (.l 3), none⟩] [(13, 4)])
 (.cond (.t 13) (.exit 1) .skip))
 (.seq (.region [⟨.mv (.t 1), none⟩, ⟨.len (.l 0), none⟩, ⟨.mv (.c (.int .i64 (0))), none⟩] [(14, 1), (15, 2)])
 (.block 2 (.loop w_i_PairSteps_2))))))
 (.region [⟨.mv (.t 7), none⟩, ⟨.bin 0 .add (.l 0) (.c (.int .i64 (1))), none⟩, ⟨.mv (.l 1), none⟩] [(7, 2)])))
def c_i_PairSteps : ACode :=
 (.seq (.region [⟨.box (.t 0), none⟩, ⟨.mv (.c (.int .i64 (0))), none⟩, ⟨.mv (.c (.bool false)), none⟩] [(2, 0), (3, 1), (4, 2)])
 (.seq (.seq (.region [⟨.load true 3 (.t 2), none⟩, ⟨.mv (.t 1), none⟩, ⟨.call (.c (.fn f_i_areCargo [] [])) [(.l 0), (.l 1)], none⟩, ⟨.un .not (.l 2), none⟩] [(11, 3)])
 (.cond (.t 11) (.seq (.region [⟨.mv (.c (.int .i64 (0))), none⟩, ⟨.mv (.c (.bool false)), none⟩] [(3, 0), (4, 1)])
 .ret) .skip))
 (.seq (.region [⟨.mv (.t 1), none⟩, ⟨.len (.l 0), none⟩, ⟨.bin 0 .shl (.c (.int .i64 (1))) (.l 1), none⟩, ⟨.bin 0 .sub (.l 2) (.c (.int .i64 (1))), none⟩, ⟨.mv (.l 3), none⟩] [(5, 4)])
 (.seq (.region [⟨.mv (.t 5), none⟩, ⟨.bin 0 .add (.l 0) (.c (.int .i64 (1))), none⟩, ⟨.makeSlice 1 8 [.int .i64 (0)] (.l 1) (.l 1), none⟩, ⟨.mv (.l 2), none⟩] [(6, 3)])
 (.seq (.seq (.region [⟨.mv (.c (.int .i64 (1))), none⟩] [(7, 0)])
 (.block 0 (.loop w_i_PairSteps_3)))
 (.seq (.seq (.region [⟨.mv (.t 6), none⟩, ⟨.mv (.t 5), none⟩, ⟨.indexAddrS 1 (.l 0) (.l 1), none⟩, ⟨.load false 1 (.l 2), none⟩, ⟨.bin 0 .lss (.l 3) (.c (.int .i64 (0))), none⟩] [(22, 4)])
 (.cond (.t 22) (.seq (.region [⟨.mv (.c (.int .i64 (0))), none⟩, ⟨.mv (.c (.bool false)), none⟩] [(3, 0), (4, 1)])
 .ret) .skip))
 (.seq (.region [⟨.mv (.t 6), none⟩, ⟨.mv (.t 5), none⟩, ⟨.indexAddrS 1 (.l 0) (.l 1), none⟩, ⟨.load false 1 (.l 2), none⟩, ⟨.mv (.l 3), none⟩, ⟨.mv (.c (.bool true)), none⟩] [(3, 4), (4, 5)])
 .ret)))))))
def a_i_PairSteps : AFun := ⟨[0, 1, 2, 4, 5, 6, 7, 8, 9, 10, 11, 15, 25, 35, 37, 38, 39, 42, 43, 44, 57, 85, 97], 102, c_i_PairSteps, [.tmp 3, .tmp 4], 1⟩
def w_s_PairSteps_1 : ACode :=
 (.seq (.seq (.region [⟨.mv (.t 9), none⟩, ⟨.mv (.t 8), none⟩, ⟨.bin 0 .leq (.l 0) (.l 1), none⟩] [(15, 2)])
 (.cond (.t 15) .skip (.exit 4)))
 (.seq (.block 5 (.seq (.draw [⟨.mv (.t 8), none, []⟩, ⟨.bin 0 .shl (.c (.int .i64 (1))) (.l 0), none, []⟩, ⟨.mv (.t 9), none, []⟩, ⟨.bin 0 .shl (.c (.int .i64 (1))) (.l 2), none, []⟩, ⟨.bin 0 .or (.l 1) (.l 3), none, []⟩, ⟨.mv (.l 4), none, []⟩] [(10, 5)])
 (.seq (.seq (.region [⟨.mv (.t 7), none⟩, ⟨.mv (.t 10), none⟩, ⟨.bin 0 .and (.l 0) (.l 1), none⟩, ⟨.mv (.t 10), none⟩, ⟨.bin 0 .neq (.l 2) (.l 3), none⟩, ⟨.mv (.l 4), none⟩, ⟨.mv (.t 6), some ((.l 5), false)⟩, ⟨.mv (.t 7), some ((.l 5), false)⟩, ⟨.mv (.t 10), some ((.l 5), false)⟩, ⟨.bin 0 .sub (.l 7) (.l 8), some ((.l 5), false)⟩, ⟨.indexAddrS 1 (.l 6) (.l 9), some ((.l 5), false)⟩, ⟨.load false 1 (.l 10), some ((.l 5), false)⟩, ⟨.bin 0 .lss (.l 11) (.c (.int .i64 (0))), some ((.l 5), false)⟩, ⟨.pick (.l 5) (.c (.bool true)) (.l 12), none⟩] [(16, 13)])
 (.cond (.t 16) (.exit 5) .skip))
 (.seq (.draw [⟨.mv (.t 6), none, []⟩, ⟨.mv (.t 7), none, []⟩, ⟨.indexAddrS 1 (.l 0) (.l 1), none, []⟩, ⟨.load false 1 (.l 2), none, []⟩, ⟨.bin 0 .lss (.l 3) (.c (.int .i64 (0))), none, []⟩, ⟨.mv (.l 4), none, []⟩, ⟨.mv (.t 6), some ((.l 5), false), []⟩, ⟨.mv (.t 7), some ((.l 5), false), []⟩, ⟨.mv (.t 10), some ((.l 5), false), []⟩, ⟨.bin 0 .sub (.l 7) (.l 8), some ((.l 5), false), []⟩, ⟨.indexAddrS 1 (.l 6) (.l 9), some ((.l 5), false), []⟩, ⟨.load false 1 (.l 10), some ((.l 5), false), []⟩, ⟨.bin 0 .add (.l 11) (.c (.int .i64 (1))), some ((.l 5), false), []⟩, ⟨.mv (.t 6), some ((.l 5), false), []⟩, ⟨.mv (.t 7), some ((.l 5), false), []⟩, ⟨.indexAddrS 1 (.l 13) (.l 14), some ((.l 5), false), []⟩, ⟨.load false 1 (.l 15), some ((.l 5), false), []⟩, ⟨.bin 0 .lss (.l 12) (.l 16), some ((.l 5), false), []⟩, ⟨.pick (.l 5) (.c (.bool true)) (.l 17), none, []⟩] [(17, 18)])
 (.cond (.t 17) (.region [⟨.mv (.t 6), none⟩, ⟨.mv (.t 7), none⟩, ⟨.mv (.t 6), none⟩, ⟨.mv (.t 7), none⟩, ⟨.mv (.t 10), none⟩, ⟨.bin 0 .sub (.l 3) (.l 4), none⟩, ⟨.indexAddrS 1 (.l 2) (.l 5), none⟩, ⟨.load false 1 (.l 6), none⟩, ⟨.bin 0 .add (.l 7) (.c (.int .i64 (1))), none⟩, ⟨.indexAddrS 1 (.l 0) (.l 1), none⟩, ⟨.store 1 (.l 9) (.l 8), none⟩] []) .skip)))))
 (.region [⟨.mv (.t 9), none⟩, ⟨.bin 0 .add (.l 0) (.c (.int .i64 (1))), none⟩, ⟨.mv (.l 1), none⟩] [(9, 2)])))
def w_s_PairSteps_2 : ACode :=
 (.seq (.seq (.region [⟨.mv (.t 8), none⟩, ⟨.mv (.t 5), none⟩, ⟨.bin 0 .lss (.l 0) (.l 1), none⟩, ⟨.mv (.l 2), none⟩, ⟨.load true 3 (.t 2), some ((.l 3), true)⟩, ⟨.mv (.t 1), some ((.l 3), true)⟩, ⟨.mv (.t 7), some ((.l 3), true)⟩, ⟨.call (.c (.fn f_s_l10Safe [] [])) [(.l 4), (.l 5), (.l 6)], some ((.l 3), true)⟩, ⟨.pick (.l 3) (.l 7) (.c (.bool false)), none⟩] [(14, 8)])
 (.cond (.t 14) .skip (.exit 2)))
 (.seq (.block 3 (.seq (.region [⟨.mv (.c (.int .i64 (0))), none⟩] [(9, 0)])
 (.block 4 (.loop w_s_PairSteps_1))))
 (.region [⟨.mv (.t 8), none⟩, ⟨.bin 0 .add (.l 0) (.c (.int .i64 (1))), none⟩, ⟨.mv (.l 1), none⟩] [(8, 2)])))
def w_s_PairSteps_3 : ACode :=
 (.seq (.seq (.region [⟨.mv (.t 7), none⟩, ⟨.mv (.t 6), none⟩, ⟨.len (.l 1), none⟩, ⟨.bin 0 .lss (.l 0) (.l 2), none⟩] [(13, 3)])
 (.cond (.t 13) .skip (.exit 0)))
 (.seq (.block 1 (.seq (.region [⟨.mv (.t 6), none⟩, ⟨.mv (.t 7), none⟩, ⟨.indexAddrS 1 (.l 0) (.l 1), none⟩, ⟨.store 1 (.l 2) (.c (.int .i64 (-1))), none⟩] [])
 (.seq (.region [⟨.mv (.c (.int .i64 (0))), none⟩] [(8, 0)])
 (.block 2 (.loop w_s_PairSteps_2)))))
 (.region [⟨.mv (.t 7), none⟩, ⟨.bin 0 .add (.l 0) (.c (.int .i64 (1))), none⟩, ⟨.mv (.l 1), none⟩] [(7, 2)])))
def c_s_PairSteps : ACode :=
 (.seq (.region [⟨.box (.t 0), none⟩, ⟨.mv (.c (.int .i64 (0))), none⟩, ⟨.mv (.c (.bool false)), none⟩] [(2, 0), (3, 1), (4, 2)])
 (.seq (.seq (.region [⟨.load true 3 (.t 2), none⟩, ⟨.mv (.t 1), none⟩, ⟨.call (.c (.fn f_s_l10Cargo [] [])) [(.l 0), (.l 1)], none⟩, ⟨.un .not (.l 2), none⟩] [(12, 3)])
 (.cond (.t 12) (.seq (.region [⟨.mv (.c (.int .i64 (0))), none⟩, ⟨.mv (.c (.bool false)), none⟩] [(3, 0), (4, 1)])
 .ret) .skip))
 (.seq (.region [⟨.mv (.t 1), none⟩, ⟨.len (.l 0), none⟩, ⟨.mv (.l 1), none⟩] [(5, 2)])
 (.seq (.region [⟨.mv (.t 5), none⟩, ⟨.bin 0 .shl (.c (.int .i64 (1))) (.l 0), none⟩, ⟨.makeSlice 1 8 [.int .i64 (0)] (.l 1) (.l 1), none⟩, ⟨.mv (.l 2), none⟩] [(6, 3)])
 (.seq (.seq (.region [⟨.mv (.c (.int .i64 (1))), none⟩] [(7, 0)])
 (.block 0 (.loop w_s_PairSteps_3)))
 (.seq (.region [⟨.mv (.t 6), none⟩, ⟨.mv (.t 6), none⟩, ⟨.len (.l 1), none⟩, ⟨.bin 0 .sub (.l 2) (.c (.int .i64 (1))), none⟩, ⟨.indexAddrS 1 (.l 0) (.l 3), none⟩, ⟨.load false 1 (.l 4), none⟩, ⟨.mv (.l 5), none⟩] [(11, 6)])
 (.seq (.region [⟨.mv (.t 11), none⟩, ⟨.call (.c (.fn f_s_l1Most [] [])) [(.l 0), (.c (.int .i64 (0)))], none⟩, ⟨.mv (.t 11), none⟩, ⟨.bin 0 .geq (.l 2) (.c (.int .i64 (0))), none⟩, ⟨.mv (.l 1), none⟩, ⟨.mv (.l 3), none⟩] [(3, 4), (4, 5)])
 .ret)))))))
def a_s_PairSteps : AFun := ⟨[0, 1, 2, 4, 5, 6, 7, 8, 9, 10, 11, 12, 16, 25, 39, 44, 65, 84], 105, c_s_PairSteps, [.tmp 3, .tmp 4], 1⟩
def w_s_DrawSafeStep_1 : ACode :=
 (.seq (.seq (.region [⟨.mv (.t 10), none⟩, ⟨.bin 0 .geq (.l 0) (.c (.int .i64 (0))), none⟩] [(12, 1)])
 (.cond (.t 12) .skip (.exit 0)))
 (.seq (.block 1 (.region [⟨.mv (.t 9), none⟩, ⟨.mv (.t 7), none⟩, ⟨.mv (.t 10), none⟩, ⟨.indexAddrS 1 (.l 1) (.l 2), none⟩, ⟨.load false 1 (.l 3), none⟩, ⟨.call (.c (.fn f_s_l1Put [] [])) [(.l 0), (.l 4)], none⟩, ⟨.mv (.l 5), none⟩] [(9, 6)]))
 (.region [⟨.mv (.t 10), none⟩, ⟨.bin 0 .sub (.l 0) (.c (.int .i64 (1))), none⟩, ⟨.mv (.l 1), none⟩] [(10, 2)])))
def c_s_DrawSafeStep : ACode :=
 (.seq (.region [⟨.alloc [.int .i64 (0), .int .i64 (0), .int .i64 (0)], none⟩, ⟨.mv (.c (.slice none 0 0 none)), none⟩, ⟨.mv (.c (.slice none 0 0 none)), none⟩] [(1, 0), (2, 1), (3, 2)])
 (.seq (.region [⟨.mv (.t 0), none⟩, ⟨.build [.slice none 0 0 none, .int .i64 (0), .int .u64 (0)] [(0, 1, (.l 0))], none⟩, ⟨.box (.l 1), none⟩, ⟨.mv (.l 2), none⟩] [(4, 3)])
 (.seq (.region [⟨.mv (.t 4), none⟩, ⟨.call (.c (.fn f_s_l1Cur_raft [] [])) [(.l 0)], none⟩, ⟨.mv (.t 4), none⟩, ⟨.call (.c (.fn f_s_l1Cur_cargo [] [])) [(.l 2)], none⟩, ⟨.alloc [.int .i64 (0), .int .i64 (0), .int .i64 (0)], none⟩, ⟨.store 3 (.l 4) (.l 1), none⟩, ⟨.mv (.l 3), none⟩] [(5, 4), (6, 6)])
 (.seq (.seq (.region [⟨.load true 3 (.t 5), none⟩, ⟨.mv (.t 6), none⟩, ⟨.call (.c (.fn f_s_SafeOrder [] [])) [(.l 0), (.l 1)], none⟩, ⟨.mv (.l 2), none⟩, ⟨.extract 0 (.l 3), none⟩, ⟨.extract 1 (.l 3), none⟩, ⟨.mv (.l 4), none⟩, ⟨.mv (.l 5), none⟩] [(7, 6), (8, 7)])
 (.seq (.region [⟨.mv (.t 8), none⟩, ⟨.mv (.l 0), none⟩, ⟨.mv (.t 7), some ((.l 1), true)⟩, ⟨.len (.l 2), some ((.l 1), true)⟩, ⟨.bin 0 .gtr (.l 3) (.c (.int .i64 (0))), some ((.l 1), true)⟩, ⟨.pick (.l 1) (.l 4) (.c (.bool false)), none⟩, ⟨.mv (.l 5), none⟩, ⟨.mv (.t 4), some ((.l 6), true)⟩, ⟨.call (.c (.fn f_s_l1Cur_one [] [])) [(.l 7), (.c (.int .i64 (2)))], some ((.l 6), true)⟩, ⟨.pick (.l 6) (.l 8) (.c (.bool false)), none⟩] [(11, 9)])
 (.cond (.t 11) (.seq (.region [⟨.buildSlice 1 0 [] [], none⟩, ⟨.mv (.l 0), none⟩] [(9, 1)])
 (.seq (.seq (.region [⟨.mv (.t 4), none⟩, ⟨.mv (.t 7), none⟩, ⟨.len (.l 1), none⟩, ⟨.call (.c (.fn f_s_l1Cur_pick [] [])) [(.l 0), (.l 2)], none⟩, ⟨.mv (.l 3), none⟩] [(10, 4)])
 (.block 0 (.loop w_s_DrawSafeStep_1)))
 (.seq (.region [⟨.load true 3 (.t 5), none⟩, ⟨.mv (.t 6), none⟩, ⟨.mv (.t 9), none⟩, ⟨.store 3 (.t 1) (.l 0), none⟩, ⟨.mv (.l 1), none⟩, ⟨.mv (.l 2), none⟩] [(2, 4), (3, 5)])
 .ret))) .skip)))
 (.seq (.draw [⟨.load true 3 (.t 5), none, []⟩, ⟨.mv (.t 6), none, []⟩, ⟨.mv (.t 4), none, []⟩, ⟨.mv (.t 6), none, []⟩, ⟨.call (.c (.fn f_s_l1Cur_setOf [] [])) [(.l 2), (.l 3)], none, [(0, ⟨.load true 3 (.t 5), none⟩)]⟩, ⟨.store 3 (.t 1) (.l 0), none, []⟩, ⟨.mv (.l 1), none, []⟩, ⟨.mv (.l 4), none, []⟩] [(2, 6), (3, 7)])
 .ret)))))
def a_s_DrawSafeStep : AFun := ⟨[0, 2, 3, 4, 5, 6, 7, 8, 9, 10, 11, 34, 41], 58, c_s_DrawSafeStep, [.cell 1 true 3, .tmp 2, .tmp 3], 2⟩
def w_s_l10Order_1 : ACode :=
 (.seq (.seq (.region [⟨.mv (.t 5), none⟩, ⟨.mv (.t 1), none⟩, ⟨.len (.l 1), none⟩, ⟨.bin 0 .lss (.l 0) (.l 2), none⟩] [(7, 3)])
 (.cond (.t 7) .skip (.exit 0)))
 (.seq (.block 1 (.seq (.region [⟨.mv (.t 2), none⟩, ⟨.mv (.t 5), none⟩, ⟨.call (.c (.fn f_s_l1Has [] [])) [(.l 0), (.l 1)], none⟩, ⟨.un .not (.l 2), none⟩] [(8, 3)])
 (.cond (.t 8) (.seq (.region [⟨.mv (.c (.bool false)), none⟩] [(4, 0)])
 .ret) .skip)))
 (.region [⟨.mv (.t 5), none⟩, ⟨.bin 0 .add (.l 0) (.c (.int .i64 (1))), none⟩, ⟨.mv (.l 1), none⟩] [(5, 2)])))
def c_s_l10Order : ACode :=
 (.seq (.region [⟨.box (.t 0), none⟩, ⟨.mv (.c (.bool false)), none⟩] [(3, 0), (4, 1)])
 (.seq (.seq (.region [⟨.load true 3 (.t 3), none⟩, ⟨.mv (.t 1), none⟩, ⟨.call (.c (.fn f_s_l10Cargo [] [])) [(.l 0), (.l 1)], none⟩, ⟨.un .not (.l 2), none⟩, ⟨.mv (.l 3), none⟩, ⟨.mv (.t 2), some ((.l 4), false)⟩, ⟨.len (.l 5), some ((.l 4), false)⟩, ⟨.mv (.t 1), some ((.l 4), false)⟩, ⟨.len (.l 7), some ((.l 4), false)⟩, ⟨.bin 0 .neq (.l 6) (.l 8), some ((.l 4), false)⟩, ⟨.pick (.l 4) (.c (.bool true)) (.l 9), none⟩] [(6, 10)])
 (.cond (.t 6) (.seq (.region [⟨.mv (.c (.bool false)), none⟩] [(4, 0)])
 .ret) .skip))
 (.seq (.seq (.region [⟨.mv (.c (.int .i64 (0))), none⟩] [(5, 0)])
 (.block 0 (.loop w_s_l10Order_1)))
 (.seq (.region [⟨.mv (.c (.bool true)), none⟩] [(4, 0)])
 .ret))))
def a_s_l10Order : AFun := ⟨[0, 1, 2, 3, 6, 7, 18, 22, 28], 29, c_s_l10Order, [.tmp 4], 1⟩
def w_s_l10Tip_1 : ACode :=
 (.seq (.seq (.region [⟨.mv (.t 6), none⟩, ⟨.mv (.t 2), none⟩, ⟨.len (.l 1), none⟩, ⟨.bin 0 .lss (.l 0) (.l 2), none⟩] [(7, 3)])
 (.cond (.t 7) .skip (.exit 0)))
 (.seq (.block 1 (.seq (.region [⟨.mv (.t 5), none⟩, ⟨.mv (.t 2), none⟩, ⟨.mv (.t 6), none⟩, ⟨.indexAddrS 1 (.l 1) (.l 2), none⟩, ⟨.load false 1 (.l 3), none⟩, ⟨.bin 0 .shl (.c (.int .i64 (1))) (.l 4), none⟩, ⟨.bin 0 .add (.l 0) (.l 5), none⟩, ⟨.mv (.l 6), none⟩] [(5, 7)])
 (.seq (.region [⟨.load true 3 (.t 3), none⟩, ⟨.mv (.t 1), none⟩, ⟨.mv (.t 5), none⟩, ⟨.call (.c (.fn f_s_l10Safe [] [])) [(.l 0), (.l 1), (.l 2)], none⟩, ⟨.un .not (.l 3), none⟩] [(8, 4)])
 (.cond (.t 8) (.seq (.region [⟨.mv (.t 6), none⟩, ⟨.bin 0 .add (.l 0) (.c (.int .i64 (1))), none⟩, ⟨.mv (.l 1), none⟩] [(4, 2)])
 .ret) .skip))))
 (.region [⟨.mv (.t 6), none⟩, ⟨.bin 0 .add (.l 0) (.c (.int .i64 (1))), none⟩, ⟨.mv (.l 1), none⟩] [(6, 2)])))
def c_s_l10Tip : ACode :=
 (.seq (.region [⟨.box (.t 0), none⟩, ⟨.mv (.c (.int .i64 (0))), none⟩] [(3, 0), (4, 1)])
 (.seq (.region [⟨.mv (.c (.int .i64 (0))), none⟩] [(5, 0)])
 (.seq (.seq (.region [⟨.mv (.c (.int .i64 (0))), none⟩] [(6, 0)])
 (.block 0 (.loop w_s_l10Tip_1)))
 (.seq (.region [⟨.mv (.c (.int .i64 (-1))), none⟩] [(4, 0)])
 .ret))))
def a_s_l10Tip : AFun := ⟨[0, 1, 2, 3, 6, 7, 8, 12, 26], 29, c_s_l10Tip, [.tmp 4], 1⟩
def c_l_toLoad : ACode :=
 (.seq (.region [⟨.box (.t 0), none⟩, ⟨.alloc [.int .i64 (0), .int .i64 (0)], none⟩] [(1, 0), (2, 1)])
 (.seq (.region [⟨.alloc [.int .i64 (0), .int .i64 (0)], none⟩] [(3, 0)])
 (.seq (.region [⟨.fieldAddr 0 (.t 1), none⟩, ⟨.load false 1 (.l 0), none⟩, ⟨.fieldAddr 0 (.t 3), none⟩, ⟨.store 1 (.l 2) (.l 1), none⟩] [])
 (.seq (.region [⟨.fieldAddr 1 (.t 1), none⟩, ⟨.load false 1 (.l 0), none⟩, ⟨.fieldAddr 1 (.t 3), none⟩, ⟨.store 1 (.l 2) (.l 1), none⟩] [])
 (.seq (.region [⟨.load true 2 (.t 3), none⟩, ⟨.store 2 (.t 2) (.l 0), none⟩] [])
 .ret)))))
def a_l_toLoad : AFun := ⟨[0, 1, 2, 3], 11, c_l_toLoad, [.cell 2 true 2], 1⟩
def c_i_areCargo : ACode :=
 (.seq (.region [⟨.box (.t 0), none⟩, ⟨.mv (.c (.bool false)), none⟩] [(2, 0), (3, 1)])
 (.seq (.region [⟨.load true 3 (.t 2), none⟩, ⟨.call (.c (.fn f_i_IsRaft [] [])) [(.l 0)], none⟩, ⟨.mv (.l 1), none⟩, ⟨.mv (.t 1), some ((.l 2), true)⟩, ⟨.call (.c (.fn f_i_IsRow [] [])) [(.l 3)], some ((.l 2), true)⟩, ⟨.pick (.l 2) (.l 4) (.c (.bool false)), none⟩, ⟨.mv (.l 5), none⟩, ⟨.mv (.t 1), some ((.l 6), true)⟩, ⟨.len (.l 7), some ((.l 6), true)⟩, ⟨.bin 0 .leq (.l 8) (.c (.int .i64 (8))), some ((.l 6), true)⟩, ⟨.pick (.l 6) (.l 9) (.c (.bool false)), none⟩, ⟨.mv (.l 10), none⟩] [(3, 11)])
 .ret))
def a_i_areCargo : AFun := ⟨[0, 1, 2, 4], 16, c_i_areCargo, [.tmp 3], 1⟩
def w_i_isOrder_1 : ACode :=
 (.seq (.region [⟨.bin 0 .lss (.t 7) (.t 6), none⟩] [(8, 0)])
 (.seq (.cond (.t 8) .skip (.exit 0))
 (.seq (.block 1 (.seq (.region [⟨.indexAddrS 1 (.t 5) (.t 7), none⟩, ⟨.load false 1 (.l 0), none⟩, ⟨.mv (.l 1), none⟩] [(4, 2)])
 (.seq (.seq (.region [⟨.mv (.t 4), none⟩, ⟨.mv (.t 0), none⟩, ⟨.len (.l 1), none⟩, ⟨.bin 0 .sub (.l 2) (.c (.int .i64 (1))), none⟩, ⟨.call (.c (.fn f_i_within [] [])) [(.l 0), (.c (.int .i64 (0))), (.l 3)], none⟩, ⟨.un .not (.l 4), none⟩, ⟨.mv (.l 5), none⟩, ⟨.mv (.t 3), some ((.l 6), false)⟩, ⟨.mv (.t 4), some ((.l 6), false)⟩, ⟨.bin 0 .shr (.l 7) (.l 8), some ((.l 6), false)⟩, ⟨.bin 0 .and (.l 9) (.c (.int .i64 (1))), some ((.l 6), false)⟩, ⟨.bin 0 .eql (.l 10) (.c (.int .i64 (1))), some ((.l 6), false)⟩, ⟨.pick (.l 6) (.c (.bool true)) (.l 11), none⟩] [(9, 12)])
 (.cond (.t 9) (.seq (.region [⟨.mv (.c (.bool false)), none⟩] [(2, 0)])
 .ret) .skip))
 (.region [⟨.mv (.t 3), none⟩, ⟨.mv (.t 4), none⟩, ⟨.bin 0 .shl (.c (.int .i64 (1))) (.l 1), none⟩, ⟨.bin 0 .or (.l 0) (.l 2), none⟩, ⟨.mv (.l 3), none⟩] [(3, 4)]))))
 (.region [⟨.bin 0 .add (.t 7) (.c (.int .i64 (1))), none⟩, ⟨.mv (.l 0), none⟩] [(7, 1)]))))
def c_i_isOrder : ACode :=
 (.seq (.region [⟨.mv (.c (.bool false)), none⟩] [(2, 0)])
 (.seq (.region [⟨.mv (.c (.int .i64 (0))), none⟩] [(3, 0)])
 (.seq (.seq (.region [⟨.mv (.t 1), none⟩, ⟨.len (.l 0), none⟩, ⟨.mv (.c (.int .i64 (0))), none⟩] [(5, 0), (6, 1), (7, 2)])
 (.block 0 (.loop w_i_isOrder_1)))
 (.seq (.region [⟨.mv (.t 1), none⟩, ⟨.len (.l 0), none⟩, ⟨.mv (.t 0), none⟩, ⟨.len (.l 2), none⟩, ⟨.bin 0 .eql (.l 1) (.l 3), none⟩, ⟨.mv (.l 4), none⟩] [(2, 5)])
 .ret))))
def a_i_isOrder : AFun := ⟨[0, 1, 4, 5, 7, 8, 9, 10, 11, 26], 37, c_i_isOrder, [.tmp 2], 1⟩
def w_i_Raft_firstTip_1 : ACode :=
 (.seq (.region [⟨.bin 0 .lss (.t 10) (.t 9), none⟩] [(11, 0)])
 (.seq (.cond (.t 11) .skip (.exit 0))
 (.seq (.block 1 (.seq (.region [⟨.mv (.t 10), none⟩, ⟨.indexAddrS 1 (.t 8) (.t 10), none⟩, ⟨.load false 1 (.l 1), none⟩, ⟨.mv (.l 0), none⟩, ⟨.mv (.l 2), none⟩] [(6, 3), (7, 4)])
 (.seq (.region [⟨.mv (.t 5), none⟩, ⟨.mv (.t 7), none⟩, ⟨.bin 0 .shl (.c (.int .i64 (1))) (.l 1), none⟩, ⟨.bin 0 .or (.l 0) (.l 2), none⟩, ⟨.mv (.l 3), none⟩] [(5, 4)])
 (.seq (.region [⟨.load true 3 (.t 3), none⟩, ⟨.mv (.t 1), none⟩, ⟨.mv (.t 5), none⟩, ⟨.call (.c (.fn f_i_Raft_isSafe [] [])) [(.l 0), (.l 1), (.l 2)], none⟩, ⟨.un .not (.l 3), none⟩] [(12, 4)])
 (.cond (.t 12) (.seq (.region [⟨.mv (.t 6), none⟩, ⟨.bin 0 .add (.l 0) (.c (.int .i64 (1))), none⟩, ⟨.mv (.l 1), none⟩] [(4, 2)])
 .ret) .skip)))))
 (.region [⟨.bin 0 .add (.t 10) (.c (.int .i64 (1))), none⟩, ⟨.mv (.l 0), none⟩] [(10, 1)]))))
def c_i_Raft_firstTip : ACode :=
 (.seq (.region [⟨.box (.t 0), none⟩, ⟨.mv (.c (.int .i64 (0))), none⟩] [(3, 0), (4, 1)])
 (.seq (.region [⟨.mv (.c (.int .i64 (0))), none⟩] [(5, 0)])
 (.seq (.seq (.region [⟨.mv (.t 2), none⟩, ⟨.len (.l 0), none⟩, ⟨.mv (.c (.int .i64 (0))), none⟩] [(8, 0), (9, 1), (10, 2)])
 (.block 0 (.loop w_i_Raft_firstTip_1)))
 (.seq (.region [⟨.mv (.c (.int .i64 (0))), none⟩] [(4, 0)])
 .ret))))
def a_i_Raft_firstTip : AFun := ⟨[0, 1, 2, 3, 6, 7, 8, 9, 10, 11, 12, 13, 25], 29, c_i_Raft_firstTip, [.tmp 4], 1⟩
def c_l_eqLoad : ACode :=
 (.seq (.region [⟨.box (.t 0), none⟩, ⟨.box (.t 1), none⟩, ⟨.mv (.c (.bool false)), none⟩] [(2, 0), (3, 1), (4, 2)])
 (.seq (.seq (.region [⟨.fieldAddr 0 (.t 2), none⟩, ⟨.load false 1 (.l 0), none⟩, ⟨.fieldAddr 0 (.t 3), none⟩, ⟨.load false 1 (.l 2), none⟩, ⟨.bin 0 .neq (.l 1) (.l 3), none⟩] [(5, 4)])
 (.cond (.t 5) (.seq (.region [⟨.mv (.c (.bool false)), none⟩] [(4, 0)])
 .ret) .skip))
 (.seq (.seq (.region [⟨.fieldAddr 1 (.t 2), none⟩, ⟨.load false 1 (.l 0), none⟩, ⟨.fieldAddr 1 (.t 3), none⟩, ⟨.load false 1 (.l 2), none⟩, ⟨.bin 0 .neq (.l 1) (.l 3), none⟩] [(6, 4)])
 (.cond (.t 6) (.seq (.region [⟨.mv (.c (.bool false)), none⟩] [(4, 0)])
 .ret) .skip))
 (.seq (.region [⟨.mv (.c (.bool true)), none⟩] [(4, 0)])
 .ret))))
def a_l_eqLoad : AFun := ⟨[0, 1, 2, 3, 4, 9, 14], 15, c_l_eqLoad, [.tmp 4], 1⟩
def c_s_l10Cargo : ACode :=
 (.seq (.region [⟨.box (.t 0), none⟩, ⟨.mv (.c (.bool false)), none⟩] [(2, 0), (3, 1)])
 (.seq (.region [⟨.load true 3 (.t 2), none⟩, ⟨.call (.c (.fn f_s_l10Raft [] [])) [(.l 0)], none⟩, ⟨.mv (.l 1), none⟩, ⟨.mv (.t 1), some ((.l 2), true)⟩, ⟨.call (.c (.fn f_s_l2Row [] [])) [(.l 3)], some ((.l 2), true)⟩, ⟨.pick (.l 2) (.l 4) (.c (.bool false)), none⟩, ⟨.mv (.l 5), none⟩, ⟨.mv (.t 1), some ((.l 6), true)⟩, ⟨.len (.l 7), some ((.l 6), true)⟩, ⟨.bin 0 .leq (.l 8) (.c (.int .i64 (8))), some ((.l 6), true)⟩, ⟨.pick (.l 6) (.l 9) (.c (.bool false)), none⟩, ⟨.mv (.l 10), none⟩] [(3, 11)])
 .ret))
def a_s_l10Cargo : AFun := ⟨[0, 1, 2, 4], 16, c_s_l10Cargo, [.tmp 3], 1⟩
def w_s_l10Ways_1 : ACode :=
 (.seq (.seq (.region [⟨.mv (.t 7), none⟩, ⟨.mv (.t 1), none⟩, ⟨.len (.l 1), none⟩, ⟨.bin 0 .lss (.l 0) (.l 2), none⟩] [(11, 3)])
 (.cond (.t 11) .skip (.exit 2)))
 (.seq (.block 3 (.seq (.region [⟨.mv (.t 6), none⟩, ⟨.mv (.t 7), none⟩, ⟨.bin 0 .shr (.l 0) (.l 1), none⟩, ⟨.bin 0 .and (.l 2) (.c (.int .i64 (1))), none⟩, ⟨.bin 0 .eql (.l 3) (.c (.int .i64 (0))), none⟩] [(12, 4)])
 (.cond (.t 12) (.draw [⟨.mv (.t 5), none, []⟩, ⟨.mv (.t 6), none, []⟩, ⟨.mv (.t 5), none, []⟩, ⟨.mv (.t 6), none, []⟩, ⟨.indexAddrS 1 (.l 2) (.l 3), none, []⟩, ⟨.load false 1 (.l 4), none, []⟩, ⟨.mv (.t 5), none, []⟩, ⟨.mv (.t 6), none, []⟩, ⟨.mv (.t 7), none, []⟩, ⟨.bin 0 .shl (.c (.int .i64 (1))) (.l 8), none, []⟩, ⟨.bin 0 .add (.l 7) (.l 9), none, []⟩, ⟨.indexAddrS 1 (.l 6) (.l 10), none, []⟩, ⟨.load false 1 (.l 11), none, []⟩, ⟨.bin 0 .add (.l 5) (.l 12), none, []⟩, ⟨.indexAddrS 1 (.l 0) (.l 1), none, []⟩, ⟨.store 1 (.l 14) (.l 13), none, []⟩] []) .skip)))
 (.region [⟨.mv (.t 7), none⟩, ⟨.bin 0 .add (.l 0) (.c (.int .i64 (1))), none⟩, ⟨.mv (.l 1), none⟩] [(7, 2)])))
def w_s_l10Ways_2 : ACode :=
 (.seq (.seq (.region [⟨.mv (.t 6), none⟩, ⟨.bin 0 .geq (.l 0) (.c (.int .i64 (0))), none⟩] [(8, 1)])
 (.cond (.t 8) .skip (.exit 0)))
 (.seq (.block 1 (.seq (.seq (.region [⟨.load true 3 (.t 2), none⟩, ⟨.mv (.t 1), none⟩, ⟨.mv (.t 6), none⟩, ⟨.call (.c (.fn f_s_l10Safe [] [])) [(.l 0), (.l 1), (.l 2)], none⟩, ⟨.un .not (.l 3), none⟩] [(9, 4)])
 (.cond (.t 9) (.exit 1) .skip))
 (.seq (.seq (.region [⟨.mv (.t 6), none⟩, ⟨.mv (.t 4), none⟩, ⟨.bin 0 .eql (.l 0) (.l 1), none⟩] [(10, 2)])
 (.cond (.t 10) (.region [⟨.mv (.t 5), none⟩, ⟨.mv (.t 6), none⟩, ⟨.indexAddrS 1 (.l 0) (.l 1), none⟩, ⟨.store 1 (.l 2) (.c (.int .i64 (1))), none⟩] []) .skip))
 (.seq (.region [⟨.mv (.c (.int .i64 (0))), none⟩] [(7, 0)])
 (.block 2 (.loop w_s_l10Ways_1))))))
 (.region [⟨.mv (.t 6), none⟩, ⟨.bin 0 .sub (.l 0) (.c (.int .i64 (1))), none⟩, ⟨.mv (.l 1), none⟩] [(6, 2)])))
def c_s_l10Ways : ACode :=
 (.seq (.region [⟨.box (.t 0), none⟩, ⟨.mv (.c (.slice none 0 0 none)), none⟩] [(2, 0), (3, 1)])
 (.seq (.region [⟨.mv (.t 1), none⟩, ⟨.len (.l 0), none⟩, ⟨.bin 0 .shl (.c (.int .i64 (1))) (.l 1), none⟩, ⟨.bin 0 .sub (.l 2) (.c (.int .i64 (1))), none⟩, ⟨.mv (.l 3), none⟩] [(4, 4)])
 (.seq (.region [⟨.mv (.t 4), none⟩, ⟨.bin 0 .add (.l 0) (.c (.int .i64 (1))), none⟩, ⟨.makeSlice 1 8 [.int .i64 (0)] (.l 1) (.l 1), none⟩, ⟨.mv (.l 2), none⟩] [(5, 3)])
 (.seq (.seq (.region [⟨.mv (.t 4), none⟩, ⟨.mv (.l 0), none⟩] [(6, 1)])
 (.block 0 (.loop w_s_l10Ways_2)))
 (.seq (.region [⟨.mv (.t 5), none⟩, ⟨.mv (.l 0), none⟩] [(3, 1)])
 .ret)))))
def a_s_l10Ways : AFun := ⟨[0, 1, 2, 4, 5, 6, 7, 8, 18, 25, 28, 35, 42], 59, c_s_l10Ways, [.tmp 3], 2⟩
def w_i_Raft_waysOf_1 : ACode :=
 (.seq (.region [⟨.bin 0 .lss (.t 10) (.t 9), none⟩] [(11, 0)])
 (.seq (.cond (.t 11) .skip (.exit 3))
 (.seq (.block 4 (.seq (.region [⟨.mv (.t 10), none⟩, ⟨.mv (.l 0), none⟩] [(7, 1)])
 (.seq (.region [⟨.mv (.t 6), none⟩, ⟨.mv (.t 7), none⟩, ⟨.bin 0 .shr (.l 0) (.l 1), none⟩, ⟨.bin 0 .and (.l 2) (.c (.int .i64 (1))), none⟩, ⟨.bin 0 .eql (.l 3) (.c (.int .i64 (0))), none⟩] [(12, 4)])
 (.cond (.t 12) (.draw [⟨.mv (.t 5), none, []⟩, ⟨.mv (.t 6), none, []⟩, ⟨.indexAddrS 1 (.l 0) (.l 1), none, []⟩, ⟨.load false 1 (.l 2), none, []⟩, ⟨.mv (.t 5), none, []⟩, ⟨.mv (.t 6), none, []⟩, ⟨.mv (.t 7), none, []⟩, ⟨.bin 0 .shl (.c (.int .i64 (1))) (.l 6), none, []⟩, ⟨.bin 0 .or (.l 5) (.l 7), none, []⟩, ⟨.indexAddrS 1 (.l 4) (.l 8), none, []⟩, ⟨.load false 1 (.l 9), none, []⟩, ⟨.bin 0 .add (.l 3) (.l 10), none, []⟩, ⟨.indexAddrS 1 (.l 0) (.l 1), none, []⟩, ⟨.store 1 (.l 12) (.l 11), none, []⟩] []) .skip))))
 (.region [⟨.bin 0 .add (.t 10) (.c (.int .i64 (1))), none⟩, ⟨.mv (.l 0), none⟩] [(10, 1)]))))
def w_i_Raft_waysOf_2 : ACode :=
 (.seq (.seq (.region [⟨.mv (.t 6), none⟩, ⟨.bin 0 .geq (.l 0) (.c (.int .i64 (0))), none⟩] [(8, 1)])
 (.cond (.t 8) .skip (.exit 0)))
 (.seq (.block 1 (.block 2 (.seq (.region [⟨.load true 3 (.t 2), none⟩, ⟨.mv (.t 1), none⟩, ⟨.mv (.t 6), none⟩, ⟨.call (.c (.fn f_i_Raft_isSafe [] [])) [(.l 0), (.l 1), (.l 2)], none⟩, ⟨.un .not (.l 3), none⟩, ⟨.mv (.l 4), none⟩] [(13, 5)])
 (.cond (.t 13) .skip (.seq (.region [⟨.mv (.t 6), none⟩, ⟨.mv (.t 4), none⟩, ⟨.bin 0 .eql (.l 0) (.l 1), none⟩, ⟨.mv (.l 2), none⟩] [(14, 3)])
 (.cond (.t 14) (.region [⟨.mv (.t 5), none⟩, ⟨.mv (.t 6), none⟩, ⟨.indexAddrS 1 (.l 0) (.l 1), none⟩, ⟨.store 1 (.l 2) (.c (.int .i64 (1))), none⟩] []) (.seq (.region [⟨.mv (.t 1), none⟩, ⟨.len (.l 0), none⟩, ⟨.mv (.c (.int .i64 (0))), none⟩] [(9, 1), (10, 2)])
 (.block 3 (.loop w_i_Raft_waysOf_1)))))))))
 (.region [⟨.mv (.t 6), none⟩, ⟨.bin 0 .sub (.l 0) (.c (.int .i64 (1))), none⟩, ⟨.mv (.l 1), none⟩] [(6, 2)])))
def c_i_Raft_waysOf : ACode :=
 (.seq (.region [⟨.box (.t 0), none⟩, ⟨.mv (.c (.slice none 0 0 none)), none⟩] [(2, 0), (3, 1)])
 (.seq (.region [⟨.mv (.t 1), none⟩, ⟨.len (.l 0), none⟩, ⟨.bin 0 .shl (.c (.int .i64 (1))) (.l 1), none⟩, ⟨.bin 0 .sub (.l 2) (.c (.int .i64 (1))), none⟩, ⟨.mv (.l 3), none⟩] [(4, 4)])
 (.seq (.region [⟨.mv (.t 4), none⟩, ⟨.bin 0 .add (.l 0) (.c (.int .i64 (1))), none⟩, ⟨.makeSlice 1 8 [.int .i64 (0)] (.l 1) (.l 1), none⟩, ⟨.mv (.l 2), none⟩] [(5, 3)])
 (.seq (.seq (.region [⟨.mv (.t 4), none⟩, ⟨.mv (.l 0), none⟩] [(6, 1)])
 (.block 0 (.loop w_i_Raft_waysOf_2)))
 (.seq (.region [⟨.mv (.t 5), none⟩, ⟨.mv (.l 0), none⟩] [(3, 1)])
 .ret)))))
def a_i_Raft_waysOf : AFun := ⟨[0, 1, 2, 4, 5, 6, 7, 8, 18, 22, 23, 24, 30, 45, 51], 59, c_i_Raft_waysOf, [.tmp 3], 2⟩
-- slices_Delete_Si_Load_i_Load: by contract
def c_slices_Clone_Si_Load_i_Load : ACode :=
 (.seq (.region [⟨.mv (.c (.slice none 0 0 none)), none⟩] [(1, 0)])
 (.seq (.seq (.region [⟨.mv (.t 0), none⟩, ⟨.bin 3 .eql (.l 0) (.c (.slice none 0 0 none)), none⟩] [(2, 1)])
 (.cond (.t 2) (.seq (.region [⟨.mv (.c (.slice none 0 0 none)), none⟩] [(1, 0)])
 .ret) .skip))
 (.seq (.region [⟨.buildSlice 2 0 [] [], none⟩, ⟨.mv (.t 0), none⟩, ⟨.append false 2 16 (.l 0) (.l 1), none⟩, ⟨.mv (.l 2), none⟩] [(1, 3)])
 .ret)))
def a_slices_Clone_Si_Load_i_Load : AFun := ⟨[0, 2, 4], 8, c_slices_Clone_Si_Load_i_Load, [.tmp 1], 2⟩
def w_s_l10Back_1 : ACode :=
 (.seq (.seq (.region [⟨.mv (.t 7), none⟩, ⟨.mv (.t 1), none⟩, ⟨.len (.l 1), none⟩, ⟨.bin 0 .lss (.l 0) (.l 2), none⟩] [(9, 3)])
 (.cond (.t 9) .skip (.exit 2)))
 (.seq (.block 3 (.region [⟨.mv (.t 6), none⟩, ⟨.mv (.l 0), none⟩, ⟨.mv (.t 5), some ((.l 1), false)⟩, ⟨.mv (.t 7), some ((.l 1), false)⟩, ⟨.bin 0 .shr (.l 2) (.l 3), some ((.l 1), false)⟩, ⟨.bin 0 .and (.l 4) (.c (.int .i64 (1))), some ((.l 1), false)⟩, ⟨.bin 0 .eql (.l 5) (.c (.int .i64 (1))), some ((.l 1), false)⟩, ⟨.mv (.l 6), some ((.l 1), false)⟩, ⟨.mv (.t 4), some ((.l 7), true)⟩, ⟨.mv (.t 5), some ((.l 7), true)⟩, ⟨.mv (.t 7), some ((.l 7), true)⟩, ⟨.bin 0 .shl (.c (.int .i64 (1))) (.l 10), some ((.l 7), true)⟩, ⟨.bin 0 .sub (.l 9) (.l 11), some ((.l 7), true)⟩, ⟨.indexAddrS 1 (.l 8) (.l 12), some ((.l 7), true)⟩, ⟨.load false 1 (.l 13), some ((.l 7), true)⟩, ⟨.pick (.l 7) (.l 14) (.c (.bool false)), some ((.l 1), false)⟩, ⟨.pick (.l 1) (.c (.bool true)) (.l 15), none⟩, ⟨.mv (.l 16), none⟩] [(6, 17)]))
 (.region [⟨.mv (.t 7), none⟩, ⟨.bin 0 .add (.l 0) (.c (.int .i64 (1))), none⟩, ⟨.mv (.l 1), none⟩] [(7, 2)])))
def w_s_l10Back_2 : ACode :=
 (.seq (.seq (.region [⟨.mv (.t 5), none⟩, ⟨.mv (.t 4), none⟩, ⟨.len (.l 1), none⟩, ⟨.bin 0 .lss (.l 0) (.l 2), none⟩] [(8, 3)])
 (.cond (.t 8) .skip (.exit 0)))
 (.seq (.block 1 (.seq (.region [⟨.mv (.t 5), none⟩, ⟨.bin 0 .eql (.l 0) (.c (.int .i64 (0))), none⟩, ⟨.mv (.l 1), none⟩] [(6, 2)])
 (.seq (.seq (.region [⟨.mv (.c (.int .i64 (0))), none⟩] [(7, 0)])
 (.block 2 (.loop w_s_l10Back_1)))
 (.region [⟨.mv (.t 4), none⟩, ⟨.mv (.t 5), none⟩, ⟨.mv (.t 6), none⟩, ⟨.mv (.l 2), none⟩, ⟨.load true 3 (.t 2), some ((.l 3), true)⟩, ⟨.mv (.t 1), some ((.l 3), true)⟩, ⟨.mv (.t 5), some ((.l 3), true)⟩, ⟨.call (.c (.fn f_s_l10Safe [] [])) [(.l 4), (.l 5), (.l 6)], some ((.l 3), true)⟩, ⟨.pick (.l 3) (.l 7) (.c (.bool false)), none⟩, ⟨.indexAddrS 1 (.l 0) (.l 1), none⟩, ⟨.store 1 (.l 9) (.l 8), none⟩] []))))
 (.region [⟨.mv (.t 5), none⟩, ⟨.bin 0 .add (.l 0) (.c (.int .i64 (1))), none⟩, ⟨.mv (.l 1), none⟩] [(5, 2)])))
def c_s_l10Back : ACode :=
 (.seq (.region [⟨.box (.t 0), none⟩, ⟨.mv (.c (.slice none 0 0 none)), none⟩] [(2, 0), (3, 1)])
 (.seq (.region [⟨.mv (.t 1), none⟩, ⟨.len (.l 0), none⟩, ⟨.bin 0 .shl (.c (.int .i64 (1))) (.l 1), none⟩, ⟨.makeSlice 1 1 [.bool false] (.l 2) (.l 2), none⟩, ⟨.mv (.l 3), none⟩] [(4, 4)])
 (.seq (.seq (.region [⟨.mv (.c (.int .i64 (0))), none⟩] [(5, 0)])
 (.block 0 (.loop w_s_l10Back_2)))
 (.seq (.region [⟨.mv (.t 4), none⟩, ⟨.mv (.l 0), none⟩] [(3, 1)])
 .ret))))
def a_s_l10Back : AFun := ⟨[0, 1, 2, 4, 5, 6, 7, 8, 16, 24], 55, c_s_l10Back, [.tmp 3], 2⟩
def c_i_Raft_isSafe : ACode :=
 (.seq (.region [⟨.box (.t 0), none⟩, ⟨.mv (.c (.bool false)), none⟩] [(3, 0), (4, 1)])
 (.seq (.region [⟨.load true 3 (.t 3), none⟩, ⟨.mv (.t 1), none⟩, ⟨.mv (.t 2), none⟩, ⟨.call (.c (.fn f_i_Raft_reserve [] [])) [(.l 0), (.l 1), (.l 2)], none⟩, ⟨.mv (.l 3), none⟩, ⟨.extract 0 (.l 4), none⟩, ⟨.extract 1 (.l 4), none⟩, ⟨.mv (.l 5), none⟩, ⟨.mv (.l 6), none⟩] [(5, 7), (6, 8)])
 (.seq (.region [⟨.mv (.t 5), none⟩, ⟨.bin 0 .geq (.l 0) (.c (.int .i64 (0))), none⟩, ⟨.mv (.l 1), none⟩, ⟨.mv (.t 6), some ((.l 2), true)⟩, ⟨.bin 0 .geq (.l 3) (.c (.int .i64 (0))), some ((.l 2), true)⟩, ⟨.pick (.l 2) (.l 4) (.c (.bool false)), none⟩, ⟨.mv (.l 5), none⟩] [(4, 6)])
 .ret)))
def a_i_Raft_isSafe : AFun := ⟨[0, 1, 2, 3, 6, 7, 8], 22, c_i_Raft_isSafe, [.tmp 4], 1⟩
def w_i_stepsFrom_1 : ACode :=
 (.seq (.region [⟨.bin 0 .lss (.t 7) (.t 6), none⟩] [(8, 0)])
 (.seq (.cond (.t 8) .skip (.exit 0))
 (.seq (.block 1 (.seq (.region [⟨.mv (.t 7), none⟩, ⟨.mv (.l 0), none⟩] [(5, 1)])
 (.seq (.region [⟨.mv (.t 2), none⟩, ⟨.mv (.t 5), none⟩, ⟨.bin 0 .shr (.l 0) (.l 1), none⟩, ⟨.bin 0 .and (.l 2) (.c (.int .i64 (1))), none⟩, ⟨.bin 0 .eql (.l 3) (.c (.int .i64 (0))), none⟩, ⟨.mv (.l 4), none⟩, ⟨.mv (.t 1), some ((.l 5), true)⟩, ⟨.mv (.t 2), some ((.l 5), true)⟩, ⟨.mv (.t 5), some ((.l 5), true)⟩, ⟨.bin 0 .shl (.c (.int .i64 (1))) (.l 8), some ((.l 5), true)⟩, ⟨.bin 0 .or (.l 7) (.l 9), some ((.l 5), true)⟩, ⟨.indexAddrS 1 (.l 6) (.l 10), some ((.l 5), true)⟩, ⟨.load false 1 (.l 11), some ((.l 5), true)⟩, ⟨.bin 0 .gtr (.l 12) (.c (.int .i64 (0))), some ((.l 5), true)⟩, ⟨.pick (.l 5) (.l 13) (.c (.bool false)), none⟩] [(9, 14)])
 (.cond (.t 9) (.region [⟨.mv (.t 4), none⟩, ⟨.mv (.t 5), none⟩, ⟨.buildSlice 1 1 [.int .i64 (0)] [(0, 1, (.l 1))], none⟩, ⟨.append false 1 8 (.l 0) (.l 2), none⟩, ⟨.mv (.l 3), none⟩] [(4, 4)]) .skip))))
 (.region [⟨.bin 0 .add (.t 7) (.c (.int .i64 (1))), none⟩, ⟨.mv (.l 0), none⟩] [(7, 1)]))))
def c_i_stepsFrom : ACode :=
 (.seq (.region [⟨.mv (.c (.slice none 0 0 none)), none⟩] [(3, 0)])
 (.seq (.region [⟨.buildSlice 1 0 [] [], none⟩, ⟨.mv (.l 0), none⟩] [(4, 1)])
 (.seq (.seq (.region [⟨.mv (.t 0), none⟩, ⟨.len (.l 0), none⟩, ⟨.mv (.c (.int .i64 (0))), none⟩] [(6, 1), (7, 2)])
 (.block 0 (.loop w_i_stepsFrom_1)))
 (.seq (.region [⟨.mv (.t 4), none⟩, ⟨.mv (.l 0), none⟩] [(3, 1)])
 .ret))))
def a_i_stepsFrom : AFun := ⟨[0, 1, 2, 6, 7, 8, 11, 12, 13, 29], 36, c_i_stepsFrom, [.tmp 3], 2⟩
def w_s_l10Code_1 : ACode :=
 (.seq (.seq (.region [⟨.mv (.t 7), none⟩, ⟨.mv (.t 2), none⟩, ⟨.len (.l 1), none⟩, ⟨.bin 0 .lss (.l 0) (.l 2), none⟩] [(9, 3)])
 (.cond (.t 9) .skip (.exit 0)))
 (.seq (.block 1 (.region [⟨.mv (.t 6), none⟩, ⟨.mv (.t 2), none⟩, ⟨.mv (.t 7), none⟩, ⟨.indexAddrS 1 (.l 1) (.l 2), none⟩, ⟨.load false 1 (.l 3), none⟩, ⟨.bin 0 .shl (.c (.int .i64 (1))) (.l 4), none⟩, ⟨.bin 0 .add (.l 0) (.l 5), none⟩, ⟨.mv (.l 6), none⟩] [(6, 7)]))
 (.region [⟨.mv (.t 7), none⟩, ⟨.bin 0 .add (.l 0) (.c (.int .i64 (1))), none⟩, ⟨.mv (.l 1), none⟩] [(7, 2)])))
def c_s_l10Code : ACode :=
 (.seq (.region [⟨.box (.t 0), none⟩, ⟨.mv (.c (.int .i64 (0))), none⟩, ⟨.mv (.c (.bool false)), none⟩] [(3, 0), (4, 1), (5, 2)])
 (.seq (.seq (.region [⟨.load true 3 (.t 3), none⟩, ⟨.mv (.t 1), none⟩, ⟨.call (.c (.fn f_s_l10Cargo [] [])) [(.l 0), (.l 1)], none⟩, ⟨.un .not (.l 2), none⟩, ⟨.mv (.l 3), none⟩, ⟨.mv (.t 2), some ((.l 4), false)⟩, ⟨.mv (.t 1), some ((.l 4), false)⟩, ⟨.len (.l 6), some ((.l 4), false)⟩, ⟨.bin 0 .sub (.l 7) (.c (.int .i64 (1))), some ((.l 4), false)⟩, ⟨.call (.c (.fn f_s_l1Rising [] [])) [(.l 5), (.c (.int .i64 (0))), (.l 8)], some ((.l 4), false)⟩, ⟨.un .not (.l 9), some ((.l 4), false)⟩, ⟨.pick (.l 4) (.c (.bool true)) (.l 10), none⟩] [(8, 11)])
 (.cond (.t 8) (.seq (.region [⟨.mv (.c (.int .i64 (0))), none⟩, ⟨.mv (.c (.bool false)), none⟩] [(4, 0), (5, 1)])
 .ret) .skip))
 (.seq (.region [⟨.mv (.c (.int .i64 (0))), none⟩] [(6, 0)])
 (.seq (.seq (.region [⟨.mv (.c (.int .i64 (0))), none⟩] [(7, 0)])
 (.block 0 (.loop w_s_l10Code_1)))
 (.seq (.region [⟨.mv (.t 6), none⟩, ⟨.mv (.l 0), none⟩, ⟨.mv (.c (.bool true)), none⟩] [(4, 1), (5, 2)])
 .ret)))))
def a_s_l10Code : AFun := ⟨[0, 1, 2, 3, 6, 7, 8, 9, 21, 25], 36, c_s_l10Code, [.tmp 4, .tmp 5], 1⟩
def c_s_l10Safe : ACode :=
 (.seq (.region [⟨.box (.t 0), none⟩, ⟨.mv (.c (.bool false)), none⟩] [(3, 0), (4, 1)])
 (.seq (.region [⟨.load true 3 (.t 3), none⟩, ⟨.mv (.t 1), none⟩, ⟨.mv (.t 2), none⟩, ⟨.call (.c (.fn f_s_l10Reserve [] [])) [(.l 0), (.l 1), (.l 2)], none⟩, ⟨.mv (.l 3), none⟩, ⟨.extract 0 (.l 4), none⟩, ⟨.extract 1 (.l 4), none⟩, ⟨.mv (.l 5), none⟩, ⟨.mv (.l 6), none⟩] [(5, 7), (6, 8)])
 (.seq (.region [⟨.mv (.t 5), none⟩, ⟨.bin 0 .geq (.l 0) (.c (.int .i64 (0))), none⟩, ⟨.mv (.l 1), none⟩, ⟨.mv (.t 6), some ((.l 2), true)⟩, ⟨.bin 0 .geq (.l 3) (.c (.int .i64 (0))), some ((.l 2), true)⟩, ⟨.pick (.l 2) (.l 4) (.c (.bool false)), none⟩, ⟨.mv (.l 5), none⟩] [(4, 6)])
 .ret)))
def a_s_l10Safe : AFun := ⟨[0, 1, 2, 3, 6, 7, 8], 22, c_s_l10Safe, [.tmp 4], 1⟩
def w_i_bitsOf_1 : ACode :=
 (.seq (.region [⟨.bin 0 .lss (.t 9) (.t 8), none⟩] [(10, 0)])
 (.seq (.cond (.t 10) .skip (.exit 0))
 (.seq (.block 1 (.seq (.region [⟨.mv (.t 9), none⟩, ⟨.indexAddrS 1 (.t 7) (.t 9), none⟩, ⟨.load false 1 (.l 1), none⟩, ⟨.mv (.l 0), none⟩, ⟨.mv (.l 2), none⟩] [(5, 3), (6, 4)])
 (.seq (.seq (.region [⟨.mv (.t 6), none⟩, ⟨.mv (.t 0), none⟩, ⟨.len (.l 1), none⟩, ⟨.bin 0 .sub (.l 2) (.c (.int .i64 (1))), none⟩, ⟨.call (.c (.fn f_i_within [] [])) [(.l 0), (.c (.int .i64 (0))), (.l 3)], none⟩, ⟨.un .not (.l 4), none⟩, ⟨.mv (.l 5), none⟩, ⟨.mv (.t 5), some ((.l 6), false)⟩, ⟨.bin 0 .gtr (.l 7) (.c (.int .i64 (0))), some ((.l 6), false)⟩, ⟨.mv (.l 8), some ((.l 6), false)⟩, ⟨.mv (.t 6), some ((.l 9), true)⟩, ⟨.mv (.t 1), some ((.l 9), true)⟩, ⟨.mv (.t 5), some ((.l 9), true)⟩, ⟨.bin 0 .sub (.l 12) (.c (.int .i64 (1))), some ((.l 9), true)⟩, ⟨.indexAddrS 1 (.l 11) (.l 13), some ((.l 9), true)⟩, ⟨.load false 1 (.l 14), some ((.l 9), true)⟩, ⟨.bin 0 .leq (.l 10) (.l 15), some ((.l 9), true)⟩, ⟨.pick (.l 9) (.l 16) (.c (.bool false)), some ((.l 6), false)⟩, ⟨.pick (.l 6) (.c (.bool true)) (.l 17), none⟩] [(11, 18)])
 (.cond (.t 11) (.seq (.region [⟨.mv (.c (.int .i64 (0))), none⟩, ⟨.mv (.c (.bool false)), none⟩] [(2, 0), (3, 1)])
 .ret) .skip))
 (.region [⟨.mv (.t 4), none⟩, ⟨.mv (.t 6), none⟩, ⟨.bin 0 .shl (.c (.int .i64 (1))) (.l 1), none⟩, ⟨.bin 0 .or (.l 0) (.l 2), none⟩, ⟨.mv (.l 3), none⟩] [(4, 4)]))))
 (.region [⟨.bin 0 .add (.t 9) (.c (.int .i64 (1))), none⟩, ⟨.mv (.l 0), none⟩] [(9, 1)]))))
def c_i_bitsOf : ACode :=
 (.seq (.region [⟨.mv (.c (.int .i64 (0))), none⟩, ⟨.mv (.c (.bool false)), none⟩] [(2, 0), (3, 1)])
 (.seq (.region [⟨.mv (.c (.int .i64 (0))), none⟩] [(4, 0)])
 (.seq (.seq (.region [⟨.mv (.t 1), none⟩, ⟨.len (.l 0), none⟩, ⟨.mv (.c (.int .i64 (0))), none⟩] [(7, 0), (8, 1), (9, 2)])
 (.block 0 (.loop w_i_bitsOf_1)))
 (.seq (.region [⟨.mv (.t 4), none⟩, ⟨.mv (.l 0), none⟩, ⟨.mv (.c (.bool true)), none⟩] [(2, 1), (3, 2)])
 .ret))))
def a_i_bitsOf : AFun := ⟨[0, 1, 4, 5, 6, 7, 8, 9, 10, 11, 12, 34], 41, c_i_bitsOf, [.tmp 2, .tmp 3], 1⟩
def c_s_l1Cur_raft : ACode :=
 (.seq (.region [⟨.alloc [.int .i64 (0), .int .i64 (0), .int .i64 (0)], none⟩] [(1, 0)])
 (.seq (.region [⟨.mv (.t 0), none⟩, ⟨.call (.c (.fn f_s_l1Cur_pick [] [])) [(.l 0), (.c (.int .i64 (8)))], none⟩, ⟨.mv (.l 1), none⟩] [(2, 2)])
 (.seq (.region [⟨.mv (.t 2), none⟩, ⟨.mv (.t 2), none⟩, ⟨.mv (.t 0), none⟩, ⟨.call (.c (.fn f_s_l1Cur_pick [] [])) [(.l 2), (.c (.int .i64 (6)))], none⟩, ⟨.bin 0 .add (.l 1) (.l 3), none⟩, ⟨.mv (.t 0), none⟩, ⟨.mv (.t 0), none⟩, ⟨.buildSlice 1 3 [.int .i64 (0), .int .i64 (0), .int .i64 (0)] [(0, 1, (.c (.int .i64 (3)))), (1, 1, (.c (.int .i64 (9)))), (2, 1, (.c (.int .i64 (30))))], none⟩, ⟨.call (.c (.fn f_s_l1Cur_among [] [])) [(.l 6), (.l 7)], none⟩, ⟨.call (.c (.fn f_s_l1Cur_pick [] [])) [(.l 5), (.l 8)], none⟩, ⟨.bin 0 .add (.c (.int .i64 (1))) (.l 9), none⟩, ⟨.build [.int .i64 (0), .int .i64 (0), .int .i64 (0)] [(0, 1, (.l 0)), (1, 1, (.l 4)), (2, 1, (.l 10))], none⟩, ⟨.alloc [.int .i64 (0), .int .i64 (0), .int .i64 (0)], none⟩, ⟨.store 3 (.l 12) (.l 11), none⟩] [(3, 12)])
 (.seq (.seq (.region [⟨.mv (.t 0), none⟩, ⟨.call (.c (.fn f_s_l1Cur_pick [] [])) [(.l 0), (.c (.int .i64 (50)))], none⟩] [(4, 1)])
 (.block 0 (.seq (.region [⟨.bin 0 .eql (.t 4) (.c (.int .i64 (0))), none⟩, ⟨.mv (.l 0), none⟩] [(5, 1)])
 (.cond (.t 5) (.region [⟨.mv (.t 0), none⟩, ⟨.fieldAddr 1 (.t 3), none⟩, ⟨.load false 1 (.l 1), none⟩, ⟨.bin 0 .add (.l 2) (.c (.int .i64 (1))), none⟩, ⟨.buildSlice 1 3 [.int .i64 (0), .int .i64 (0), .int .i64 (0)] [(0, 1, (.c (.int .i64 (-1)))), (1, 1, (.l 3)), (2, 1, (.c (.int .i64 (61))))], none⟩, ⟨.call (.c (.fn f_s_l1Cur_among [] [])) [(.l 0), (.l 4)], none⟩, ⟨.fieldAddr 0 (.t 3), none⟩, ⟨.store 1 (.l 6) (.l 5), none⟩] []) (.seq (.region [⟨.bin 0 .eql (.t 4) (.c (.int .i64 (1))), none⟩, ⟨.mv (.l 0), none⟩] [(6, 1)])
 (.cond (.t 6) (.region [⟨.mv (.t 0), none⟩, ⟨.buildSlice 1 3 [.int .i64 (0), .int .i64 (0), .int .i64 (0)] [(0, 1, (.c (.int .i64 (60)))), (1, 1, (.c (.int .i64 (61)))), (2, 1, (.c (.int .i64 (4611686018427387904))))], none⟩, ⟨.call (.c (.fn f_s_l1Cur_among [] [])) [(.l 0), (.l 1)], none⟩, ⟨.fieldAddr 1 (.t 3), none⟩, ⟨.store 1 (.l 3) (.l 2), none⟩] []) (.seq (.region [⟨.bin 0 .eql (.t 4) (.c (.int .i64 (2))), none⟩, ⟨.mv (.l 0), none⟩] [(7, 1)])
 (.cond (.t 7) (.region [⟨.mv (.t 0), none⟩, ⟨.buildSlice 1 4 [.int .i64 (0), .int .i64 (0), .int .i64 (0), .int .i64 (0)] [(0, 1, (.c (.int .i64 (0)))), (1, 1, (.c (.int .i64 (99)))), (2, 1, (.c (.int .i64 (100)))), (3, 1, (.c (.int .i64 (-1))))], none⟩, ⟨.call (.c (.fn f_s_l1Cur_among [] [])) [(.l 0), (.l 1)], none⟩, ⟨.fieldAddr 2 (.t 3), none⟩, ⟨.store 1 (.l 3) (.l 2), none⟩] []) .skip))))))))
 (.seq (.region [⟨.load true 3 (.t 3), none⟩, ⟨.store 3 (.t 1) (.l 0), none⟩] [])
 .ret)))))
def a_s_l1Cur_raft : AFun := ⟨[0, 2, 3, 4, 20, 21, 30, 36], 43, c_s_l1Cur_raft, [.cell 1 true 3], 1⟩
def w_s_l1Cur_cargo_1 : ACode :=
 (.seq (.seq (.region [⟨.mv (.t 3), none⟩, ⟨.bin 0 .gtr (.l 0) (.c (.int .i64 (0))), none⟩] [(5, 1)])
 (.cond (.t 5) .skip (.exit 0)))
 (.seq (.block 1 (.region [⟨.mv (.t 2), none⟩, ⟨.mv (.t 0), none⟩, ⟨.call (.c (.fn f_s_l1Cur_pick [] [])) [(.l 1), (.c (.int .i64 (16)))], none⟩, ⟨.mv (.t 0), none⟩, ⟨.mv (.t 0), none⟩, ⟨.buildSlice 1 3 [.int .i64 (0), .int .i64 (0), .int .i64 (0)] [(0, 1, (.c (.int .i64 (2)))), (1, 1, (.c (.int .i64 (4)))), (2, 1, (.c (.int .i64 (9))))], none⟩, ⟨.call (.c (.fn f_s_l1Cur_among [] [])) [(.l 4), (.l 5)], none⟩, ⟨.call (.c (.fn f_s_l1Cur_pick [] [])) [(.l 3), (.l 6)], none⟩, ⟨.bin 0 .add (.c (.int .i64 (1))) (.l 7), none⟩, ⟨.build [.int .i64 (0), .int .i64 (0)] [(0, 1, (.l 2)), (1, 1, (.l 8))], none⟩, ⟨.buildSlice 2 1 [.int .i64 (0), .int .i64 (0)] [(0, 2, (.l 9))], none⟩, ⟨.append false 2 16 (.l 0) (.l 10), none⟩, ⟨.mv (.l 11), none⟩] [(2, 12)]))
 (.region [⟨.mv (.t 3), none⟩, ⟨.bin 0 .sub (.l 0) (.c (.int .i64 (1))), none⟩, ⟨.mv (.l 1), none⟩] [(3, 2)])))
def w_s_l1Cur_cargo_2 : ACode :=
 (.seq (.seq (.region [⟨.mv (.t 2), none⟩, ⟨.len (.l 0), none⟩, ⟨.bin 0 .lss (.l 1) (.c (.int .i64 (9))), none⟩] [(11, 2)])
 (.cond (.t 11) .skip (.exit 3)))
 (.block 4 (.region [⟨.mv (.t 2), none⟩, ⟨.build [.int .i64 (0), .int .i64 (0)] [(0, 1, (.c (.int .i64 (5)))), (1, 1, (.c (.int .i64 (1))))], none⟩, ⟨.buildSlice 2 1 [.int .i64 (0), .int .i64 (0)] [(0, 2, (.l 1))], none⟩, ⟨.append false 2 16 (.l 0) (.l 2), none⟩, ⟨.mv (.l 3), none⟩] [(2, 4)])))
def c_s_l1Cur_cargo : ACode :=
 (.seq (.region [⟨.mv (.c (.slice none 0 0 none)), none⟩] [(1, 0)])
 (.seq (.region [⟨.buildSlice 2 0 [] [], none⟩, ⟨.mv (.l 0), none⟩] [(2, 1)])
 (.seq (.seq (.region [⟨.mv (.t 0), none⟩, ⟨.buildSlice 1 8 [.int .i64 (0), .int .i64 (0), .int .i64 (0), .int .i64 (0), .int .i64 (0), .int .i64 (0), .int .i64 (0), .int .i64 (0)] [(0, 1, (.c (.int .i64 (3)))), (1, 1, (.c (.int .i64 (4)))), (2, 1, (.c (.int .i64 (2)))), (3, 1, (.c (.int .i64 (5)))), (4, 1, (.c (.int .i64 (1)))), (5, 1, (.c (.int .i64 (0)))), (6, 1, (.c (.int .i64 (6)))), (7, 1, (.c (.int .i64 (8))))], none⟩, ⟨.call (.c (.fn f_s_l1Cur_among [] [])) [(.l 0), (.l 1)], none⟩, ⟨.mv (.l 2), none⟩] [(3, 3)])
 (.block 0 (.loop w_s_l1Cur_cargo_1)))
 (.seq (.seq (.region [⟨.mv (.t 2), none⟩, ⟨.len (.l 0), none⟩, ⟨.mv (.l 1), none⟩] [(4, 2)])
 (.seq (.region [⟨.mv (.t 4), none⟩, ⟨.bin 0 .gtr (.l 0) (.c (.int .i64 (0))), none⟩] [(6, 1)])
 (.cond (.t 6) (.seq (.region [⟨.mv (.t 0), none⟩, ⟨.call (.c (.fn f_s_l1Cur_pick [] [])) [(.l 0), (.c (.int .i64 (50)))], none⟩] [(7, 1)])
 (.block 2 (.seq (.region [⟨.bin 0 .eql (.t 7) (.c (.int .i64 (0))), none⟩, ⟨.mv (.l 0), none⟩] [(8, 1)])
 (.cond (.t 8) (.region [⟨.mv (.t 2), none⟩, ⟨.mv (.t 0), none⟩, ⟨.mv (.t 4), none⟩, ⟨.call (.c (.fn f_s_l1Cur_pick [] [])) [(.l 1), (.l 2)], none⟩, ⟨.mv (.t 0), none⟩, ⟨.buildSlice 1 3 [.int .i64 (0), .int .i64 (0), .int .i64 (0)] [(0, 1, (.c (.int .i64 (-1)))), (1, 1, (.c (.int .i64 (60)))), (2, 1, (.c (.int .i64 (61))))], none⟩, ⟨.call (.c (.fn f_s_l1Cur_among [] [])) [(.l 4), (.l 5)], none⟩, ⟨.indexAddrS 2 (.l 0) (.l 3), none⟩, ⟨.fieldAddr 0 (.l 7), none⟩, ⟨.store 1 (.l 8) (.l 6), none⟩] []) (.seq (.region [⟨.bin 0 .eql (.t 7) (.c (.int .i64 (1))), none⟩, ⟨.mv (.l 0), none⟩] [(9, 1)])
 (.cond (.t 9) (.region [⟨.mv (.t 2), none⟩, ⟨.mv (.t 0), none⟩, ⟨.mv (.t 4), none⟩, ⟨.call (.c (.fn f_s_l1Cur_pick [] [])) [(.l 1), (.l 2)], none⟩, ⟨.mv (.t 0), none⟩, ⟨.buildSlice 1 3 [.int .i64 (0), .int .i64 (0), .int .i64 (0)] [(0, 1, (.c (.int .i64 (0)))), (1, 1, (.c (.int .i64 (99)))), (2, 1, (.c (.int .i64 (100))))], none⟩, ⟨.call (.c (.fn f_s_l1Cur_among [] [])) [(.l 4), (.l 5)], none⟩, ⟨.indexAddrS 2 (.l 0) (.l 3), none⟩, ⟨.fieldAddr 1 (.l 7), none⟩, ⟨.store 1 (.l 8) (.l 6), none⟩] []) (.seq (.region [⟨.bin 0 .eql (.t 7) (.c (.int .i64 (2))), none⟩, ⟨.mv (.l 0), none⟩] [(10, 1)])
 (.cond (.t 10) (.block 3 (.loop w_s_l1Cur_cargo_2)) .skip)))))))) .skip)))
 (.seq (.region [⟨.mv (.t 2), none⟩, ⟨.mv (.l 0), none⟩] [(1, 1)])
 .ret)))))
def a_s_l1Cur_cargo : AFun := ⟨[0, 2, 3, 4, 5, 11, 29, 31, 32, 43, 54, 58], 64, c_s_l1Cur_cargo, [.tmp 1], 2⟩
def w_s_l1Cur_setOf_1 : ACode :=
 (.seq (.seq (.region [⟨.mv (.t 4), none⟩, ⟨.mv (.t 1), none⟩, ⟨.len (.l 1), none⟩, ⟨.bin 0 .lss (.l 0) (.l 2), none⟩, ⟨.mv (.l 3), none⟩, ⟨.mv (.t 4), some ((.l 4), true)⟩, ⟨.bin 0 .lss (.l 5) (.c (.int .i64 (9))), some ((.l 4), true)⟩, ⟨.pick (.l 4) (.l 6) (.c (.bool false)), none⟩] [(5, 7)])
 (.cond (.t 5) .skip (.exit 0)))
 (.seq (.block 1 (.seq (.region [⟨.mv (.t 0), none⟩, ⟨.call (.c (.fn f_s_l1Cur_one [] [])) [(.l 0), (.c (.int .i64 (2)))], none⟩] [(6, 1)])
 (.cond (.t 6) (.region [⟨.mv (.t 3), none⟩, ⟨.mv (.t 4), none⟩, ⟨.buildSlice 1 1 [.int .i64 (0)] [(0, 1, (.l 1))], none⟩, ⟨.append false 1 8 (.l 0) (.l 2), none⟩, ⟨.mv (.l 3), none⟩] [(3, 4)]) .skip)))
 (.region [⟨.mv (.t 4), none⟩, ⟨.bin 0 .add (.l 0) (.c (.int .i64 (1))), none⟩, ⟨.mv (.l 1), none⟩] [(4, 2)])))
def c_s_l1Cur_setOf : ACode :=
 (.seq (.region [⟨.mv (.c (.slice none 0 0 none)), none⟩] [(2, 0)])
 (.seq (.region [⟨.buildSlice 1 0 [] [], none⟩, ⟨.mv (.l 0), none⟩] [(3, 1)])
 (.seq (.seq (.region [⟨.mv (.c (.int .i64 (0))), none⟩] [(4, 0)])
 (.block 0 (.loop w_s_l1Cur_setOf_1)))
 (.seq (.seq (.region [⟨.mv (.t 0), none⟩, ⟨.call (.c (.fn f_s_l1Cur_one [] [])) [(.l 0), (.c (.int .i64 (24)))], none⟩] [(7, 1)])
 (.cond (.t 7) (.region [⟨.mv (.t 3), none⟩, ⟨.mv (.t 0), none⟩, ⟨.mv (.t 1), none⟩, ⟨.len (.l 2), none⟩, ⟨.buildSlice 1 3 [.int .i64 (0), .int .i64 (0), .int .i64 (0)] [(0, 1, (.c (.int .i64 (-1)))), (1, 1, (.c (.int .i64 (0)))), (2, 1, (.l 3))], none⟩, ⟨.call (.c (.fn f_s_l1Cur_among [] [])) [(.l 1), (.l 4)], none⟩, ⟨.buildSlice 1 1 [.int .i64 (0)] [(0, 1, (.l 5))], none⟩, ⟨.append false 1 8 (.l 0) (.l 6), none⟩, ⟨.mv (.l 7), none⟩] [(3, 8)]) .skip))
 (.seq (.region [⟨.mv (.t 3), none⟩, ⟨.mv (.l 0), none⟩] [(2, 1)])
 .ret)))))
def a_s_l1Cur_setOf : AFun := ⟨[0, 1, 4, 5, 6, 15, 19, 25], 35, c_s_l1Cur_setOf, [.tmp 2], 2⟩
def w_s_l10Reserve_1 : ACode :=
 (.seq (.seq (.region [⟨.mv (.t 8), none⟩, ⟨.mv (.t 1), none⟩, ⟨.len (.l 1), none⟩, ⟨.bin 0 .lss (.l 0) (.l 2), none⟩] [(9, 3)])
 (.cond (.t 9) .skip (.exit 0)))
 (.seq (.block 1 (.seq (.region [⟨.mv (.t 2), none⟩, ⟨.mv (.t 8), none⟩, ⟨.bin 0 .shr (.l 0) (.l 1), none⟩, ⟨.bin 0 .and (.l 2) (.c (.int .i64 (1))), none⟩, ⟨.bin 0 .eql (.l 3) (.c (.int .i64 (1))), none⟩] [(10, 4)])
 (.cond (.t 10) (.seq (.draw [⟨.mv (.t 6), none, []⟩, ⟨.mv (.t 1), none, []⟩, ⟨.mv (.t 8), none, []⟩, ⟨.indexAddrS 2 (.l 1) (.l 2), none, []⟩, ⟨.fieldAddr 1 (.l 3), none, []⟩, ⟨.load false 1 (.l 4), none, []⟩, ⟨.bin 0 .mul (.c (.int .i64 (2))) (.l 5), none, []⟩, ⟨.mv (.t 1), none, []⟩, ⟨.mv (.t 8), none, []⟩, ⟨.indexAddrS 2 (.l 7) (.l 8), none, []⟩, ⟨.fieldAddr 0 (.l 9), none, []⟩, ⟨.load false 1 (.l 10), none, []⟩, ⟨.fieldAddr 0 (.t 3), none, []⟩, ⟨.load false 1 (.l 12), none, []⟩, ⟨.bin 0 .sub (.l 11) (.l 13), none, []⟩, ⟨.bin 0 .mul (.l 6) (.l 14), none, []⟩, ⟨.bin 0 .add (.l 0) (.l 15), none, []⟩, ⟨.mv (.l 16), none, []⟩] [(6, 17)])
 (.draw [⟨.mv (.t 7), none, []⟩, ⟨.mv (.t 1), none, []⟩, ⟨.mv (.t 8), none, []⟩, ⟨.indexAddrS 2 (.l 1) (.l 2), none, []⟩, ⟨.fieldAddr 1 (.l 3), none, []⟩, ⟨.load false 1 (.l 4), none, []⟩, ⟨.bin 0 .mul (.c (.int .i64 (2))) (.l 5), none, []⟩, ⟨.fieldAddr 1 (.t 3), none, []⟩, ⟨.load false 1 (.l 7), none, []⟩, ⟨.mv (.t 1), none, []⟩, ⟨.mv (.t 8), none, []⟩, ⟨.indexAddrS 2 (.l 9) (.l 10), none, []⟩, ⟨.fieldAddr 0 (.l 11), none, []⟩, ⟨.load false 1 (.l 12), none, []⟩, ⟨.bin 0 .sub (.l 8) (.l 13), none, []⟩, ⟨.bin 0 .mul (.l 6) (.l 14), none, []⟩, ⟨.bin 0 .add (.l 0) (.l 15), none, []⟩, ⟨.mv (.l 16), none, []⟩] [(7, 17)])) .skip)))
 (.region [⟨.mv (.t 8), none⟩, ⟨.bin 0 .add (.l 0) (.c (.int .i64 (1))), none⟩, ⟨.mv (.l 1), none⟩] [(8, 2)])))
def c_s_l10Reserve : ACode :=
 (.seq (.region [⟨.box (.t 0), none⟩, ⟨.mv (.c (.int .i64 (0))), none⟩, ⟨.mv (.c (.int .i64 (0))), none⟩] [(3, 0), (4, 1), (5, 2)])
 (.seq (.draw [⟨.fieldAddr 2 (.t 3), none, []⟩, ⟨.load false 1 (.l 0), none, []⟩, ⟨.fieldAddr 1 (.t 3), none, []⟩, ⟨.load false 1 (.l 2), none, []⟩, ⟨.fieldAddr 0 (.t 3), none, []⟩, ⟨.load false 1 (.l 4), none, []⟩, ⟨.bin 0 .sub (.l 3) (.l 5), none, []⟩, ⟨.bin 0 .mul (.l 1) (.l 6), none, []⟩, ⟨.fieldAddr 2 (.t 3), none, []⟩, ⟨.load false 1 (.l 8), none, []⟩, ⟨.fieldAddr 1 (.t 3), none, []⟩, ⟨.load false 1 (.l 10), none, []⟩, ⟨.fieldAddr 0 (.t 3), none, []⟩, ⟨.load false 1 (.l 12), none, []⟩, ⟨.bin 0 .sub (.l 11) (.l 13), none, []⟩, ⟨.bin 0 .mul (.l 9) (.l 14), none, []⟩, ⟨.mv (.l 7), none, []⟩, ⟨.mv (.l 15), none, []⟩] [(6, 16), (7, 17)])
 (.seq (.seq (.region [⟨.mv (.c (.int .i64 (0))), none⟩] [(8, 0)])
 (.block 0 (.loop w_s_l10Reserve_1)))
 (.seq (.region [⟨.mv (.t 6), none⟩, ⟨.mv (.t 7), none⟩, ⟨.mv (.l 0), none⟩, ⟨.mv (.l 1), none⟩] [(4, 2), (5, 3)])
 .ret))))
def a_s_l10Reserve : AFun := ⟨[0, 1, 2, 3, 6, 7, 8, 9, 10, 30, 37], 74, c_s_l10Reserve, [.tmp 4, .tmp 5], 1⟩
def w_i_Raft_reserve_1 : ACode :=
 (.seq (.region [⟨.bin 0 .lss (.t 12) (.t 11), none⟩] [(13, 0)])
 (.seq (.cond (.t 13) .skip (.exit 0))
 (.seq (.block 1 (.seq (.region [⟨.mv (.t 12), none⟩, ⟨.indexAddrS 2 (.t 10) (.t 12), none⟩, ⟨.load true 2 (.l 1), none⟩, ⟨.alloc [.int .i64 (0), .int .i64 (0)], none⟩, ⟨.mv (.l 0), none⟩, ⟨.store 2 (.l 3) (.l 2), none⟩] [(8, 4), (9, 3)])
 (.seq (.region [⟨.mv (.t 2), none⟩, ⟨.mv (.t 8), none⟩, ⟨.bin 0 .shr (.l 0) (.l 1), none⟩, ⟨.bin 0 .and (.l 2) (.c (.int .i64 (1))), none⟩, ⟨.bin 0 .eql (.l 3) (.c (.int .i64 (1))), none⟩] [(14, 4)])
 (.cond (.t 14) (.seq (.region [⟨.mv (.t 6), none⟩, ⟨.fieldAddr 1 (.t 9), none⟩, ⟨.load false 1 (.l 1), none⟩, ⟨.bin 0 .mul (.c (.int .i64 (2))) (.l 2), none⟩, ⟨.fieldAddr 0 (.t 9), none⟩, ⟨.load false 1 (.l 4), none⟩, ⟨.fieldAddr 0 (.t 3), none⟩, ⟨.load false 1 (.l 6), none⟩, ⟨.bin 0 .sub (.l 5) (.l 7), none⟩, ⟨.bin 0 .mul (.l 3) (.l 8), none⟩, ⟨.bin 0 .add (.l 0) (.l 9), none⟩, ⟨.mv (.l 10), none⟩] [(6, 11)])
 (.region [⟨.mv (.t 7), none⟩, ⟨.fieldAddr 1 (.t 9), none⟩, ⟨.load false 1 (.l 1), none⟩, ⟨.bin 0 .mul (.c (.int .i64 (2))) (.l 2), none⟩, ⟨.fieldAddr 0 (.t 9), none⟩, ⟨.load false 1 (.l 4), none⟩, ⟨.fieldAddr 1 (.t 3), none⟩, ⟨.load false 1 (.l 6), none⟩, ⟨.bin 0 .sub (.l 5) (.l 7), none⟩, ⟨.bin 0 .mul (.l 3) (.l 8), none⟩, ⟨.bin 0 .sub (.l 0) (.l 9), none⟩, ⟨.mv (.l 10), none⟩] [(7, 11)])) .skip))))
 (.region [⟨.bin 0 .add (.t 12) (.c (.int .i64 (1))), none⟩, ⟨.mv (.l 0), none⟩] [(12, 1)]))))
def c_i_Raft_reserve : ACode :=
 (.seq (.region [⟨.box (.t 0), none⟩, ⟨.mv (.c (.int .i64 (0))), none⟩, ⟨.mv (.c (.int .i64 (0))), none⟩] [(3, 0), (4, 1), (5, 2)])
 (.seq (.region [⟨.fieldAddr 2 (.t 3), none⟩, ⟨.load false 1 (.l 0), none⟩, ⟨.fieldAddr 1 (.t 3), none⟩, ⟨.load false 1 (.l 2), none⟩, ⟨.fieldAddr 0 (.t 3), none⟩, ⟨.load false 1 (.l 4), none⟩, ⟨.bin 0 .sub (.l 3) (.l 5), none⟩, ⟨.bin 0 .mul (.l 1) (.l 6), none⟩, ⟨.mv (.l 7), none⟩] [(6, 8)])
 (.seq (.region [⟨.mv (.t 6), none⟩, ⟨.mv (.l 0), none⟩] [(7, 1)])
 (.seq (.seq (.region [⟨.mv (.t 1), none⟩, ⟨.len (.l 0), none⟩, ⟨.mv (.c (.int .i64 (0))), none⟩] [(10, 0), (11, 1), (12, 2)])
 (.block 0 (.loop w_i_Raft_reserve_1)))
 (.seq (.region [⟨.mv (.t 6), none⟩, ⟨.mv (.t 7), none⟩, ⟨.mv (.l 0), none⟩, ⟨.mv (.l 1), none⟩] [(4, 2), (5, 3)])
 .ret)))))
def a_i_Raft_reserve : AFun := ⟨[0, 1, 2, 3, 6, 7, 8, 9, 10, 11, 21, 22, 23, 24, 32], 58, c_i_Raft_reserve, [.tmp 4, .tmp 5], 1⟩
def c_s_l1Cur_one : ACode :=
 (.seq (.region [⟨.mv (.c (.bool false)), none⟩] [(2, 0)])
 (.seq (.region [⟨.mv (.t 0), none⟩, ⟨.mv (.t 1), none⟩, ⟨.call (.c (.fn f_s_l1Cur_pick [] [])) [(.l 0), (.l 1)], none⟩, ⟨.bin 0 .eql (.l 2) (.c (.int .i64 (0))), none⟩, ⟨.mv (.l 3), none⟩] [(2, 4)])
 .ret))
def a_s_l1Cur_one : AFun := ⟨[0, 1, 4], 9, c_s_l1Cur_one, [.tmp 2], 1⟩
-- s_l1Cur_orderFor: not taken
def c_i_isBase : ACode :=
 (.seq (.region [⟨.mv (.c (.bool false)), none⟩] [(2, 0)])
 (.seq (.region [⟨.mv (.t 0), none⟩, ⟨.call (.c (.fn f_i_isPlace [] [])) [(.l 0)], none⟩, ⟨.mv (.l 1), none⟩, ⟨.mv (.t 1), some ((.l 2), true)⟩, ⟨.call (.c (.fn f_i_isPlace [] [])) [(.l 3)], some ((.l 2), true)⟩, ⟨.pick (.l 2) (.l 4) (.c (.bool false)), none⟩, ⟨.mv (.l 5), none⟩, ⟨.mv (.t 0), some ((.l 6), true)⟩, ⟨.mv (.t 1), some ((.l 6), true)⟩, ⟨.bin 0 .leq (.l 7) (.l 8), some ((.l 6), true)⟩, ⟨.pick (.l 6) (.l 9) (.c (.bool false)), none⟩, ⟨.mv (.l 10), none⟩] [(2, 11)])
 .ret))
def a_i_isBase : AFun := ⟨[0, 1, 4], 16, c_i_isBase, [.tmp 2], 1⟩
def c_i_within : ACode :=
 (.seq (.region [⟨.mv (.c (.bool false)), none⟩] [(3, 0)])
 (.seq (.region [⟨.mv (.t 0), none⟩, ⟨.mv (.t 1), none⟩, ⟨.bin 0 .geq (.l 0) (.l 1), none⟩, ⟨.mv (.l 2), none⟩, ⟨.mv (.t 0), some ((.l 3), true)⟩, ⟨.mv (.t 2), some ((.l 3), true)⟩, ⟨.bin 0 .leq (.l 4) (.l 5), some ((.l 3), true)⟩, ⟨.pick (.l 3) (.l 6) (.c (.bool false)), none⟩, ⟨.mv (.l 7), none⟩] [(3, 8)])
 .ret))
def a_i_within : AFun := ⟨[0, 1, 2, 6], 15, c_i_within, [.tmp 3], 1⟩
def c_s_l10Raft : ACode :=
 (.seq (.region [⟨.box (.t 0), none⟩, ⟨.mv (.c (.bool false)), none⟩] [(1, 0), (2, 1)])
 (.seq (.region [⟨.fieldAddr 0 (.t 1), none⟩, ⟨.load false 1 (.l 0), none⟩, ⟨.fieldAddr 1 (.t 1), none⟩, ⟨.load false 1 (.l 2), none⟩, ⟨.call (.c (.fn f_s_l2Base [] [])) [(.l 1), (.l 3)], none⟩, ⟨.mv (.l 4), none⟩, ⟨.fieldAddr 2 (.t 1), some ((.l 5), true)⟩, ⟨.load false 1 (.l 6), some ((.l 5), true)⟩, ⟨.call (.c (.fn f_s_l1In [] [])) [(.l 7), (.c (.int .i64 (1))), (.c (.int .i64 (99)))], some ((.l 5), true)⟩, ⟨.pick (.l 5) (.l 8) (.c (.bool false)), none⟩, ⟨.mv (.l 9), none⟩] [(2, 10)])
 .ret))
def a_s_l10Raft : AFun := ⟨[0, 1, 2], 13, c_s_l10Raft, [.tmp 2], 1⟩
def c_s_DrawSafeSets : ACode :=
 (.seq (.region [⟨.alloc [.int .i64 (0), .int .i64 (0), .int .i64 (0)], none⟩, ⟨.mv (.c (.slice none 0 0 none)), none⟩] [(1, 0), (2, 1)])
 (.seq (.region [⟨.mv (.t 0), none⟩, ⟨.build [.slice none 0 0 none, .int .i64 (0), .int .u64 (0)] [(0, 1, (.l 0))], none⟩, ⟨.box (.l 1), none⟩, ⟨.mv (.l 2), none⟩] [(3, 3)])
 (.seq (.region [⟨.mv (.t 3), none⟩, ⟨.call (.c (.fn f_s_l1Cur_raft [] [])) [(.l 0)], none⟩, ⟨.mv (.t 3), none⟩, ⟨.call (.c (.fn f_s_l1Cur_cargo [] [])) [(.l 2)], none⟩, ⟨.store 3 (.t 1) (.l 1), none⟩, ⟨.mv (.l 3), none⟩] [(2, 5)])
 .ret)))
def a_s_DrawSafeSets : AFun := ⟨[0, 2, 3, 4], 12, c_s_DrawSafeSets, [.cell 1 true 3, .tmp 2], 2⟩
def c_s_l1Most : ACode :=
 (.seq (.region [⟨.mv (.c (.int .i64 (0))), none⟩] [(2, 0)])
 (.seq (.seq (.region [⟨.mv (.t 0), none⟩, ⟨.mv (.t 1), none⟩, ⟨.bin 0 .gtr (.l 0) (.l 1), none⟩] [(3, 2)])
 (.cond (.t 3) (.seq (.region [⟨.mv (.t 0), none⟩, ⟨.mv (.l 0), none⟩] [(2, 1)])
 .ret) .skip))
 (.seq (.region [⟨.mv (.t 1), none⟩, ⟨.mv (.l 0), none⟩] [(2, 1)])
 .ret)))
def a_s_l1Most : AFun := ⟨[0, 1, 4, 7], 10, c_s_l1Most, [.tmp 2], 1⟩
def c_s_l1Cur_pick : ACode :=
 (.seq (.region [⟨.mv (.c (.int .i64 (0))), none⟩] [(2, 0)])
 (.seq (.seq (.region [⟨.mv (.t 1), none⟩, ⟨.bin 0 .leq (.l 0) (.c (.int .i64 (1))), none⟩] [(4, 1)])
 (.cond (.t 4) (.seq (.region [⟨.mv (.c (.int .i64 (0))), none⟩] [(2, 0)])
 .ret) .skip))
 (.seq (.region [⟨.mv (.t 0), none⟩, ⟨.call (.c (.fn f_s_l1Cur_next [] [])) [(.l 0)], none⟩, ⟨.mv (.l 1), none⟩] [(3, 2)])
 (.seq (.seq (.region [⟨.mv (.t 1), none⟩, ⟨.bin 0 .gtr (.l 0) (.c (.int .i64 (200))), none⟩] [(5, 1)])
 (.cond (.t 5) (.region [⟨.mv (.t 3), none⟩, ⟨.bin 0 .mul (.l 0) (.c (.int .i64 (256))), none⟩, ⟨.mv (.t 0), none⟩, ⟨.call (.c (.fn f_s_l1Cur_next [] [])) [(.l 2)], none⟩, ⟨.bin 0 .add (.l 1) (.l 3), none⟩, ⟨.mv (.l 4), none⟩] [(3, 5)]) .skip))
 (.seq (.region [⟨.mv (.t 3), none⟩, ⟨.mv (.t 1), none⟩, ⟨.bin 0 .rem (.l 0) (.l 1), none⟩, ⟨.mv (.l 2), none⟩] [(2, 3)])
 .ret)))))
def a_s_l1Cur_pick : AFun := ⟨[0, 1, 4, 5, 7, 11], 20, c_s_l1Cur_pick, [.tmp 2], 1⟩
-- s_l1Put: not taken
def w_s_l1Has_1 : ACode :=
 (.seq (.seq (.region [⟨.mv (.t 3), none⟩, ⟨.mv (.t 0), none⟩, ⟨.len (.l 1), none⟩, ⟨.bin 0 .lss (.l 0) (.l 2), none⟩] [(4, 3)])
 (.cond (.t 4) .skip (.exit 0)))
 (.seq (.block 1 (.seq (.region [⟨.mv (.t 0), none⟩, ⟨.mv (.t 3), none⟩, ⟨.indexAddrS 1 (.l 0) (.l 1), none⟩, ⟨.load false 1 (.l 2), none⟩, ⟨.mv (.t 1), none⟩, ⟨.bin 0 .eql (.l 3) (.l 4), none⟩] [(5, 5)])
 (.cond (.t 5) (.seq (.region [⟨.mv (.c (.bool true)), none⟩] [(2, 0)])
 .ret) .skip)))
 (.region [⟨.mv (.t 3), none⟩, ⟨.bin 0 .add (.l 0) (.c (.int .i64 (1))), none⟩, ⟨.mv (.l 1), none⟩] [(3, 2)])))
def c_s_l1Has : ACode :=
 (.seq (.region [⟨.mv (.c (.bool false)), none⟩] [(2, 0)])
 (.seq (.seq (.region [⟨.mv (.c (.int .i64 (0))), none⟩] [(3, 0)])
 (.block 0 (.loop w_s_l1Has_1)))
 (.seq (.region [⟨.mv (.c (.bool false)), none⟩] [(2, 0)])
 .ret)))
def a_s_l1Has : AFun := ⟨[0, 1, 4, 5, 9, 17], 18, c_s_l1Has, [.tmp 2], 1⟩
def c_i_IsRow : ACode :=
 (.seq (.region [⟨.mv (.c (.bool false)), none⟩] [(1, 0)])
 (.seq (.seq (.region [⟨.mv (.t 0), none⟩, ⟨.len (.l 0), none⟩, ⟨.bin 0 .gtr (.l 1) (.c (.int .i64 (12))), none⟩] [(2, 2)])
 (.cond (.t 2) (.seq (.region [⟨.mv (.c (.bool false)), none⟩] [(1, 0)])
 .ret) .skip))
 (.seq (.region [⟨.mv (.t 0), none⟩, ⟨.call (.c (.fn f_slices_ContainsFunc_Si_Load_i_Load [] [])) [(.l 0), (.c (.fn f_i_IsRow_1 [] []))], none⟩, ⟨.un .not (.l 1), none⟩, ⟨.mv (.l 2), none⟩] [(1, 3)])
 .ret)))
def a_i_IsRow : AFun := ⟨[0, 2, 5], 9, c_i_IsRow, [.tmp 1], 1⟩
def w_s_l2Row_1 : ACode :=
 (.seq (.seq (.region [⟨.mv (.t 2), none⟩, ⟨.mv (.t 0), none⟩, ⟨.len (.l 1), none⟩, ⟨.bin 0 .lss (.l 0) (.l 2), none⟩, ⟨.mv (.l 3), none⟩, ⟨.mv (.t 2), some ((.l 4), true)⟩, ⟨.bin 0 .leq (.l 5) (.c (.int .i64 (12))), some ((.l 4), true)⟩, ⟨.pick (.l 4) (.l 6) (.c (.bool false)), none⟩] [(3, 7)])
 (.cond (.t 3) .skip (.exit 0)))
 (.seq (.block 1 (.seq (.region [⟨.mv (.t 0), none⟩, ⟨.mv (.t 2), none⟩, ⟨.indexAddrS 2 (.l 0) (.l 1), none⟩, ⟨.fieldAddr 0 (.l 2), none⟩, ⟨.load false 1 (.l 3), none⟩, ⟨.call (.c (.fn f_s_l2In [] [])) [(.l 4)], none⟩, ⟨.un .not (.l 5), none⟩, ⟨.mv (.l 6), none⟩, ⟨.mv (.t 0), some ((.l 7), false)⟩, ⟨.mv (.t 2), some ((.l 7), false)⟩, ⟨.indexAddrS 2 (.l 8) (.l 9), some ((.l 7), false)⟩, ⟨.fieldAddr 1 (.l 10), some ((.l 7), false)⟩, ⟨.load false 1 (.l 11), some ((.l 7), false)⟩, ⟨.call (.c (.fn f_s_l1In [] [])) [(.l 12), (.c (.int .i64 (1))), (.c (.int .i64 (99)))], some ((.l 7), false)⟩, ⟨.un .not (.l 13), some ((.l 7), false)⟩, ⟨.pick (.l 7) (.c (.bool true)) (.l 14), none⟩] [(4, 15)])
 (.cond (.t 4) (.seq (.region [⟨.mv (.c (.bool false)), none⟩] [(1, 0)])
 .ret) .skip)))
 (.region [⟨.mv (.t 2), none⟩, ⟨.bin 0 .add (.l 0) (.c (.int .i64 (1))), none⟩, ⟨.mv (.l 1), none⟩] [(2, 2)])))
def c_s_l2Row : ACode :=
 (.seq (.region [⟨.mv (.c (.bool false)), none⟩] [(1, 0)])
 (.seq (.seq (.region [⟨.mv (.c (.int .i64 (0))), none⟩] [(2, 0)])
 (.block 0 (.loop w_s_l2Row_1)))
 (.seq (.region [⟨.mv (.t 0), none⟩, ⟨.len (.l 0), none⟩, ⟨.bin 0 .leq (.l 1) (.c (.int .i64 (12))), none⟩, ⟨.mv (.l 2), none⟩] [(1, 3)])
 .ret)))
def a_s_l2Row : AFun := ⟨[0, 2, 3, 11, 29], 33, c_s_l2Row, [.tmp 1], 1⟩
def w_s_l1Rising_1 : ACode :=
 (.seq (.seq (.region [⟨.mv (.t 4), none⟩, ⟨.mv (.t 0), none⟩, ⟨.len (.l 1), none⟩, ⟨.bin 0 .lss (.l 0) (.l 2), none⟩] [(5, 3)])
 (.cond (.t 5) .skip (.exit 0)))
 (.seq (.block 1 (.seq (.draw [⟨.mv (.t 0), none, []⟩, ⟨.mv (.t 4), none, []⟩, ⟨.indexAddrS 1 (.l 0) (.l 1), none, []⟩, ⟨.load false 1 (.l 2), none, []⟩, ⟨.mv (.t 1), none, []⟩, ⟨.mv (.t 2), none, []⟩, ⟨.call (.c (.fn f_s_l1In [] [])) [(.l 3), (.l 4), (.l 5)], none, []⟩, ⟨.un .not (.l 6), none, []⟩, ⟨.mv (.l 7), none, []⟩, ⟨.mv (.t 4), some ((.l 8), false), []⟩, ⟨.bin 0 .gtr (.l 9) (.c (.int .i64 (0))), some ((.l 8), false), []⟩, ⟨.mv (.l 10), some ((.l 8), false), []⟩, ⟨.mv (.t 0), some ((.l 11), true), []⟩, ⟨.mv (.t 4), some ((.l 11), true), []⟩, ⟨.bin 0 .sub (.l 13) (.c (.int .i64 (1))), some ((.l 11), true), []⟩, ⟨.indexAddrS 1 (.l 12) (.l 14), some ((.l 11), true), []⟩, ⟨.load false 1 (.l 15), some ((.l 11), true), []⟩, ⟨.mv (.t 0), some ((.l 11), true), []⟩, ⟨.mv (.t 4), some ((.l 11), true), []⟩, ⟨.indexAddrS 1 (.l 17) (.l 18), some ((.l 11), true), []⟩, ⟨.load false 1 (.l 19), some ((.l 11), true), []⟩, ⟨.bin 0 .geq (.l 16) (.l 20), some ((.l 11), true), []⟩, ⟨.pick (.l 11) (.l 21) (.c (.bool false)), some ((.l 8), false), []⟩, ⟨.pick (.l 8) (.c (.bool true)) (.l 22), none, []⟩] [(6, 23)])
 (.cond (.t 6) (.seq (.region [⟨.mv (.c (.bool false)), none⟩] [(3, 0)])
 .ret) .skip)))
 (.region [⟨.mv (.t 4), none⟩, ⟨.bin 0 .add (.l 0) (.c (.int .i64 (1))), none⟩, ⟨.mv (.l 1), none⟩] [(4, 2)])))
def c_s_l1Rising : ACode :=
 (.seq (.region [⟨.mv (.c (.bool false)), none⟩] [(3, 0)])
 (.seq (.seq (.region [⟨.mv (.c (.int .i64 (0))), none⟩] [(4, 0)])
 (.block 0 (.loop w_s_l1Rising_1)))
 (.seq (.region [⟨.mv (.c (.bool true)), none⟩] [(3, 0)])
 .ret)))
def a_s_l1Rising : AFun := ⟨[0, 1, 2, 6, 7, 11, 37], 38, c_s_l1Rising, [.tmp 3], 1⟩
def c_s_l1Cur_among : ACode :=
 (.seq (.region [⟨.mv (.c (.int .i64 (0))), none⟩] [(2, 0)])
 (.seq (.region [⟨.mv (.t 1), none⟩, ⟨.mv (.t 0), none⟩, ⟨.mv (.t 1), none⟩, ⟨.len (.l 2), none⟩, ⟨.call (.c (.fn f_s_l1Cur_pick [] [])) [(.l 1), (.l 3)], none⟩, ⟨.indexAddrS 1 (.l 0) (.l 4), none⟩, ⟨.load false 1 (.l 5), none⟩, ⟨.mv (.l 6), none⟩] [(2, 7)])
 .ret))
def a_s_l1Cur_among : AFun := ⟨[0, 1, 4], 12, c_s_l1Cur_among, [.tmp 2], 1⟩
def c_i_isPlace : ACode :=
 (.seq (.region [⟨.mv (.c (.bool false)), none⟩] [(1, 0)])
 (.seq (.region [⟨.mv (.t 0), none⟩, ⟨.call (.c (.fn f_i_within [] [])) [(.l 0), (.c (.int .i64 (0))), (.c (.int .i64 (60)))], none⟩, ⟨.mv (.l 1), none⟩] [(1, 2)])
 .ret))
def a_i_isPlace : AFun := ⟨[0, 2], 5, c_i_isPlace, [.tmp 1], 1⟩
def c_s_l2Base : ACode :=
 (.seq (.region [⟨.mv (.c (.bool false)), none⟩] [(2, 0)])
 (.seq (.region [⟨.mv (.t 0), none⟩, ⟨.call (.c (.fn f_s_l2In [] [])) [(.l 0)], none⟩, ⟨.mv (.l 1), none⟩, ⟨.mv (.t 1), some ((.l 2), true)⟩, ⟨.call (.c (.fn f_s_l2In [] [])) [(.l 3)], some ((.l 2), true)⟩, ⟨.pick (.l 2) (.l 4) (.c (.bool false)), none⟩, ⟨.mv (.l 5), none⟩, ⟨.mv (.t 0), some ((.l 6), true)⟩, ⟨.mv (.t 1), some ((.l 6), true)⟩, ⟨.bin 0 .leq (.l 7) (.l 8), some ((.l 6), true)⟩, ⟨.pick (.l 6) (.l 9) (.c (.bool false)), none⟩, ⟨.mv (.l 10), none⟩] [(2, 11)])
 .ret))
def a_s_l2Base : AFun := ⟨[0, 1, 4], 16, c_s_l2Base, [.tmp 2], 1⟩
def c_s_l1In : ACode :=
 (.seq (.region [⟨.mv (.c (.bool false)), none⟩] [(3, 0)])
 (.seq (.region [⟨.mv (.t 0), none⟩, ⟨.mv (.t 1), none⟩, ⟨.bin 0 .geq (.l 0) (.l 1), none⟩, ⟨.mv (.l 2), none⟩, ⟨.mv (.t 0), some ((.l 3), true)⟩, ⟨.mv (.t 2), some ((.l 3), true)⟩, ⟨.bin 0 .leq (.l 4) (.l 5), some ((.l 3), true)⟩, ⟨.pick (.l 3) (.l 6) (.c (.bool false)), none⟩, ⟨.mv (.l 7), none⟩] [(3, 8)])
 .ret))
def a_s_l1In : AFun := ⟨[0, 1, 2, 6], 15, c_s_l1In, [.tmp 3], 1⟩
def c_s_l1Cur_next : ACode :=
 (.seq (.region [⟨.mv (.c (.int .i64 (0))), none⟩] [(1, 0)])
 (.seq (.region [⟨.mv (.c (.int .i64 (0))), none⟩] [(2, 0)])
 (.seq (.seq (.draw [⟨.mv (.t 0), none, []⟩, ⟨.nilCheck (.l 0), none, []⟩, ⟨.fieldAddr 1 (.l 1), none, []⟩, ⟨.load false 1 (.l 2), none, []⟩, ⟨.mv (.t 0), none, []⟩, ⟨.nilCheck (.l 4), none, []⟩, ⟨.fieldAddr 0 (.l 5), none, []⟩, ⟨.load false 1 (.l 6), none, []⟩, ⟨.len (.l 7), none, []⟩, ⟨.bin 0 .lss (.l 3) (.l 8), none, []⟩] [(3, 9)])
 (.cond (.t 3) (.draw [⟨.mv (.t 0), none, []⟩, ⟨.nilCheck (.l 0), none, []⟩, ⟨.fieldAddr 0 (.l 1), none, []⟩, ⟨.load false 1 (.l 2), none, []⟩, ⟨.mv (.t 0), none, []⟩, ⟨.nilCheck (.l 4), none, []⟩, ⟨.fieldAddr 1 (.l 5), none, []⟩, ⟨.load false 1 (.l 6), none, []⟩, ⟨.indexAddrS 1 (.l 3) (.l 7), none, []⟩, ⟨.load false 1 (.l 8), none, []⟩, ⟨.conv .i64 (.l 9), none, []⟩, ⟨.mv (.l 10), none, []⟩] [(2, 11)]) .skip))
 (.seq (.region [⟨.mv (.t 0), none⟩, ⟨.nilCheck (.l 0), none⟩, ⟨.fieldAddr 1 (.l 1), none⟩, ⟨.load false 1 (.l 2), none⟩, ⟨.bin 0 .add (.l 3) (.c (.int .i64 (1))), none⟩, ⟨.nilCheck (.l 0), none⟩, ⟨.fieldAddr 1 (.l 5), none⟩, ⟨.store 1 (.l 6) (.l 4), none⟩] [])
 (.seq (.region [⟨.mv (.t 0), none⟩, ⟨.mv (.t 0), none⟩, ⟨.nilCheck (.l 1), none⟩, ⟨.fieldAddr 2 (.l 2), none⟩, ⟨.load false 1 (.l 3), none⟩, ⟨.bin 0 .mul (.l 4) (.c (.int .u64 (6364136223846793005))), none⟩, ⟨.mv (.t 2), none⟩, ⟨.conv .u64 (.l 6), none⟩, ⟨.bin 0 .add (.l 5) (.l 7), none⟩, ⟨.bin 0 .add (.l 8) (.c (.int .u64 (462197))), none⟩, ⟨.nilCheck (.l 0), none⟩, ⟨.fieldAddr 2 (.l 10), none⟩, ⟨.store 1 (.l 11) (.l 9), none⟩] [])
 (.seq (.seq (.draw [⟨.mv (.t 0), none, []⟩, ⟨.nilCheck (.l 0), none, []⟩, ⟨.fieldAddr 1 (.l 1), none, []⟩, ⟨.load false 1 (.l 2), none, []⟩, ⟨.mv (.t 0), none, []⟩, ⟨.nilCheck (.l 4), none, []⟩, ⟨.fieldAddr 0 (.l 5), none, []⟩, ⟨.load false 1 (.l 6), none, []⟩, ⟨.len (.l 7), none, []⟩, ⟨.bin 0 .leq (.l 3) (.l 8), none, []⟩] [(4, 9)])
 (.cond (.t 4) (.seq (.region [⟨.mv (.t 2), none⟩, ⟨.mv (.l 0), none⟩] [(1, 1)])
 .ret) .skip))
 (.seq (.region [⟨.mv (.t 0), none⟩, ⟨.nilCheck (.l 0), none⟩, ⟨.fieldAddr 2 (.l 1), none⟩, ⟨.load false 1 (.l 2), none⟩, ⟨.bin 0 .shr (.l 3) (.c (.int .u64 (40))), none⟩, ⟨.bin 0 .and (.l 4) (.c (.int .u64 (255))), none⟩, ⟨.conv .i64 (.l 5), none⟩, ⟨.mv (.l 6), none⟩] [(1, 7)])
 .ret)))))))
def a_s_l1Cur_next : AFun := ⟨[0, 2, 3, 13, 53], 62, c_s_l1Cur_next, [.tmp 1], 1⟩
def c_slices_ContainsFunc_Si_Load_i_Load : ACode :=
 (.seq (.region [⟨.mv (.c (.bool false)), none⟩] [(2, 0)])
 (.seq (.region [⟨.mv (.t 0), none⟩, ⟨.mv (.t 1), none⟩, ⟨.call (.c (.fn f_slices_IndexFunc_Si_Load_i_Load [] [])) [(.l 0), (.l 1)], none⟩, ⟨.bin 0 .geq (.l 2) (.c (.int .i64 (0))), none⟩, ⟨.mv (.l 3), none⟩] [(2, 4)])
 .ret))
def a_slices_ContainsFunc_Si_Load_i_Load : AFun := ⟨[0, 1, 4], 9, c_slices_ContainsFunc_Si_Load_i_Load, [.tmp 2], 1⟩
def c_i_IsRow_1 : ACode :=
 (.seq (.region [⟨.box (.t 0), none⟩, ⟨.mv (.c (.bool false)), none⟩] [(1, 0), (2, 1)])
 (.seq (.region [⟨.fieldAddr 0 (.t 1), none⟩, ⟨.load false 1 (.l 0), none⟩, ⟨.call (.c (.fn f_i_isPlace [] [])) [(.l 1)], none⟩, ⟨.un .not (.l 2), none⟩, ⟨.mv (.l 3), none⟩, ⟨.fieldAddr 1 (.t 1), some ((.l 4), false)⟩, ⟨.load false 1 (.l 5), some ((.l 4), false)⟩, ⟨.call (.c (.fn f_i_isWeight [] [])) [(.l 6)], some ((.l 4), false)⟩, ⟨.un .not (.l 7), some ((.l 4), false)⟩, ⟨.pick (.l 4) (.c (.bool true)) (.l 8), none⟩, ⟨.mv (.l 9), none⟩] [(2, 10)])
 .ret))
def a_i_IsRow_1 : AFun := ⟨[0, 1, 2], 13, c_i_IsRow_1, [.tmp 2], 1⟩
def c_i_isWeight : ACode :=
 (.seq (.region [⟨.mv (.c (.bool false)), none⟩] [(1, 0)])
 (.seq (.region [⟨.mv (.t 0), none⟩, ⟨.call (.c (.fn f_i_within [] [])) [(.l 0), (.c (.int .i64 (1))), (.c (.int .i64 (99)))], none⟩, ⟨.mv (.l 1), none⟩] [(1, 2)])
 .ret))
def a_i_isWeight : AFun := ⟨[0, 2], 5, c_i_isWeight, [.tmp 1], 1⟩
def c_s_l2In : ACode :=
 (.seq (.region [⟨.mv (.c (.bool false)), none⟩] [(1, 0)])
 (.seq (.region [⟨.mv (.t 0), none⟩, ⟨.call (.c (.fn f_s_l1In [] [])) [(.l 0), (.c (.int .i64 (0))), (.c (.int .i64 (60)))], none⟩, ⟨.mv (.l 1), none⟩] [(1, 2)])
 .ret))
def a_s_l2In : AFun := ⟨[0, 2], 5, c_s_l2In, [.tmp 1], 1⟩
def w_slices_IndexFunc_Si_Load_i_Load_1 : ACode :=
 (.seq (.region [⟨.bin 0 .lss (.t 5) (.t 4), none⟩] [(6, 0)])
 (.seq (.cond (.t 6) .skip (.exit 0))
 (.seq (.block 1 (.seq (.region [⟨.mv (.t 5), none⟩, ⟨.mv (.l 0), none⟩] [(3, 1)])
 (.seq (.region [⟨.mv (.t 1), none⟩, ⟨.mv (.t 0), none⟩, ⟨.mv (.t 3), none⟩, ⟨.indexAddrS 2 (.l 1) (.l 2), none⟩, ⟨.load true 2 (.l 3), none⟩, ⟨.call (.l 0) [(.l 4)], none⟩] [(7, 5)])
 (.cond (.t 7) (.seq (.region [⟨.mv (.t 3), none⟩, ⟨.mv (.l 0), none⟩] [(2, 1)])
 .ret) .skip))))
 (.region [⟨.bin 0 .add (.t 5) (.c (.int .i64 (1))), none⟩, ⟨.mv (.l 0), none⟩] [(5, 1)]))))
def c_slices_IndexFunc_Si_Load_i_Load : ACode :=
 (.seq (.region [⟨.mv (.c (.int .i64 (0))), none⟩] [(2, 0)])
 (.seq (.seq (.region [⟨.mv (.t 0), none⟩, ⟨.len (.l 0), none⟩, ⟨.mv (.c (.int .i64 (0))), none⟩] [(4, 1), (5, 2)])
 (.block 0 (.loop w_slices_IndexFunc_Si_Load_i_Load_1)))
 (.seq (.region [⟨.mv (.c (.int .i64 (-1))), none⟩] [(2, 0)])
 .ret)))
def a_slices_IndexFunc_Si_Load_i_Load : AFun := ⟨[0, 1, 4, 5, 7, 8, 9, 16], 19, c_slices_IndexFunc_Si_Load_i_Load, [.tmp 2], 1⟩
def tab : List (FuncId × AFun) :=
 [(f_gosem_cut_init, a_gosem_cut_init), (f_l_FnExactFirstTip, a_l_FnExactFirstTip), (f_l_FnExactHardestItem, a_l_FnExactHardestItem), (f_l_FnExactUnloadOrder, a_l_FnExactUnloadOrder), (f_l_FnExactSafeOrder, a_l_FnExactSafeOrder), (f_l_FnExactSafeStep, a_l_FnExactSafeStep), (f_l_FnRafts, a_l_FnRafts), (f_l_FnSafeOrders, a_l_FnSafeOrders), (f_l_szLoadS, a_l_szLoadS), (f_s_FirstTip, a_s_FirstTip), (f_l_toRaft, a_l_toRaft), (f_l_toLoadS, a_l_toLoadS), (f_l_toIntS, a_l_toIntS), (f_i_FirstTip, a_i_FirstTip), (f_l_eqLoadS, a_l_eqLoadS), (f_l_eqIntS, a_l_eqIntS), (f_s_HardestItem, a_s_HardestItem), (f_i_HardestItem, a_i_HardestItem), (f_s_UnloadOrder, a_s_UnloadOrder), (f_i_UnloadOrder, a_i_UnloadOrder), (f_l_markLoadS, a_l_markLoadS), (f_l_markIntS, a_l_markIntS), (f_l_heldIntS, a_l_heldIntS), (f_s_SafeOrder, a_s_SafeOrder), (f_i_SafeOrder, a_i_SafeOrder), (f_s_SafeStep, a_s_SafeStep), (f_i_SafeStep, a_i_SafeStep), (f_l_rBig, a_l_rBig), (f_s_DrawRaftSide, a_s_DrawRaftSide), (f_i_RaftSide, a_i_RaftSide), (f_s_RaftSide, a_s_RaftSide), (f_i_RaftReserve, a_i_RaftReserve), (f_s_RaftReserve, a_s_RaftReserve), (f_i_SafeSets, a_i_SafeSets), (f_s_SafeSets, a_s_SafeSets), (f_s_DrawIsSafeOrder, a_s_DrawIsSafeOrder), (f_i_IsSafeOrder, a_i_IsSafeOrder), (f_s_IsSafeOrder, a_s_IsSafeOrder), (f_s_DrawIsRaft, a_s_DrawIsRaft), (f_i_IsRaft, a_i_IsRaft), (f_s_IsRaft, a_s_IsRaft), (f_l_rHas, a_l_rHas), (f_s_DrawSafeOrder, a_s_DrawSafeOrder), (f_l_rInts, a_l_rInts), (f_i_CountSafe, a_i_CountSafe), (f_s_CountSafe, a_s_CountSafe), (f_i_LeastOwn, a_i_LeastOwn), (f_s_LeastOwn, a_s_LeastOwn), (f_i_PairSteps, a_i_PairSteps), (f_s_PairSteps, a_s_PairSteps), (f_s_DrawSafeStep, a_s_DrawSafeStep), (f_s_l10Order, a_s_l10Order), (f_s_l10Tip, a_s_l10Tip), (f_l_toLoad, a_l_toLoad), (f_i_areCargo, a_i_areCargo), (f_i_isOrder, a_i_isOrder), (f_i_Raft_firstTip, a_i_Raft_firstTip), (f_l_eqLoad, a_l_eqLoad), (f_s_l10Cargo, a_s_l10Cargo), (f_s_l10Ways, a_s_l10Ways), (f_i_Raft_waysOf, a_i_Raft_waysOf), (f_slices_Clone_Si_Load_i_Load, a_slices_Clone_Si_Load_i_Load), (f_s_l10Back, a_s_l10Back), (f_i_Raft_isSafe, a_i_Raft_isSafe), (f_i_stepsFrom, a_i_stepsFrom), (f_s_l10Code, a_s_l10Code), (f_s_l10Safe, a_s_l10Safe), (f_i_bitsOf, a_i_bitsOf), (f_s_l1Cur_raft, a_s_l1Cur_raft), (f_s_l1Cur_cargo, a_s_l1Cur_cargo), (f_s_l1Cur_setOf, a_s_l1Cur_setOf), (f_s_l10Reserve, a_s_l10Reserve), (f_i_Raft_reserve, a_i_Raft_reserve), (f_s_l1Cur_one, a_s_l1Cur_one), (f_i_isBase, a_i_isBase), (f_i_within, a_i_within), (f_s_l10Raft, a_s_l10Raft), (f_s_DrawSafeSets, a_s_DrawSafeSets), (f_s_l1Most, a_s_l1Most), (f_s_l1Cur_pick, a_s_l1Cur_pick), (f_s_l1Has, a_s_l1Has), (f_i_IsRow, a_i_IsRow), (f_s_l2Row, a_s_l2Row), (f_s_l1Rising, a_s_l1Rising), (f_s_l1Cur_among, a_s_l1Cur_among), (f_i_isPlace, a_i_isPlace), (f_s_l2Base, a_s_l2Base), (f_s_l1In, a_s_l1In), (f_s_l1Cur_next, a_s_l1Cur_next), (f_slices_ContainsFunc_Si_Load_i_Load, a_slices_ContainsFunc_Si_Load_i_Load), (f_i_IsRow_1, a_i_IsRow_1), (f_i_isWeight, a_i_isWeight), (f_s_l2In, a_s_l2In), (f_slices_IndexFunc_Si_Load_i_Load, a_slices_IndexFunc_Si_Load_i_Load)]
def T : Table := fun f => tab.lookup f
theorem t_gosem_cut_init : T f_gosem_cut_init = some a_gosem_cut_init := rfl
theorem t_l_FnExactFirstTip : T f_l_FnExactFirstTip = some a_l_FnExactFirstTip := rfl
theorem t_l_FnExactHardestItem : T f_l_FnExactHardestItem = some a_l_FnExactHardestItem := rfl
theorem t_l_FnExactUnloadOrder : T f_l_FnExactUnloadOrder = some a_l_FnExactUnloadOrder := rfl
theorem t_l_FnExactSafeOrder : T f_l_FnExactSafeOrder = some a_l_FnExactSafeOrder := rfl
theorem t_l_FnExactSafeStep : T f_l_FnExactSafeStep = some a_l_FnExactSafeStep := rfl
theorem t_l_FnRafts : T f_l_FnRafts = some a_l_FnRafts := rfl
theorem t_l_FnSafeOrders : T f_l_FnSafeOrders = some a_l_FnSafeOrders := rfl
theorem t_l_szLoadS : T f_l_szLoadS = some a_l_szLoadS := rfl
theorem t_s_FirstTip : T f_s_FirstTip = some a_s_FirstTip := rfl
theorem t_l_toRaft : T f_l_toRaft = some a_l_toRaft := rfl
theorem t_l_toLoadS : T f_l_toLoadS = some a_l_toLoadS := rfl
theorem t_l_toIntS : T f_l_toIntS = some a_l_toIntS := rfl
theorem t_i_FirstTip : T f_i_FirstTip = some a_i_FirstTip := rfl
theorem t_l_eqLoadS : T f_l_eqLoadS = some a_l_eqLoadS := rfl
theorem t_l_eqIntS : T f_l_eqIntS = some a_l_eqIntS := rfl
theorem t_s_HardestItem : T f_s_HardestItem = some a_s_HardestItem := rfl
theorem t_i_HardestItem : T f_i_HardestItem = some a_i_HardestItem := rfl
theorem t_s_UnloadOrder : T f_s_UnloadOrder = some a_s_UnloadOrder := rfl
theorem t_i_UnloadOrder : T f_i_UnloadOrder = some a_i_UnloadOrder := rfl
theorem t_l_markLoadS : T f_l_markLoadS = some a_l_markLoadS := rfl
theorem t_l_markIntS : T f_l_markIntS = some a_l_markIntS := rfl
theorem t_l_heldIntS : T f_l_heldIntS = some a_l_heldIntS := rfl
theorem t_s_SafeOrder : T f_s_SafeOrder = some a_s_SafeOrder := rfl
theorem t_i_SafeOrder : T f_i_SafeOrder = some a_i_SafeOrder := rfl
theorem t_s_SafeStep : T f_s_SafeStep = some a_s_SafeStep := rfl
theorem t_i_SafeStep : T f_i_SafeStep = some a_i_SafeStep := rfl
theorem t_l_rBig : T f_l_rBig = some a_l_rBig := rfl
theorem t_s_DrawRaftSide : T f_s_DrawRaftSide = some a_s_DrawRaftSide := rfl
theorem t_i_RaftSide : T f_i_RaftSide = some a_i_RaftSide := rfl
theorem t_s_RaftSide : T f_s_RaftSide = some a_s_RaftSide := rfl
theorem t_i_RaftReserve : T f_i_RaftReserve = some a_i_RaftReserve := rfl
theorem t_s_RaftReserve : T f_s_RaftReserve = some a_s_RaftReserve := rfl
theorem t_i_SafeSets : T f_i_SafeSets = some a_i_SafeSets := rfl
theorem t_s_SafeSets : T f_s_SafeSets = some a_s_SafeSets := rfl
theorem t_s_DrawIsSafeOrder : T f_s_DrawIsSafeOrder = some a_s_DrawIsSafeOrder := rfl
theorem t_i_IsSafeOrder : T f_i_IsSafeOrder = some a_i_IsSafeOrder := rfl
theorem t_s_IsSafeOrder : T f_s_IsSafeOrder = some a_s_IsSafeOrder := rfl
theorem t_s_DrawIsRaft : T f_s_DrawIsRaft = some a_s_DrawIsRaft := rfl
theorem t_i_IsRaft : T f_i_IsRaft = some a_i_IsRaft := rfl
theorem t_s_IsRaft : T f_s_IsRaft = some a_s_IsRaft := rfl
theorem t_l_rHas : T f_l_rHas = some a_l_rHas := rfl
theorem t_s_DrawSafeOrder : T f_s_DrawSafeOrder = some a_s_DrawSafeOrder := rfl
theorem t_l_rInts : T f_l_rInts = some a_l_rInts := rfl
theorem t_i_CountSafe : T f_i_CountSafe = some a_i_CountSafe := rfl
theorem t_s_CountSafe : T f_s_CountSafe = some a_s_CountSafe := rfl
theorem t_i_LeastOwn : T f_i_LeastOwn = some a_i_LeastOwn := rfl
theorem t_s_LeastOwn : T f_s_LeastOwn = some a_s_LeastOwn := rfl
theorem t_i_PairSteps : T f_i_PairSteps = some a_i_PairSteps := rfl
theorem t_s_PairSteps : T f_s_PairSteps = some a_s_PairSteps := rfl
theorem t_s_DrawSafeStep : T f_s_DrawSafeStep = some a_s_DrawSafeStep := rfl
theorem t_s_l10Order : T f_s_l10Order = some a_s_l10Order := rfl
theorem t_s_l10Tip : T f_s_l10Tip = some a_s_l10Tip := rfl
theorem t_l_toLoad : T f_l_toLoad = some a_l_toLoad := rfl
theorem t_i_areCargo : T f_i_areCargo = some a_i_areCargo := rfl
theorem t_i_isOrder : T f_i_isOrder = some a_i_isOrder := rfl
theorem t_i_Raft_firstTip : T f_i_Raft_firstTip = some a_i_Raft_firstTip := rfl
theorem t_l_eqLoad : T f_l_eqLoad = some a_l_eqLoad := rfl
theorem t_s_l10Cargo : T f_s_l10Cargo = some a_s_l10Cargo := rfl
theorem t_s_l10Ways : T f_s_l10Ways = some a_s_l10Ways := rfl
theorem t_i_Raft_waysOf : T f_i_Raft_waysOf = some a_i_Raft_waysOf := rfl
theorem t_slices_Clone_Si_Load_i_Load : T f_slices_Clone_Si_Load_i_Load = some a_slices_Clone_Si_Load_i_Load := rfl
theorem t_s_l10Back : T f_s_l10Back = some a_s_l10Back := rfl
theorem t_i_Raft_isSafe : T f_i_Raft_isSafe = some a_i_Raft_isSafe := rfl
theorem t_i_stepsFrom : T f_i_stepsFrom = some a_i_stepsFrom := rfl
theorem t_s_l10Code : T f_s_l10Code = some a_s_l10Code := rfl
theorem t_s_l10Safe : T f_s_l10Safe = some a_s_l10Safe := rfl
theorem t_i_bitsOf : T f_i_bitsOf = some a_i_bitsOf := rfl
theorem t_s_l1Cur_raft : T f_s_l1Cur_raft = some a_s_l1Cur_raft := rfl
theorem t_s_l1Cur_cargo : T f_s_l1Cur_cargo = some a_s_l1Cur_cargo := rfl
theorem t_s_l1Cur_setOf : T f_s_l1Cur_setOf = some a_s_l1Cur_setOf := rfl
theorem t_s_l10Reserve : T f_s_l10Reserve = some a_s_l10Reserve := rfl
theorem t_i_Raft_reserve : T f_i_Raft_reserve = some a_i_Raft_reserve := rfl
theorem t_s_l1Cur_one : T f_s_l1Cur_one = some a_s_l1Cur_one := rfl
theorem t_i_isBase : T f_i_isBase = some a_i_isBase := rfl
theorem t_i_within : T f_i_within = some a_i_within := rfl
theorem t_s_l10Raft : T f_s_l10Raft = some a_s_l10Raft := rfl
theorem t_s_DrawSafeSets : T f_s_DrawSafeSets = some a_s_DrawSafeSets := rfl
theorem t_s_l1Most : T f_s_l1Most = some a_s_l1Most := rfl
theorem t_s_l1Cur_pick : T f_s_l1Cur_pick = some a_s_l1Cur_pick := rfl
theorem t_s_l1Has : T f_s_l1Has = some a_s_l1Has := rfl
theorem t_i_IsRow : T f_i_IsRow = some a_i_IsRow := rfl
theorem t_s_l2Row : T f_s_l2Row = some a_s_l2Row := rfl
theorem t_s_l1Rising : T f_s_l1Rising = some a_s_l1Rising := rfl
theorem t_s_l1Cur_among : T f_s_l1Cur_among = some a_s_l1Cur_among := rfl
theorem t_i_isPlace : T f_i_isPlace = some a_i_isPlace := rfl
theorem t_s_l2Base : T f_s_l2Base = some a_s_l2Base := rfl
theorem t_s_l1In : T f_s_l1In = some a_s_l1In := rfl
theorem t_s_l1Cur_next : T f_s_l1Cur_next = some a_s_l1Cur_next := rfl
theorem t_slices_ContainsFunc_Si_Load_i_Load : T f_slices_ContainsFunc_Si_Load_i_Load = some a_slices_ContainsFunc_Si_Load_i_Load := rfl
theorem t_i_IsRow_1 : T f_i_IsRow_1 = some a_i_IsRow_1 := rfl
theorem t_i_isWeight : T f_i_isWeight = some a_i_isWeight := rfl
theorem t_s_l2In : T f_s_l2In = some a_s_l2In := rfl
theorem t_slices_IndexFunc_Si_Load_i_Load : T f_slices_IndexFunc_Si_Load_i_Load = some a_slices_IndexFunc_Si_Load_i_Load := rfl
end Go.Proofs.Ytlcklonakjhoiaa.Slim

/- The slim functions are the program's. -/
namespace Go.Proofs.Ytlcklonakjhoiaa.Slim
open Go
theorem ok_gosem_cut_init : compileFn Try.prog [] 1 [] Try.f2 = some a_gosem_cut_init := by kernel_rfl
theorem ok_l_FnExactFirstTip : compileFn Try.prog [0, 1, 2, 3, 6, 7, 8, 9, 10, 11, 12, 13, 16, 21, 51, 56, 61] 1 [] Try.f3 = some a_l_FnExactFirstTip := by kernel_rfl
theorem ok_l_FnExactHardestItem : compileFn Try.prog [0, 1, 2, 4, 5, 6, 7, 8, 9, 10, 15, 40, 45] 1 [] Try.f4 = some a_l_FnExactHardestItem := by kernel_rfl
theorem ok_l_FnExactUnloadOrder : compileFn Try.prog [0, 1, 2, 4, 5, 6, 7, 8, 9, 10, 11, 12, 13, 14, 15, 20, 46, 51, 67, 75, 78, 95, 100, 103] 1 [] Try.f5 = some a_l_FnExactUnloadOrder := by kernel_rfl
theorem ok_l_FnExactSafeOrder : compileFn Try.prog [0, 1, 2, 4, 5, 6, 7, 8, 9, 10, 11, 12, 13, 14, 15, 20, 46, 51, 67, 75, 78, 95, 100, 103] 1 [] Try.f6 = some a_l_FnExactSafeOrder := by kernel_rfl
theorem ok_l_FnExactSafeStep : compileFn Try.prog [0, 1, 2, 3, 6, 7, 8, 9, 10, 11, 12, 13, 14, 15, 16, 17, 18, 21, 26, 57, 62, 67, 86, 94, 97, 116, 121, 124] 1 [] Try.f7 = some a_l_FnExactSafeStep := by kernel_rfl
theorem ok_l_FnRafts : compileFn Try.prog [0, 2, 3, 4, 5, 6, 7, 8, 9, 10, 11, 12, 13, 14, 15, 16, 17, 18, 19, 20, 21, 22, 23, 24, 25, 26, 27, 28, 29, 30, 31, 32, 33, 34, 35, 36, 37, 38, 39, 40, 41, 42, 43, 45, 73, 107, 134, 162, 193, 214, 215, 220, 227, 234, 247, 249, 254, 256, 260, 267, 274, 287, 293] 1 [(26, [0, 2, 1, 3, 4, 5, 6, 7, 8, 9, 10, 11, 12, 13, 14, 15, 16, 17, 18])] Try.f8 = some a_l_FnRafts := by kernel_rfl
theorem ok_l_FnSafeOrders : compileFn Try.prog [0, 2, 3, 4, 5, 6, 7, 8, 9, 10, 11, 12, 13, 14, 15, 16, 17, 18, 19, 20, 21, 22, 23, 24, 25, 26, 27, 28, 29, 30, 31, 32, 33, 34, 35, 36, 37, 38, 39, 40, 41, 42, 43, 44, 45, 46, 47, 48, 50, 76, 105, 131, 151, 178, 198, 227, 231, 237, 255, 257, 270, 312, 339] 1 [(55, [0, 1, 2, 3, 4, 5, 6, 7, 8, 9, 10, 11, 12, 13, 14, 15, 16, 17])] Try.f9 = some a_l_FnSafeOrders := by kernel_rfl
theorem ok_l_szLoadS : compileFn Try.prog [0, 1, 4, 10] 1 [] Try.f10 = some a_l_szLoadS := by kernel_rfl
theorem ok_s_FirstTip : compileFn Try.prog [0, 1, 2, 3, 6, 7, 19] 1 [] Try.f11 = some a_s_FirstTip := by kernel_rfl
theorem ok_l_toRaft : compileFn Try.prog [0, 1, 2, 3] 1 [] Try.f12 = some a_l_toRaft := by kernel_rfl
theorem ok_l_toLoadS : compileFn Try.prog [0, 2, 3, 4, 11] 2 [] Try.f13 = some a_l_toLoadS := by kernel_rfl
theorem ok_l_toIntS : compileFn Try.prog [0, 2, 3, 4, 11] 2 [] Try.f14 = some a_l_toIntS := by kernel_rfl
theorem ok_i_FirstTip : compileFn Try.prog [0, 1, 2, 3, 6, 7, 8, 18] 1 [] Try.f15 = some a_i_FirstTip := by kernel_rfl
theorem ok_l_eqLoadS : compileFn Try.prog [0, 1, 4, 5, 10, 14, 26] 1 [(6, [0, 1, 2, 3, 4, 5, 6, 7, 8, 9])] Try.f16 = some a_l_eqLoadS := by kernel_rfl
theorem ok_l_eqIntS : compileFn Try.prog [0, 1, 4, 5, 10, 14, 25] 1 [(6, [0, 1, 2, 3, 4, 5, 6, 7, 8])] Try.f17 = some a_l_eqIntS := by kernel_rfl
theorem ok_s_HardestItem : compileFn Try.prog [0, 1, 2, 4, 5, 6, 7, 8, 9, 10, 19, 23, 43] 1 [(7, [1, 2, 3, 5, 6, 7, 8, 0, 4, 9, 10])] Try.f18 = some a_s_HardestItem := by kernel_rfl
theorem ok_i_HardestItem : compileFn Try.prog [0, 1, 2, 4, 5, 6, 7, 8, 9, 18, 20, 21, 22, 36] 1 [(7, [0, 1, 3, 4, 5, 2, 6, 7, 8, 9, 10])] Try.f19 = some a_i_HardestItem := by kernel_rfl
theorem ok_s_UnloadOrder : compileFn Try.prog [0, 1, 2, 4, 5, 6, 7, 8, 9, 14, 27, 30, 45] 2 [(4, [0, 1, 3, 4, 5, 6, 2, 7, 8])] Try.f20 = some a_s_UnloadOrder := by kernel_rfl
theorem ok_i_UnloadOrder : compileFn Try.prog [0, 1, 2, 4, 5, 6, 7, 8, 9, 10, 11, 12, 16, 25, 26, 27, 33, 40, 41, 42, 57, 67, 71, 73, 74, 75, 90] 2 [] Try.f21 = some a_i_UnloadOrder := by kernel_rfl
theorem ok_l_markLoadS : compileFn Try.prog [0, 1, 4, 5, 9] 1 [] Try.f22 = some a_l_markLoadS := by kernel_rfl
theorem ok_l_markIntS : compileFn Try.prog [0, 1, 4, 5, 9] 1 [] Try.f23 = some a_l_markIntS := by kernel_rfl
theorem ok_l_heldIntS : compileFn Try.prog [0, 1, 4, 5, 9, 17] 1 [] Try.f24 = some a_l_heldIntS := by kernel_rfl
theorem ok_s_SafeOrder : compileFn Try.prog [0, 1, 2, 4, 5, 6, 7, 8, 9, 14, 22, 28, 43] 2 [] Try.f25 = some a_s_SafeOrder := by kernel_rfl
theorem ok_i_SafeOrder : compileFn Try.prog [0, 1, 2, 4, 5, 6, 7, 8, 9, 13, 21, 26] 2 [] Try.f26 = some a_i_SafeOrder := by kernel_rfl
theorem ok_s_SafeStep : compileFn Try.prog [0, 1, 2, 3, 6, 7, 8, 9, 10, 11, 12, 29, 37, 54] 2 [] Try.f27 = some a_s_SafeStep := by kernel_rfl
theorem ok_i_SafeStep : compileFn Try.prog [0, 1, 2, 3, 6, 7, 8, 9, 30] 2 [] Try.f28 = some a_i_SafeStep := by kernel_rfl
theorem ok_l_rBig : compileFn Try.prog [0, 2] 1 [] Try.f29 = some a_l_rBig := by kernel_rfl
theorem ok_s_DrawRaftSide : compileFn Try.prog [0, 2, 3, 4, 5, 6, 7] 2 [(3, [0, 1, 2, 3, 4, 5, 6, 7])] Try.f30 = some a_s_DrawRaftSide := by kernel_rfl
theorem ok_i_RaftSide : compileFn Try.prog [0, 1, 2, 3, 6, 7, 8, 9, 10, 19, 23] 1 [] Try.f31 = some a_i_RaftSide := by kernel_rfl
theorem ok_s_RaftSide : compileFn Try.prog [0, 1, 2, 3, 6, 7, 8, 9, 10, 11, 20, 29, 31] 1 [] Try.f32 = some a_s_RaftSide := by kernel_rfl
theorem ok_i_RaftReserve : compileFn Try.prog [0, 1, 2, 3, 6, 7, 8, 9, 10, 11, 12, 26] 1 [] Try.f33 = some a_i_RaftReserve := by kernel_rfl
theorem ok_s_RaftReserve : compileFn Try.prog [0, 1, 2, 3, 6, 7, 8, 9, 10, 11, 12, 21] 1 [] Try.f34 = some a_s_RaftReserve := by kernel_rfl
theorem ok_i_SafeSets : compileFn Try.prog [0, 1, 2, 4, 5, 6, 7, 11, 14, 15, 16, 21] 1 [] Try.f35 = some a_i_SafeSets := by kernel_rfl
theorem ok_s_SafeSets : compileFn Try.prog [0, 1, 2, 4, 5, 6, 7, 11, 16, 22] 1 [] Try.f36 = some a_s_SafeSets := by kernel_rfl
theorem ok_s_DrawIsSafeOrder : compileFn Try.prog [0, 2, 3, 4, 5, 6, 7, 8, 9, 27] 2 [(6, [0, 1, 2, 3, 4, 5, 6, 7])] Try.f37 = some a_s_DrawIsSafeOrder := by kernel_rfl
theorem ok_i_IsSafeOrder : compileFn Try.prog [0, 1, 2, 3, 6, 7, 17] 1 [] Try.f38 = some a_i_IsSafeOrder := by kernel_rfl
theorem ok_s_IsSafeOrder : compileFn Try.prog [0, 1, 2, 3, 6, 7, 12] 1 [] Try.f39 = some a_s_IsSafeOrder := by kernel_rfl
theorem ok_s_DrawIsRaft : compileFn Try.prog [0, 2, 3] 1 [] Try.f40 = some a_s_DrawIsRaft := by kernel_rfl
theorem ok_i_IsRaft : compileFn Try.prog [0, 1, 2] 1 [] Try.f41 = some a_i_IsRaft := by kernel_rfl
theorem ok_s_IsRaft : compileFn Try.prog [0, 1, 2] 1 [] Try.f42 = some a_s_IsRaft := by kernel_rfl
theorem ok_l_rHas : compileFn Try.prog [0, 1, 4, 5, 9, 17] 1 [] Try.f43 = some a_l_rHas := by kernel_rfl
theorem ok_s_DrawSafeOrder : compileFn Try.prog [0, 2, 3] 2 [] Try.f44 = some a_s_DrawSafeOrder := by kernel_rfl
theorem ok_l_rInts : compileFn Try.prog [0, 1, 4, 5, 10, 14, 25] 1 [(6, [0, 1, 2, 3, 4, 5, 6, 7, 8])] Try.f45 = some a_l_rInts := by kernel_rfl
theorem ok_i_CountSafe : compileFn Try.prog [0, 1, 2, 4, 5, 9] 1 [] Try.f46 = some a_i_CountSafe := by kernel_rfl
theorem ok_s_CountSafe : compileFn Try.prog [0, 1, 2, 4, 5, 9] 1 [] Try.f47 = some a_s_CountSafe := by kernel_rfl
theorem ok_i_LeastOwn : compileFn Try.prog [0, 1, 2, 4, 5, 6, 10, 12, 25] 1 [] Try.f48 = some a_i_LeastOwn := by kernel_rfl
theorem ok_s_LeastOwn : compileFn Try.prog [0, 1, 2, 4, 5, 6, 10, 12, 25] 1 [] Try.f49 = some a_s_LeastOwn := by kernel_rfl
theorem ok_i_PairSteps : compileFn Try.prog [0, 1, 2, 4, 5, 6, 7, 8, 9, 10, 11, 15, 25, 35, 37, 38, 39, 42, 43, 44, 57, 85, 97] 1 [(17, [0, 1, 2, 3, 4, 5, 6, 7, 8, 9, 10])] Try.f50 = some a_i_PairSteps := by kernel_rfl
theorem ok_s_PairSteps : compileFn Try.prog [0, 1, 2, 4, 5, 6, 7, 8, 9, 10, 11, 12, 16, 25, 39, 44, 65, 84] 1 [(15, [0, 1, 2, 3, 4, 5]), (17, [0, 1, 2, 3, 4, 5, 6, 7, 8, 9, 10, 11, 12, 13, 14, 15, 16, 17, 18])] Try.f51 = some a_s_PairSteps := by kernel_rfl
theorem ok_s_DrawSafeStep : compileFn Try.prog [0, 2, 3, 4, 5, 6, 7, 8, 9, 10, 11, 34, 41] 2 [(11, [0, 1, 2, 3, 4, 5, 6, 7])] Try.f52 = some a_s_DrawSafeStep := by kernel_rfl
theorem ok_s_l10Order : compileFn Try.prog [0, 1, 2, 3, 6, 7, 18, 22, 28] 1 [] Try.f53 = some a_s_l10Order := by kernel_rfl
theorem ok_s_l10Tip : compileFn Try.prog [0, 1, 2, 3, 6, 7, 8, 12, 26] 1 [] Try.f54 = some a_s_l10Tip := by kernel_rfl
theorem ok_l_toLoad : compileFn Try.prog [0, 1, 2, 3] 1 [] Try.f55 = some a_l_toLoad := by kernel_rfl
theorem ok_i_areCargo : compileFn Try.prog [0, 1, 2, 4] 1 [] Try.f56 = some a_i_areCargo := by kernel_rfl
theorem ok_i_isOrder : compileFn Try.prog [0, 1, 4, 5, 7, 8, 9, 10, 11, 26] 1 [] Try.f57 = some a_i_isOrder := by kernel_rfl
theorem ok_i_Raft_firstTip : compileFn Try.prog [0, 1, 2, 3, 6, 7, 8, 9, 10, 11, 12, 13, 25] 1 [] Try.f58 = some a_i_Raft_firstTip := by kernel_rfl
theorem ok_l_eqLoad : compileFn Try.prog [0, 1, 2, 3, 4, 9, 14] 1 [] Try.f59 = some a_l_eqLoad := by kernel_rfl
theorem ok_s_l10Cargo : compileFn Try.prog [0, 1, 2, 4] 1 [] Try.f60 = some a_s_l10Cargo := by kernel_rfl
theorem ok_s_l10Ways : compileFn Try.prog [0, 1, 2, 4, 5, 6, 7, 8, 18, 25, 28, 35, 42] 2 [(13, [0, 1, 2, 3, 4, 5, 6, 7, 8, 9, 10, 11, 12, 13, 14, 15])] Try.f61 = some a_s_l10Ways := by kernel_rfl
theorem ok_i_Raft_waysOf : compileFn Try.prog [0, 1, 2, 4, 5, 6, 7, 8, 18, 22, 23, 24, 30, 45, 51] 2 [(10, [0, 1, 2, 3, 4, 5, 6, 7, 8, 9, 10, 11, 12, 13])] Try.f62 = some a_i_Raft_waysOf := by kernel_rfl
theorem ok_slices_Clone_Si_Load_i_Load : compileFn Try.prog [0, 2, 4] 2 [] Try.f64 = some a_slices_Clone_Si_Load_i_Load := by kernel_rfl
theorem ok_s_l10Back : compileFn Try.prog [0, 1, 2, 4, 5, 6, 7, 8, 16, 24] 2 [] Try.f65 = some a_s_l10Back := by kernel_rfl
theorem ok_i_Raft_isSafe : compileFn Try.prog [0, 1, 2, 3, 6, 7, 8] 1 [] Try.f66 = some a_i_Raft_isSafe := by kernel_rfl
theorem ok_i_stepsFrom : compileFn Try.prog [0, 1, 2, 6, 7, 8, 11, 12, 13, 29] 2 [] Try.f67 = some a_i_stepsFrom := by kernel_rfl
theorem ok_s_l10Code : compileFn Try.prog [0, 1, 2, 3, 6, 7, 8, 9, 21, 25] 1 [] Try.f68 = some a_s_l10Code := by kernel_rfl
theorem ok_s_l10Safe : compileFn Try.prog [0, 1, 2, 3, 6, 7, 8] 1 [] Try.f69 = some a_s_l10Safe := by kernel_rfl
theorem ok_i_bitsOf : compileFn Try.prog [0, 1, 4, 5, 6, 7, 8, 9, 10, 11, 12, 34] 1 [] Try.f70 = some a_i_bitsOf := by kernel_rfl
theorem ok_s_l1Cur_raft : compileFn Try.prog [0, 2, 3, 4, 20, 21, 30, 36] 1 [] Try.f71 = some a_s_l1Cur_raft := by kernel_rfl
theorem ok_s_l1Cur_cargo : compileFn Try.prog [0, 2, 3, 4, 5, 11, 29, 31, 32, 43, 54, 58] 2 [] Try.f72 = some a_s_l1Cur_cargo := by kernel_rfl
theorem ok_s_l1Cur_setOf : compileFn Try.prog [0, 1, 4, 5, 6, 15, 19, 25] 2 [] Try.f73 = some a_s_l1Cur_setOf := by kernel_rfl
theorem ok_s_l10Reserve : compileFn Try.prog [0, 1, 2, 3, 6, 7, 8, 9, 10, 30, 37] 1 [(1, [0, 1, 2, 3, 4, 5, 6, 7, 8, 9, 10, 11, 12, 13, 14, 15, 16, 17]), (6, [0, 1, 2, 3, 4, 5, 6, 7, 8, 9, 10, 11, 12, 13, 14, 15, 16, 17]), (7, [0, 1, 2, 3, 4, 5, 6, 7, 8, 9, 10, 11, 12, 13, 14, 15, 16, 17])] Try.f74 = some a_s_l10Reserve := by kernel_rfl
theorem ok_i_Raft_reserve : compileFn Try.prog [0, 1, 2, 3, 6, 7, 8, 9, 10, 11, 21, 22, 23, 24, 32] 1 [] Try.f75 = some a_i_Raft_reserve := by kernel_rfl
theorem ok_s_l1Cur_one : compileFn Try.prog [0, 1, 4] 1 [] Try.f76 = some a_s_l1Cur_one := by kernel_rfl
theorem ok_i_isBase : compileFn Try.prog [0, 1, 4] 1 [] Try.f78 = some a_i_isBase := by kernel_rfl
theorem ok_i_within : compileFn Try.prog [0, 1, 2, 6] 1 [] Try.f79 = some a_i_within := by kernel_rfl
theorem ok_s_l10Raft : compileFn Try.prog [0, 1, 2] 1 [] Try.f80 = some a_s_l10Raft := by kernel_rfl
theorem ok_s_DrawSafeSets : compileFn Try.prog [0, 2, 3, 4] 2 [] Try.f81 = some a_s_DrawSafeSets := by kernel_rfl
theorem ok_s_l1Most : compileFn Try.prog [0, 1, 4, 7] 1 [] Try.f82 = some a_s_l1Most := by kernel_rfl
theorem ok_s_l1Cur_pick : compileFn Try.prog [0, 1, 4, 5, 7, 11] 1 [] Try.f83 = some a_s_l1Cur_pick := by kernel_rfl
theorem ok_s_l1Has : compileFn Try.prog [0, 1, 4, 5, 9, 17] 1 [] Try.f85 = some a_s_l1Has := by kernel_rfl
theorem ok_i_IsRow : compileFn Try.prog [0, 2, 5] 1 [] Try.f86 = some a_i_IsRow := by kernel_rfl
theorem ok_s_l2Row : compileFn Try.prog [0, 2, 3, 11, 29] 1 [] Try.f87 = some a_s_l2Row := by kernel_rfl
theorem ok_s_l1Rising : compileFn Try.prog [0, 1, 2, 6, 7, 11, 37] 1 [(4, [0, 1, 2, 3, 4, 5, 6, 7, 8, 9, 10, 11, 12, 13, 14, 15, 16, 17, 18, 19, 20, 21, 22, 23])] Try.f88 = some a_s_l1Rising := by kernel_rfl
theorem ok_s_l1Cur_among : compileFn Try.prog [0, 1, 4] 1 [] Try.f89 = some a_s_l1Cur_among := by kernel_rfl
theorem ok_i_isPlace : compileFn Try.prog [0, 2] 1 [] Try.f90 = some a_i_isPlace := by kernel_rfl
theorem ok_s_l2Base : compileFn Try.prog [0, 1, 4] 1 [] Try.f91 = some a_s_l2Base := by kernel_rfl
theorem ok_s_l1In : compileFn Try.prog [0, 1, 2, 6] 1 [] Try.f92 = some a_s_l1In := by kernel_rfl
theorem ok_s_l1Cur_next : compileFn Try.prog [0, 2, 3, 13, 53] 1 [(2, [0, 1, 2, 3, 4, 5, 6, 7, 8, 9]), (3, [0, 1, 2, 3, 4, 5, 6, 7, 8, 9, 10, 11]), (6, [0, 1, 2, 3, 4, 5, 6, 7, 8, 9])] Try.f93 = some a_s_l1Cur_next := by kernel_rfl
theorem ok_slices_ContainsFunc_Si_Load_i_Load : compileFn Try.prog [0, 1, 4] 1 [] Try.f94 = some a_slices_ContainsFunc_Si_Load_i_Load := by kernel_rfl
theorem ok_i_IsRow_1 : compileFn Try.prog [0, 1, 2] 1 [] Try.f95 = some a_i_IsRow_1 := by kernel_rfl
theorem ok_i_isWeight : compileFn Try.prog [0, 2] 1 [] Try.f96 = some a_i_isWeight := by kernel_rfl
theorem ok_s_l2In : compileFn Try.prog [0, 2] 1 [] Try.f97 = some a_s_l2In := by kernel_rfl
theorem ok_slices_IndexFunc_Si_Load_i_Load : compileFn Try.prog [0, 1, 4, 5, 7, 8, 9, 16] 1 [] Try.f98 = some a_slices_IndexFunc_Si_Load_i_Load := by kernel_rfl
theorem tabOk : TableOk Try.prog T := tableOk_of (by
  unfold tab
  exact allCons ⟨_, _, _, _, Try.func2, ok_gosem_cut_init⟩ <|
    allCons ⟨_, _, _, _, Try.func3, ok_l_FnExactFirstTip⟩ <|
    allCons ⟨_, _, _, _, Try.func4, ok_l_FnExactHardestItem⟩ <|
    allCons ⟨_, _, _, _, Try.func5, ok_l_FnExactUnloadOrder⟩ <|
    allCons ⟨_, _, _, _, Try.func6, ok_l_FnExactSafeOrder⟩ <|
    allCons ⟨_, _, _, _, Try.func7, ok_l_FnExactSafeStep⟩ <|
    allCons ⟨_, _, _, _, Try.func8, ok_l_FnRafts⟩ <|
    allCons ⟨_, _, _, _, Try.func9, ok_l_FnSafeOrders⟩ <|
    allCons ⟨_, _, _, _, Try.func10, ok_l_szLoadS⟩ <|
    allCons ⟨_, _, _, _, Try.func11, ok_s_FirstTip⟩ <|
    allCons ⟨_, _, _, _, Try.func12, ok_l_toRaft⟩ <|
    allCons ⟨_, _, _, _, Try.func13, ok_l_toLoadS⟩ <|
    allCons ⟨_, _, _, _, Try.func14, ok_l_toIntS⟩ <|
    allCons ⟨_, _, _, _, Try.func15, ok_i_FirstTip⟩ <|
    allCons ⟨_, _, _, _, Try.func16, ok_l_eqLoadS⟩ <|
    allCons ⟨_, _, _, _, Try.func17, ok_l_eqIntS⟩ <|
    allCons ⟨_, _, _, _, Try.func18, ok_s_HardestItem⟩ <|
    allCons ⟨_, _, _, _, Try.func19, ok_i_HardestItem⟩ <|
    allCons ⟨_, _, _, _, Try.func20, ok_s_UnloadOrder⟩ <|
    allCons ⟨_, _, _, _, Try.func21, ok_i_UnloadOrder⟩ <|
    allCons ⟨_, _, _, _, Try.func22, ok_l_markLoadS⟩ <|
    allCons ⟨_, _, _, _, Try.func23, ok_l_markIntS⟩ <|
    allCons ⟨_, _, _, _, Try.func24, ok_l_heldIntS⟩ <|
    allCons ⟨_, _, _, _, Try.func25, ok_s_SafeOrder⟩ <|
    allCons ⟨_, _, _, _, Try.func26, ok_i_SafeOrder⟩ <|
    allCons ⟨_, _, _, _, Try.func27, ok_s_SafeStep⟩ <|
    allCons ⟨_, _, _, _, Try.func28, ok_i_SafeStep⟩ <|
    allCons ⟨_, _, _, _, Try.func29, ok_l_rBig⟩ <|
    allCons ⟨_, _, _, _, Try.func30, ok_s_DrawRaftSide⟩ <|
    allCons ⟨_, _, _, _, Try.func31, ok_i_RaftSide⟩ <|
    allCons ⟨_, _, _, _, Try.func32, ok_s_RaftSide⟩ <|
    allCons ⟨_, _, _, _, Try.func33, ok_i_RaftReserve⟩ <|
    allCons ⟨_, _, _, _, Try.func34, ok_s_RaftReserve⟩ <|
    allCons ⟨_, _, _, _, Try.func35, ok_i_SafeSets⟩ <|
    allCons ⟨_, _, _, _, Try.func36, ok_s_SafeSets⟩ <|
    allCons ⟨_, _, _, _, Try.func37, ok_s_DrawIsSafeOrder⟩ <|
    allCons ⟨_, _, _, _, Try.func38, ok_i_IsSafeOrder⟩ <|
    allCons ⟨_, _, _, _, Try.func39, ok_s_IsSafeOrder⟩ <|
    allCons ⟨_, _, _, _, Try.func40, ok_s_DrawIsRaft⟩ <|
    allCons ⟨_, _, _, _, Try.func41, ok_i_IsRaft⟩ <|
    allCons ⟨_, _, _, _, Try.func42, ok_s_IsRaft⟩ <|
    allCons ⟨_, _, _, _, Try.func43, ok_l_rHas⟩ <|
    allCons ⟨_, _, _, _, Try.func44, ok_s_DrawSafeOrder⟩ <|
    allCons ⟨_, _, _, _, Try.func45, ok_l_rInts⟩ <|
    allCons ⟨_, _, _, _, Try.func46, ok_i_CountSafe⟩ <|
    allCons ⟨_, _, _, _, Try.func47, ok_s_CountSafe⟩ <|
    allCons ⟨_, _, _, _, Try.func48, ok_i_LeastOwn⟩ <|
    allCons ⟨_, _, _, _, Try.func49, ok_s_LeastOwn⟩ <|
    allCons ⟨_, _, _, _, Try.func50, ok_i_PairSteps⟩ <|
    allCons ⟨_, _, _, _, Try.func51, ok_s_PairSteps⟩ <|
    allCons ⟨_, _, _, _, Try.func52, ok_s_DrawSafeStep⟩ <|
    allCons ⟨_, _, _, _, Try.func53, ok_s_l10Order⟩ <|
    allCons ⟨_, _, _, _, Try.func54, ok_s_l10Tip⟩ <|
    allCons ⟨_, _, _, _, Try.func55, ok_l_toLoad⟩ <|
    allCons ⟨_, _, _, _, Try.func56, ok_i_areCargo⟩ <|
    allCons ⟨_, _, _, _, Try.func57, ok_i_isOrder⟩ <|
    allCons ⟨_, _, _, _, Try.func58, ok_i_Raft_firstTip⟩ <|
    allCons ⟨_, _, _, _, Try.func59, ok_l_eqLoad⟩ <|
    allCons ⟨_, _, _, _, Try.func60, ok_s_l10Cargo⟩ <|
    allCons ⟨_, _, _, _, Try.func61, ok_s_l10Ways⟩ <|
    allCons ⟨_, _, _, _, Try.func62, ok_i_Raft_waysOf⟩ <|
    allCons ⟨_, _, _, _, Try.func64, ok_slices_Clone_Si_Load_i_Load⟩ <|
    allCons ⟨_, _, _, _, Try.func65, ok_s_l10Back⟩ <|
    allCons ⟨_, _, _, _, Try.func66, ok_i_Raft_isSafe⟩ <|
    allCons ⟨_, _, _, _, Try.func67, ok_i_stepsFrom⟩ <|
    allCons ⟨_, _, _, _, Try.func68, ok_s_l10Code⟩ <|
    allCons ⟨_, _, _, _, Try.func69, ok_s_l10Safe⟩ <|
    allCons ⟨_, _, _, _, Try.func70, ok_i_bitsOf⟩ <|
    allCons ⟨_, _, _, _, Try.func71, ok_s_l1Cur_raft⟩ <|
    allCons ⟨_, _, _, _, Try.func72, ok_s_l1Cur_cargo⟩ <|
    allCons ⟨_, _, _, _, Try.func73, ok_s_l1Cur_setOf⟩ <|
    allCons ⟨_, _, _, _, Try.func74, ok_s_l10Reserve⟩ <|
    allCons ⟨_, _, _, _, Try.func75, ok_i_Raft_reserve⟩ <|
    allCons ⟨_, _, _, _, Try.func76, ok_s_l1Cur_one⟩ <|
    allCons ⟨_, _, _, _, Try.func78, ok_i_isBase⟩ <|
    allCons ⟨_, _, _, _, Try.func79, ok_i_within⟩ <|
    allCons ⟨_, _, _, _, Try.func80, ok_s_l10Raft⟩ <|
    allCons ⟨_, _, _, _, Try.func81, ok_s_DrawSafeSets⟩ <|
    allCons ⟨_, _, _, _, Try.func82, ok_s_l1Most⟩ <|
    allCons ⟨_, _, _, _, Try.func83, ok_s_l1Cur_pick⟩ <|
    allCons ⟨_, _, _, _, Try.func85, ok_s_l1Has⟩ <|
    allCons ⟨_, _, _, _, Try.func86, ok_i_IsRow⟩ <|
    allCons ⟨_, _, _, _, Try.func87, ok_s_l2Row⟩ <|
    allCons ⟨_, _, _, _, Try.func88, ok_s_l1Rising⟩ <|
    allCons ⟨_, _, _, _, Try.func89, ok_s_l1Cur_among⟩ <|
    allCons ⟨_, _, _, _, Try.func90, ok_i_isPlace⟩ <|
    allCons ⟨_, _, _, _, Try.func91, ok_s_l2Base⟩ <|
    allCons ⟨_, _, _, _, Try.func92, ok_s_l1In⟩ <|
    allCons ⟨_, _, _, _, Try.func93, ok_s_l1Cur_next⟩ <|
    allCons ⟨_, _, _, _, Try.func94, ok_slices_ContainsFunc_Si_Load_i_Load⟩ <|
    allCons ⟨_, _, _, _, Try.func95, ok_i_IsRow_1⟩ <|
    allCons ⟨_, _, _, _, Try.func96, ok_i_isWeight⟩ <|
    allCons ⟨_, _, _, _, Try.func97, ok_s_l2In⟩ <|
    allCons ⟨_, _, _, _, Try.func98, ok_slices_IndexFunc_Si_Load_i_Load⟩ <|
    allNil)
end Go.Proofs.Ytlcklonakjhoiaa.Slim

/- What slices.Delete is told to do. -/
namespace Go.Proofs.Ytlcklonakjhoiaa.Slim
open Go
set_option linter.unusedVariables false

def prDel (sz : Nat) (args : List AV) (m : Mem) : Option (AV × Mem) := match args with
  | [.slice (some (b, 0)) sz' n cap, .int .i64 i, .int .i64 j] => (match m.H[b]? with
    | some (.cells cs true) => if sz' = sz ∧ cs.length = n * sz ∧ 0 ≤ i ∧ i < (n : Int) ∧ j = i + 1 then
        some (.slice (some (m.H.length + 1, 0)) sz (n - 1) none, ⟨m.H.set b .dead ++ [.dead, .cells (cs.take (i.toNat * sz) ++ cs.drop ((i.toNat + 1) * sz)) true], m.esc⟩) else none
    | _ => none)
  | _ => none

theorem prDel_told {sz : Nat} {args : List AV} {m m' : Mem} {v : AV} (h : prDel sz args m = some (v, m')) : ∃ (b n i : Nat) (cap : Option Nat) (cs : List AV), args = [.slice (some (b, 0)) sz n cap, .int .i64 i, .int .i64 (i + 1 : Nat)] ∧
    m.H[b]? = some (.cells cs true) ∧ cs.length = n * sz ∧ i < n ∧ v = .slice (some (m.H.length + 1, 0)) sz (n - 1) none ∧ m' = ⟨m.H.set b .dead ++ [.dead, .cells (cs.take (i * sz) ++ cs.drop ((i + 1) * sz)) true], m.esc⟩ := by
  unfold prDel at h
  split at h
  · rename_i b sz' n cap i j
    split at h
    · rename_i cs hb
      split at h
      · rename_i hc
        obtain ⟨rfl, h1, h2, h3, rfl⟩ := hc
        cases h
        obtain ⟨k, rfl⟩ : ∃ k : Nat, i = k := ⟨i.toNat, by omega⟩
        exact ⟨b, n, k, cap, cs, by simp, hb, h1, by omega, rfl, by simp⟩
      · cases h
    · cases h
  · cases h

theorem prDel_at {sz : Nat} {L : List Blk} {e : Option Nat} {b n i : Nat} {cap : Option Nat} {cs : List AV} (h1 : L[b]? = some (.cells cs true)) (h2 : cs.length = n * sz) (h3 : i < n) :
    prDel sz [.slice (some (b, 0)) sz n cap, .int .i64 i, .int .i64 (i + 1 : Nat)] ⟨L, e⟩ = some (.slice (some (L.length + 1, 0)) sz (n - 1) none, ⟨L.set b .dead ++ [.dead, .cells (cs.take (i * sz) ++ cs.drop ((i + 1) * sz)) true], e⟩) := by
  unfold prDel
  simp only [h1]
  rw [if_pos ⟨trivial, h2, by omega, by omega, by omega⟩]
  simp

theorem prDel_grow {sz : Nat} {args : List AV} {m m' : Mem} {v : AV} (h : prDel sz args m = some (v, m')) : Grow m m' := by
  obtain ⟨b, n, i, cap, cs, rfl, hb, hcs, hi, rfl, rfl⟩ := prDel_told h
  have hbl : b < m.H.length := (List.getElem?_eq_some_iff.mp hb).1
  have key : ∀ (x : Nat) cs' wr', (m.H.set b .dead ++ [.dead, Blk.cells (cs.take (i * sz) ++ cs.drop ((i + 1) * sz)) true])[x]? = some (.cells cs' wr') → (x < m.H.length ∧ m.H[x]? = some (.cells cs' wr')) ∨ (m.H.length ≤ x ∧ wr' = true) := by
    intro x cs' wr' hx
    rcases Nat.lt_or_ge x m.H.length with hl | hl
    · rw [List.getElem?_append_left (by simpa using hl), List.getElem?_set] at hx
      split at hx
      · cases hx
      · exact .inl ⟨hl, hx⟩
    · rw [List.getElem?_append_right (by simpa using hl)] at hx
      refine .inr ⟨hl, ?_⟩
      match hq : x - (m.H.set b .dead).length, hx with
      | 0, hx => simp at hx
      | 1, hx => simp at hx; exact hx.2
      | q + 2, hx => simp at hx
  refine ⟨by simp, fun _ h => h, fun x hx _ => ?_, fun x cs' hx => ?_⟩
  · intro cs' wr' hc
    rcases key x cs' wr' hc with ⟨_, h2⟩ | ⟨h1, _⟩
    · exact ⟨cs', wr', h2, fun c hc => .inl hc⟩
    · omega
  · rcases key x cs' false hx with ⟨_, h2⟩ | ⟨_, h2⟩
    · exact h2
    · cases h2

/-- slices.Delete, at one element -/
def HasDelete (pr : Prims) : Prop := (∀ (L : List Blk) (e : Option Nat) (b n i : Nat) (cap : Option Nat) (cs : List AV), L[b]? = some (.cells cs true) → cs.length = n * 2 → i < n → call T pr f_slices_Delete_Si_Load_i_Load [.slice (some (b, 0)) 2 n cap, .int .i64 i, .int .i64 (i + 1 : Nat)] ⟨L, e⟩ = some (.slice (some (L.length + 1, 0)) 2 (n - 1) none, ⟨L.set b .dead ++ [.dead, .cells (cs.take (i * 2) ++ cs.drop ((i + 1) * 2)) true], e⟩))

end Go.Proofs.Ytlcklonakjhoiaa.Slim

/- The contract of slices.Delete at one element, walked off its own text. -/
namespace Go.Proofs.Ytlcklonakjhoiaa.Slim
open Go Go.Lib Go.RowKit
set_option linter.unusedVariables false
set_option linter.unusedSimpArgs false

set_option maxHeartbeats 4000000 in
set_option maxRecDepth 1000000 in
theorem del_walkLoad (blk off n k i j : Nat) (w : World) (hij : i < j) (hjn : j ≤ n) (hj1 : n - (i + (n - j)) = 1) (hnk : n ≤ k) (news : List Value) (hlen : news.length = (n - j) * 2)
    (hsrc : ∀ t u, news[t]? = some u → w.drew.cell? ⟨blk, off + j * 2 + t, none⟩ = some u) (hone : ∀ u ∈ news, u.oneCell' = true)
    (hsp : ∀ t, t < (n - j) * 2 → (w.drew.cell? ⟨blk, off + i * 2 + t, none⟩).isSome = true ∧ w.drew.frozen? ⟨blk, off + i * 2 + t, none⟩ = false)
    (hsp2 : ∀ t, t < 2 → ((w.drew.setCells blk (off + i * 2) news).cell? ⟨blk, off + (i + (n - j)) * 2 + t, none⟩).isSome = true ∧ (w.drew.setCells blk (off + i * 2) news).frozen? ⟨blk, off + (i + (n - j)) * 2 + t, none⟩ = false) :
    Calls Try.prog 63 #[.slice (some ⟨blk, off, none⟩) n k, .int .i64 i, .int .i64 j] w fun e w' =>
      e = .returned (.slice (some ⟨blk, off, none⟩) (i + (n - j)) k) ∧ w' = (w.drew.setCells blk (off + i * 2) news).setCells blk (off + (i + (n - j)) * 2) [.int .i64 0, .int .i64 0] := by
  have mixed : Try.prog.follows .mixedOrders = true := by kernel_rfl
  have ts : Try.prog.underlying 31 = some (.slice 60) := by kernel_rfl
  obtain ⟨i0, hi0, hz0, hz1, hz2⟩ := info_parts (show (Try.prog.info? 60).map (fun i => (i.zero, i.size, i.bytes)) = some (some (.agg #[.int .i64 0, .int .i64 0]), 2, 16) by kernel_rfl)
  obtain ⟨A, hA, hsrc'⟩ : ∃ A : Addr, (if k = j then some (⟨blk, off, none⟩ : Addr) else some ⟨blk, off + j * 2, none⟩) = some A ∧ Hid (∀ t u, news[t]? = some u → w.drew.cell? (A.add t) = some u) := by
    by_cases h : k = j
    · refine ⟨⟨blk, off, none⟩, by simp [h], fun t u hu => ?_⟩
      have h0 : news.length = 0 := by rw [hlen]; omega
      rw [List.length_eq_zero_iff.1 h0] at hu
      simp at hu
    · refine ⟨⟨blk, off + j * 2, none⟩, by simp [h], fun t u hu => ?_⟩
      rw [Addr.add_lit]
      exact hsrc t u hu
  have s1 : Hid (news.length = (n - j) * 2) := hlen
  have s2 : Hid (∀ u ∈ news, u.oneCell' = true) := hone
  have s3 : Hid (∀ t, t < news.length → (w.drew.cell? ⟨blk, off + i * 2 + t, none⟩).isSome = true ∧ w.drew.frozen? ⟨blk, off + i * 2 + t, none⟩ = false) := fun t ht => hsp t (by omega)
  obtain ⟨W1, hW1⟩ : ∃ W1, W1 = w.drew.setCells blk (off + i * 2) news := ⟨_, rfl⟩
  have hW : Hid (W1 = w.drew.setCells blk (off + i * 2) news) := hW1
  rw [← hW1] at hsp2 ⊢
  have hcl : ∀ ty, (Builtin.clear_ #[31] ty #[.slice (some ⟨blk, off + (i + (n - j)) * 2, none⟩) (n - (i + (n - j))) (k - (i + (n - j)))]).run Try.prog W1 = .ok (.tuple #[]) (W1.setCells blk (off + (i + (n - j)) * 2) [.int .i64 0, .int .i64 0]) := by
    intro ty
    rw [hj1]
    exact clear_one W1 31 60 ty (.agg #[.int .i64 0, .int .i64 0]) (by kernel_rfl) (fun w => by kernel_rfl) (by intro v hv; simp [Value.cells] at hv; subst hv; rfl) blk _ _ (fun t ht => (hsp2 t ht).1) (fun t ht => (hsp2 t ht).2)
  have hic : i ≤ k := by omega
  have hjc : j ≤ k := by omega
  have hne : ¬ i = j := by omega
  clear hW1 hsp2 hsp hlen hsrc hone hj1
  go_enter Try.func63, Try.ntmps63
  go_wp2_with fail
  go_region_law_o (refine step_append_room rfl (.tmp 22) (.tmp 25) 31 rfl 60 i0 2 ts hi0 hz1 blk off i k (by simp [Act.eval, Act.put]) A (n - j) (k - j) news (by simp [Act.eval, Act.put]) s1.out hsrc'.out s2.out (by omega) s3.out ?_; rw [← hW.out])
  go_wp2
  go_ret
  exact ⟨rfl, rfl⟩

def prC : Prims := fun f args m => if f = f_slices_Delete_Si_Load_i_Load then prDel 2 args m else none

theorem fnLoad : ∃ fn, Try.prog.funcs[f_slices_Delete_Si_Load_i_Load]? = some fn ∧ fn.body.isSome = true ∧ fn.name ≠ "runtime.NumGoroutine" := by
  have h : ((Try.prog.funcs[f_slices_Delete_Si_Load_i_Load]?).map fun fn => fn.body.isSome && decide (fn.name ≠ "runtime.NumGoroutine")) = some true := by kernel_rfl
  obtain ⟨fn, h1, h2⟩ := Option.map_eq_some_iff.mp h
  simp only [Bool.and_eq_true, decide_eq_true_eq] at h2
  exact ⟨fn, h1, h2.1, h2.2⟩

theorem callLoad {ι : Emb} {m m' : Mem} {w : World} {args : List AV} {vs : List Value} {v : AV} (h : prDel 2 args m = some (v, m')) (R : Rel ι m w) (hv : VL ι w args vs) :
    Calls Try.prog f_slices_Delete_Si_Load_i_Load vs.toArray w fun e w' => ∃ (ι' : Emb) (v' : Value), e = .returned v' ∧ V ι' w' v v' ∧ Rel ι' m' w' ∧ Ext ι m w ι' m' w' := by
  obtain ⟨b, n, i, cap, cs, rfl, hb, hcs, hi, rfl, rfl⟩ := prDel_told h
  obtain ⟨v1, vs1, rfl, h1, v2, vs2, rfl, rfl, v3, vs3, rfl, rfl, rfl⟩ := hv
  obtain ⟨c, x, k, news, rfl, h2, h3, h4, h5, h6, h7, ι', h8, h9, h10⟩ := del_rel (P := Try.prog) R hb hcs hi h1
  refine (del_walkLoad c x n k i (i + 1) w (by omega) (by omega) (by omega) h2 news h3 h4 h5 h6 h7).mono ?_
  rintro e w' ⟨rfl, rfl⟩
  exact ⟨ι', _, rfl, h8, h9, h10⟩

theorem prC_ok : PrimsOk Try.prog prC := by
  refine ⟨fun f args m v m' ι w vs h R hv => ?_, fun f args m v m' h => ?_⟩
  · unfold prC at h
    split at h
    · rename_i hf
      subst hf
      exact ⟨fnLoad, callLoad h R hv⟩
    rename_i hfLoad
    cases h
  · unfold prC at h
    split at h
    · exact prDel_grow h
    cases h

theorem prC_has : HasDelete prC := by
  intro L e b n i cap cs h1 h2 h3
  rw [call_prim rfl]
  exact prDel_at (cap := cap) h1 h2 h3

end Go.Proofs.Ytlcklonakjhoiaa.Slim

/- The slim machine: the rules by which simp walks. -/
namespace Go.Proofs.Ytlcklonakjhoiaa.Slim
open Go
set_option linter.unusedVariables false
set_option linter.unusedSimpArgs false

section
variable {C : FuncId → List AV → Mem → Option (AV × Mem)} {tm loc : List AV} {m : Mem} {g : X → AV} {H : List Blk} {e : Option Nat}

theorem aops_nil : aops C tm [] loc m = some (loc, m) := Eq.trans rfl rfl

def opThen {β : Type} (r : Option (AV × Mem)) (f : AV → Mem → Option β) : Option β :=
  match r with
  | some (v, m) => f v m
  | none => none
theorem opThen_some {β : Type} (v : AV) (m : Mem) (f : AV → Mem → Option β) : opThen (some (v, m)) f = f v m := Eq.trans rfl rfl
theorem opThen_none {β : Type} (f : AV → Mem → Option β) : opThen none f = none := Eq.trans rfl rfl
theorem opThen_ite {β : Type} (c : Prop) [Decidable c] (a b : Option (AV × Mem)) (f : AV → Mem → Option β) : opThen (if c then a else b) f = if c then opThen a f else opThen b f := by split <;> rfl
@[congr] theorem opThen_congr {β : Type} {r r' : Option (AV × Mem)} {f : AV → Mem → Option β} (h : r = r') : opThen r f = opThen r' f := by rw [h]

/-- an operation with a guard -/
def guardP {β : Type} (p : Prop) [Decidable p] (r : Option (AV × Mem)) (m : Mem) (f : AV → Mem → Option β) : Option β := if p then opThen r f else f (.tup []) m
def guardThen {β : Type} (c : Option Bool) (r : Option (AV × Mem)) (m : Mem) (f : AV → Mem → Option β) : Option β :=
  match c with
  | none => none
  | some c => guardP (c = true) r m f
theorem guardThen_some {β : Type} (c : Bool) (r : Option (AV × Mem)) (m : Mem) (f : AV → Mem → Option β) : guardThen (some c) r m f = guardP (c = true) r m f := Eq.trans rfl rfl
theorem guardThen_ite {β : Type} (p : Prop) [Decidable p] (a b : Option Bool) (r : Option (AV × Mem)) (m : Mem) (f : AV → Mem → Option β) :
    guardThen (if p then a else b) r m f = if p then guardThen a r m f else guardThen b r m f := by split <;> rfl
theorem guardP_true {β : Type} (r : Option (AV × Mem)) (m : Mem) (f : AV → Mem → Option β) : guardP True r m f = opThen r f := by simp [guardP]
theorem guardP_false {β : Type} (r : Option (AV × Mem)) (m : Mem) (f : AV → Mem → Option β) : guardP False r m f = f (.tup []) m := by simp [guardP]
theorem guardP_some {β : Type} (p : Prop) [Decidable p] (v : AV) (m : Mem) (f : AV → Mem → Option β) : guardP p (some (v, m)) m f = f (if p then v else .tup []) m := by
  by_cases h : p <;> simp [guardP, h, opThen]
theorem guardP_ite {β : Type} (p : Prop) [Decidable p] (q : Prop) [Decidable q] (v : AV) (m : Mem) (f : AV → Mem → Option β) :
    guardP p (if q then some (v, m) else none) m f = if p → q then f (if p then v else .tup []) m else none := by
  by_cases h : p <;> by_cases h2 : q <;> simp [guardP, opThen, h, h2]
@[congr] theorem guardP_congr {β : Type} {p q : Prop} {s : Decidable p} [Decidable q] {r r' : Option (AV × Mem)} {m : Mem} {f : AV → Mem → Option β} (h : p = q) (h2 : q → r = r') : guardP p r m f = guardP q r' m f := by
  subst h
  unfold guardP
  by_cases hp : p
  · rw [if_pos hp, if_pos hp, h2 hp]
  · rw [if_neg hp, if_neg hp]
@[congr] theorem guardThen_congr {β : Type} {c c' : Option Bool} {r : Option (AV × Mem)} {m : Mem} {f : AV → Mem → Option β} (h : c = c') : guardThen c r m f = guardThen c' r m f := by rw [h]

/-- what a guard says -/
def guardOf (v : AV) (b : Bool) : Option Bool :=
  match v with
  | .bool c => some (c == b)
  | .tup [] => some false
  | _ => none
theorem guardOf_true (c : Bool) : guardOf (.bool c) true = some c := by cases c <;> rfl
theorem guardOf_false (c : Bool) : guardOf (.bool c) false = some (!c) := by cases c <;> rfl
theorem guardOf_tup (b : Bool) : guardOf (.tup []) b = some false := Eq.trans rfl rfl
theorem guardOf_ite (c : Prop) [Decidable c] (x y : AV) (b : Bool) : guardOf (if c then x else y) b = if c then guardOf x b else guardOf y b := by split <;> rfl

theorem aops_cons (op : AO) (rest : List AOper) : aops C tm (⟨op, none⟩ :: rest) loc m = opThen (aop C (get tm loc) m op) fun v m' => aops C tm rest (loc ++ [v]) m' := by
  rw [aops]
  simp only [wanted]
  cases aop C (get tm loc) m op <;> rfl

theorem aops_guard (op : AO) (x : X) (b : Bool) (rest : List AOper) :
    aops C tm (⟨op, some (x, b)⟩ :: rest) loc m = guardThen (guardOf (get tm loc x) b) (aop C (get tm loc) m op) m fun v m' => aops C tm rest (loc ++ [v]) m' := by
  rw [aops]
  have h : wanted (get tm loc) (some (x, b)) = guardOf (get tm loc x) b := rfl
  rw [h]
  cases guardOf (get tm loc x) b with
  | none => rfl
  | some c => cases c with
    | false => rfl
    | true => simp only [guardThen, guardP, if_true]; cases aop C (get tm loc) m op <;> rfl

theorem dops_nil : dops C tm [] loc m = some (loc, m) := Eq.trans rfl rfl

theorem dops_cons (op : AO) (rest : List DE) : dops C tm (⟨op, none, []⟩ :: rest) loc m = opThen (aop C (get tm loc) m op) fun v m' => dops C tm rest (loc ++ [v]) m' := by
  rw [dops]
  simp only [wanted]
  cases aop C (get tm loc) m op <;> simp [opThen, toldAnew]

theorem dops_again (op : AO) (q : Nat × AOper) (qs : List (Nat × AOper)) (rest : List DE) : dops C tm (⟨op, none, q :: qs⟩ :: rest) loc m =
    opThen (aop C (get tm loc) m op) fun v m' => if toldAnew (get tm (loc ++ [v])) loc m'.H (q :: qs) = true then dops C tm rest (loc ++ [v]) m' else none := by
  rw [dops]
  simp only [wanted]
  cases aop C (get tm loc) m op <;> simp [opThen]

theorem dops_guard (op : AO) (x : X) (b : Bool) (rest : List DE) :
    dops C tm (⟨op, some (x, b), []⟩ :: rest) loc m = guardThen (guardOf (get tm loc x) b) (aop C (get tm loc) m op) m fun v m' => dops C tm rest (loc ++ [v]) m' := by
  rw [dops]
  have h : wanted (get tm loc) (some (x, b)) = guardOf (get tm loc x) b := rfl
  rw [h]
  cases guardOf (get tm loc x) b with
  | none => rfl
  | some c => cases c with
    | false => simp [guardThen, guardP, toldAnew]
    | true => simp only [guardThen, guardP, if_true]; cases aop C (get tm loc) m op <;> simp [opThen, toldAnew]

theorem dops_guard_again (op : AO) (x : X) (b : Bool) (q : Nat × AOper) (qs : List (Nat × AOper)) (rest : List DE) :
    dops C tm (⟨op, some (x, b), q :: qs⟩ :: rest) loc m = guardThen (guardOf (get tm loc x) b) (aop C (get tm loc) m op) m fun v m' =>
      if toldAnew (get tm (loc ++ [v])) loc m'.H (q :: qs) = true then dops C tm rest (loc ++ [v]) m' else none := by
  rw [dops]
  have h : wanted (get tm loc) (some (x, b)) = guardOf (get tm loc x) b := rfl
  rw [h]
  cases guardOf (get tm loc x) b with
  | none => rfl
  | some c => cases c with
    | false => rfl
    | true => simp only [guardThen, guardP, if_true]; cases aop C (get tm loc) m op <;> rfl

theorem toldAnew_nil (L : List Blk) : toldAnew g loc L [] = true := Eq.trans rfl rfl
theorem toldAnew_cons (L : List Blk) (j : Nat) (op : AO) (qs : List (Nat × AOper)) : (toldAnew g loc L ((j, ⟨op, none⟩) :: qs) = true) ↔ (memop g L op = some ((loc[j]?).getD .undef) ∧ toldAnew g loc L qs = true) := by
  simp [toldAnew, wanted]
theorem toldAnew_guard (L : List Blk) (j : Nat) (op : AO) (x : X) (b : Bool) (qs : List (Nat × AOper)) : (toldAnew g loc L ((j, ⟨op, some (x, b)⟩) :: qs) = true) ↔ ((guardOf (g x) b = some false ∨ memop g L op = some ((loc[j]?).getD .undef)) ∧ toldAnew g loc L qs = true) := by
  simp only [toldAnew, Bool.and_eq_true, Bool.or_eq_true, decide_eq_true_eq]
  rfl
theorem memop_load (L : List Blk) (a : Bool) (sz : Nat) (x : X) : memop g L (.load a sz x) = loadAt L a sz (g x) := Eq.trans rfl rfl

theorem get_t (s : Nat) : get tm loc (.t s) = (tm[s]?).getD .undef := Eq.trans rfl rfl
theorem get_l (s : Nat) : get tm loc (.l s) = (loc[s]?).getD .undef := Eq.trans rfl rfl
theorem get_c (v : AV) : get tm loc (.c v) = v := Eq.trans rfl rfl

/-- a value, memory being as it was -/
def valOf (m : Mem) (r : Option AV) : Option (AV × Mem) :=
  match r with
  | some v => some (v, m)
  | none => none
theorem valOf_some (v : AV) : valOf m (some v) = some (v, m) := Eq.trans rfl rfl
theorem valOf_none : valOf m none = none := Eq.trans rfl rfl
theorem valOf_ite (c : Prop) [Decidable c] (a b : Option AV) : valOf m (if c then a else b) = if c then valOf m a else valOf m b := by split <;> rfl

theorem aop_of_light {op : AO} (h : op.kind = 0) : aop C g m op = valOf m (light g op) := by
  unfold aop
  cases e : light g op with
  | some v => rfl
  | none => simp only []; rw [memop_none (by omega), making_none (by omega), heavy_none (by omega)]; rfl

theorem aop_of_memop {op : AO} (h : op.kind = 1) : aop C g m op = valOf m (memop g m.H op) := by
  unfold aop
  rw [light_none (by omega)]
  simp only []
  cases e : memop g m.H op with
  | some v => rfl
  | none => simp only []; rw [making_none (by omega), heavy_none (by omega)]; rfl

theorem aop_of_heavy {op : AO} (h : op.kind = 3) : aop C g m op = heavy C g m op := by
  unfold aop
  rw [light_none (by omega), memop_none (by omega), making_none (by omega)]

theorem aop_of_making {op : AO} (h : op.kind = 2) : aop C g m op = match making g op with | some (cs, v) => some (v m.H.length, newBlk m cs) | none => none := by
  unfold aop
  rw [light_none (by omega), memop_none (by omega)]
  simp only []
  cases making g op with
  | some p => rfl
  | none => simp only []; exact heavy_none (by omega)

theorem aop_mv (x : X) : aop C g m (.mv x) = some (g x, m) := Eq.trans rfl rfl
theorem aop_bin (c : Nat) (o : BinOp) (x y : X) : aop C g m (.bin c o x y) = valOf m (binop c o (g x) (g y)) := aop_of_light rfl

/-- a choice -/
def pickV (c a b : AV) : Option AV :=
  match c with
  | .bool true => some a
  | .bool false => some b
  | _ => none
theorem pickV_bool (c : Bool) (a b : AV) : pickV (.bool c) a b = some (if c = true then a else b) := by cases c <;> rfl
theorem aop_pick (c a b : X) : aop C g m (.pick c a b) = valOf m (pickV (g c) (g a) (g b)) := aop_of_light rfl
theorem aop_un (o : UnOp) (x : X) : aop C g m (.un o x) = valOf m (unop o (g x)) := aop_of_light rfl
theorem aop_makeFunc (f : FuncId) (a b : List X) : aop C g m (.makeFunc f a b) = some (.fn f (a.map g) (b.map g), m) := Eq.trans rfl rfl

def convV (k : IntKind) (v : AV) : Option AV :=
  match v with
  | .int _ n => some (.int k (k.wrap n))
  | _ => none
theorem convV_int (k k' : IntKind) (n : Int) : convV k (.int k' n) = some (.int k (k.wrap n)) := Eq.trans rfl rfl
theorem aop_conv (k : IntKind) (x : X) : aop C g m (.conv k x) = valOf m (convV k (g x)) := aop_of_light rfl

def eqCellsV (ks : List Nat) (neg : Bool) (a b : AV) : Option AV :=
  match a, b with
  | .agg xs, .agg ys => (eqList ks xs ys).map fun b => .bool (if neg then !b else b)
  | _, _ => none
theorem eqCellsV_agg (ks : List Nat) (neg : Bool) (xs ys : List AV) : eqCellsV ks neg (.agg xs) (.agg ys) = (eqList ks xs ys).map fun b => .bool (if neg then !b else b) := Eq.trans rfl rfl
theorem aop_eqCells (ks : List Nat) (neg : Bool) (x y : X) : aop C g m (.eqCells ks neg x y) = valOf m (eqCellsV ks neg (g x) (g y)) := aop_of_light rfl

def fieldAddrV (off : Nat) (v : AV) : Option AV :=
  match v with
  | .ptr (some (b, o)) => some (.ptr (some (b, o + off)))
  | _ => none
theorem fieldAddrV_ptr (off b o : Nat) : fieldAddrV off (.ptr (some (b, o))) = some (.ptr (some (b, o + off))) := Eq.trans rfl rfl
theorem aop_fieldAddr (off : Nat) (x : X) : aop C g m (.fieldAddr off x) = valOf m (fieldAddrV off (g x)) := aop_of_light rfl

def fieldV (agg : Bool) (off sz : Nat) (v : AV) : Option AV :=
  match v with
  | .agg cs => part agg cs off sz
  | _ => none
theorem fieldV_agg (agg : Bool) (off sz : Nat) (cs : List AV) : fieldV agg off sz (.agg cs) = part agg cs off sz := Eq.trans rfl rfl
theorem aop_field (agg : Bool) (off sz : Nat) (x : X) : aop C g m (.field agg off sz x) = valOf m (fieldV agg off sz (g x)) := aop_of_light rfl

def indexAddrSV (sz : Nat) (v i : AV) : Option AV :=
  match v, i with
  | .slice (some (b, o)) sz' n _, .int _ i => if 0 ≤ i ∧ i < n ∧ sz' = sz then some (.ptr (some (b, o + i.toNat * sz))) else none
  | _, _ => none
theorem indexAddrSV_slice (sz b o sz' n : Nat) (c : Option Nat) (k : IntKind) (i : Int) : indexAddrSV sz (.slice (some (b, o)) sz' n c) (.int k i) = if 0 ≤ i ∧ i < n ∧ sz' = sz then some (.ptr (some (b, o + i.toNat * sz))) else none := Eq.trans rfl rfl
theorem aop_indexAddrS (sz : Nat) (x i : X) : aop C g m (.indexAddrS sz x i) = valOf m (indexAddrSV sz (g x) (g i)) := aop_of_light rfl

def indexAddrAV (n sz : Nat) (v i : AV) : Option AV :=
  match v, i with
  | .ptr (some (b, o)), .int _ i => if 0 ≤ i ∧ i < n then some (.ptr (some (b, o + i.toNat * sz))) else none
  | _, _ => none
theorem indexAddrAV_ptr (n sz b o : Nat) (k : IntKind) (i : Int) : indexAddrAV n sz (.ptr (some (b, o))) (.int k i) = if 0 ≤ i ∧ i < n then some (.ptr (some (b, o + i.toNat * sz))) else none := Eq.trans rfl rfl
theorem aop_indexAddrA (n sz : Nat) (x i : X) : aop C g m (.indexAddrA n sz x i) = valOf m (indexAddrAV n sz (g x) (g i)) := aop_of_light rfl

def indexAV (agg : Bool) (n sz : Nat) (v i : AV) : Option AV :=
  match v, i with
  | .agg cs, .int _ i => if 0 ≤ i ∧ i < n then part agg cs (i.toNat * sz) sz else none
  | _, _ => none
theorem indexAV_agg (agg : Bool) (n sz : Nat) (cs : List AV) (k : IntKind) (i : Int) : indexAV agg n sz (.agg cs) (.int k i) = if 0 ≤ i ∧ i < n then part agg cs (i.toNat * sz) sz else none := Eq.trans rfl rfl
theorem aop_indexA (agg : Bool) (n sz : Nat) (x i : X) : aop C g m (.indexA agg n sz x i) = valOf m (indexAV agg n sz (g x) (g i)) := aop_of_light rfl

def indexSV (v i : AV) : Option AV :=
  match v, i with
  | .str s, .int _ i => if 0 ≤ i then (s[i.toNat]?).map fun b => .int .u8 b.toNat else none
  | _, _ => none
theorem indexSV_str (s : ByteArray) (k : IntKind) (i : Int) : indexSV (.str s) (.int k i) = if 0 ≤ i then (s[i.toNat]?).map fun b => .int .u8 b.toNat else none := Eq.trans rfl rfl
theorem aop_indexS (x i : X) : aop C g m (.indexS x i) = valOf m (indexSV (g x) (g i)) := aop_of_light rfl

def extractV (i : Nat) (v : AV) : Option AV :=
  match v with
  | .tup vs => vs[i]?
  | _ => none
theorem extractV_tup (i : Nat) (vs : List AV) : extractV i (.tup vs) = vs[i]? := Eq.trans rfl rfl
theorem aop_extract (i : Nat) (x : X) : aop C g m (.extract i x) = valOf m (extractV i (g x)) := aop_of_light rfl

def lenV (v : AV) : Option AV :=
  match v with
  | .slice _ _ n _ => some (.int .i64 n)
  | _ => none
theorem lenV_slice (p : Option (Nat × Nat)) (sz n : Nat) (c : Option Nat) : lenV (.slice p sz n c) = some (.int .i64 n) := Eq.trans rfl rfl
theorem aop_len (x : X) : aop C g m (.len x) = valOf m (lenV (g x)) := aop_of_light rfl

def lenStrV (v : AV) : Option AV :=
  match v with
  | .str s => some (.int .i64 s.size)
  | _ => none
theorem lenStrV_str (s : ByteArray) : lenStrV (.str s) = some (.int .i64 s.size) := Eq.trans rfl rfl
theorem aop_lenStr (x : X) : aop C g m (.lenStr x) = valOf m (lenStrV (g x)) := aop_of_light rfl
theorem aop_lenA (n : Nat) : aop C g m (.lenA n) = some (.int .i64 n, m) := Eq.trans rfl rfl

def max2V (a b : AV) : Option AV :=
  match a, b with
  | .int k a, .int k' b => if k = k' then some (.int k (if b > a then b else a)) else none
  | _, _ => none
theorem max2V_int (k : IntKind) (a b : Int) : max2V (.int k a) (.int k b) = some (.int k (if b > a then b else a)) := by simp [max2V]
theorem aop_max2 (x y : X) : aop C g m (.max2 x y) = valOf m (max2V (g x) (g y)) := aop_of_light rfl
def min2V (a b : AV) : Option AV :=
  match a, b with
  | .int k a, .int k' b => if k = k' then some (.int k (if b < a then b else a)) else none
  | _, _ => none
theorem min2V_int (k : IntKind) (a b : Int) : min2V (.int k a) (.int k b) = some (.int k (if b < a then b else a)) := by simp [min2V]
theorem aop_min2 (x y : X) : aop C g m (.min2 x y) = valOf m (min2V (g x) (g y)) := aop_of_light rfl

theorem aop_build (zero : List AV) (parts : List (Nat × Nat × X)) : aop C g m (.build zero parts) = valOf m ((fillParts g zero parts).map .agg) := aop_of_light rfl
theorem aop_load (a : Bool) (sz : Nat) (x : X) : aop C g m (.load a sz x) = valOf m (loadAt m.H a sz (g x)) := aop_of_memop rfl
theorem aop_alloc (zero : List AV) : aop C g ⟨H, e⟩ (.alloc zero) = some (.ptr (some (H.length, 0)), ⟨H ++ [.cells zero true], e⟩) := Eq.trans rfl rfl

def boxV (H : List Blk) (e : Option Nat) (cs : Option (List AV)) : Option (AV × Mem) :=
  match cs with
  | some cs => some (.ptr (some (H.length, 0)), ⟨H ++ [.cells cs true], e⟩)
  | none => none
theorem boxV_some (cs : List AV) : boxV H e (some cs) = some (.ptr (some (H.length, 0)), ⟨H ++ [.cells cs true], e⟩) := Eq.trans rfl rfl
theorem aop_box (x : X) : aop C g ⟨H, e⟩ (.box x) = boxV H e (cellsOf (g x)) := by
  rw [aop_of_making rfl]
  have h : making g (.box x) = (cellsOf (g x)).map fun cs => (cs, fun b => .ptr (some (b, 0))) := rfl
  rw [h]
  cases cellsOf (g x) <;> rfl

def buildSliceV (H : List Blk) (e : Option Nat) (sz len : Nat) (cs : Option (List AV)) : Option (AV × Mem) :=
  match cs with
  | some cs => some (.slice (some (H.length, 0)) sz len (some len), ⟨H ++ [.cells cs true], e⟩)
  | none => none
theorem buildSliceV_some (sz len : Nat) (cs : List AV) : buildSliceV H e sz len (some cs) = some (.slice (some (H.length, 0)) sz len (some len), ⟨H ++ [.cells cs true], e⟩) := Eq.trans rfl rfl
theorem aop_buildSlice (sz len : Nat) (zero : List AV) (parts : List (Nat × Nat × X)) : aop C g ⟨H, e⟩ (.buildSlice sz len zero parts) = buildSliceV H e sz len (fillParts g zero parts) := by
  rw [aop_of_making rfl]
  have h : making g (.buildSlice sz len zero parts) = (fillParts g zero parts).map fun cs => (cs, fun b => .slice (some (b, 0)) sz len (some len)) := rfl
  rw [h]
  cases fillParts g zero parts <;> rfl

/-- a store -/
def storeV (H : List Blk) (e : Option Nat) (sz : Nat) (a x : AV) : Option (AV × Mem) :=
  match a, cellsOf x with
  | .ptr (some (b, o)), some new => match H[b]? with
    | some (.cells cs true) =>
      if new.length = sz ∧ 0 < sz ∧ o + sz ≤ cs.length then
        some (.tup [], ⟨H.set b (.cells (setRange cs o new) true), if (new.all fun v => v.under (b + 1)) then e else minEsc e b⟩)
      else none
    | _ => none
  | _, _ => none
theorem aop_store (sz : Nat) (a x : X) : aop C g ⟨H, e⟩ (.store sz a x) = storeV H e sz (g a) (g x) := by
  rw [aop_of_heavy rfl]; rfl

def callV (C : FuncId → List AV → Mem → Option (AV × Mem)) (f : AV) (args : List AV) (m : Mem) : Option (AV × Mem) :=
  match f with
  | .fn f first captured => C f (first ++ args ++ captured) m
  | _ => none
theorem callV_fn (f : FuncId) (first captured args : List AV) : callV C (.fn f first captured) args m = C f (first ++ args ++ captured) m := Eq.trans rfl rfl
theorem aop_call (f : X) (args : List X) : aop C g m (.call f args) = callV C (g f) (args.map g) m := by
  rw [aop_of_heavy rfl]
  rfl

def makeSliceV (H : List Blk) (e : Option Nat) (sz bytes : Nat) (zero : List AV) (len cap : AV) : Option (AV × Mem) :=
  match len, cap with
  | .int .i64 l, .int .i64 c => if 0 ≤ l ∧ l = c ∧ l * bytes ≤ maxBytes then
      some (.slice (some (H.length, 0)) sz l.toNat (some l.toNat), ⟨H ++ [.cells (zeros l.toNat zero) true], e⟩) else none
  | _, _ => none
theorem makeSliceV_int (sz bytes : Nat) (zero : List AV) (l c : Int) : makeSliceV H e sz bytes zero (.int .i64 l) (.int .i64 c) = if 0 ≤ l ∧ l = c ∧ l * bytes ≤ maxBytes then
      some (.slice (some (H.length, 0)) sz l.toNat (some l.toNat), ⟨H ++ [.cells (zeros l.toNat zero) true], e⟩) else none := rfl
theorem aop_makeSlice (sz bytes : Nat) (zero : List AV) (len cap : X) : aop C g ⟨H, e⟩ (.makeSlice sz bytes zero len cap) = makeSliceV H e sz bytes zero (g len) (g cap) := by
  rw [aop_of_heavy rfl]; rfl

def appendV (H : List Blk) (e : Option Nat) (str : Bool) (sz bytes : Nat) (s x : AV) : Option (AV × Mem) :=
  match s with
  | .slice none _ _ _ => match srcCells str H x with
    | some (n, cs) => if n = 0 then some (nilSlice, ⟨H, e⟩)
        else if n * bytes ≤ maxBytes ∧ cs.length = n * sz then some (.slice (some (H.length, 0)) sz n none, ⟨H ++ [.cells cs true], e⟩) else none
    | none => none
  | .slice (some (b, o)) sz' n cap => match H[b]?, srcCells str H x with
    | some (.cells old wr), some (k, cs) =>
      if sz' = sz ∧ (n + k) * bytes ≤ maxBytes ∧ cs.length = k * sz ∧ o + n * sz ≤ old.length then
        if cap = some 0 ∧ 0 < k then some (.slice (some (H.length, 0)) sz (n + k) none, ⟨H ++ [.cells cs true], e⟩)
        else if wr then some (.slice (some (H.length, 0)) sz (n + k) none, ⟨H.set b .dead ++ [.cells ((old.drop o).take (n * sz) ++ cs) true], e⟩)
        else none
      else none
    | _, _ => none
  | _ => none
theorem aop_append (str : Bool) (sz bytes : Nat) (s x : X) : aop C g ⟨H, e⟩ (.append str sz bytes s x) = appendV H e str sz bytes (g s) (g x) := by
  rw [aop_of_heavy rfl]; rfl

theorem binop_add (k : IntKind) (a b : Int) : binop 0 .add (.int k a) (.int k b) = some (.int k (k.wrap (a + b))) := by simp [binop, intOp]
theorem binop_sub (k : IntKind) (a b : Int) : binop 0 .sub (.int k a) (.int k b) = some (.int k (k.wrap (a - b))) := by simp [binop, intOp]
theorem binop_mul (k : IntKind) (a b : Int) : binop 0 .mul (.int k a) (.int k b) = some (.int k (k.wrap (a * b))) := by simp [binop, intOp]
theorem binop_quo (k : IntKind) (a b : Int) : binop 0 .quo (.int k a) (.int k b) = if b = 0 then none else some (.int k (k.wrap (a.tdiv b))) := by simp [binop, intOp]
theorem binop_rem (k : IntKind) (a b : Int) : binop 0 .rem (.int k a) (.int k b) = if b = 0 then none else some (.int k (a.tmod b)) := by simp [binop, intOp]
theorem binop_eql (k : IntKind) (a b : Int) : binop 0 .eql (.int k a) (.int k b) = some (.bool (decide (a = b))) := by simp [binop, intOp]
theorem binop_neq (k : IntKind) (a b : Int) : binop 0 .neq (.int k a) (.int k b) = some (.bool (!decide (a = b))) := by simp [binop, intOp]
theorem binop_lss (k : IntKind) (a b : Int) : binop 0 .lss (.int k a) (.int k b) = some (.bool (decide (a < b))) := by simp [binop, intOp]
theorem binop_leq (k : IntKind) (a b : Int) : binop 0 .leq (.int k a) (.int k b) = some (.bool (decide (a ≤ b))) := by simp [binop, intOp]
theorem binop_gtr (k : IntKind) (a b : Int) : binop 0 .gtr (.int k a) (.int k b) = some (.bool (decide (b < a))) := by simp [binop, intOp]
theorem binop_geq (k : IntKind) (a b : Int) : binop 0 .geq (.int k a) (.int k b) = some (.bool (decide (b ≤ a))) := by simp [binop, intOp]
def shlI (k : IntKind) (a b : Int) : Int := k.wrap (a * 2 ^ (min b.toNat k.bits))
def shrI (k : IntKind) (a b : Int) : Int := a.fdiv (2 ^ (min b.toNat k.bits))
def andI (k : IntKind) (a b : Int) : Int := k.wrap (BitVec.ofInt k.bits a &&& BitVec.ofInt k.bits b).toNat
def orI (k : IntKind) (a b : Int) : Int := k.wrap (BitVec.ofInt k.bits a ||| BitVec.ofInt k.bits b).toNat
def xorI (k : IntKind) (a b : Int) : Int := k.wrap (BitVec.ofInt k.bits a ^^^ BitVec.ofInt k.bits b).toNat
def andNotI (k : IntKind) (a b : Int) : Int := k.wrap (BitVec.ofInt k.bits a &&& ~~~BitVec.ofInt k.bits b).toNat
theorem binop_shl (k k' : IntKind) (a b : Int) : binop 0 .shl (.int k a) (.int k' b) = if b < 0 then none else some (.int k (shlI k a b)) := by simp [binop, intOp, shlI]
theorem binop_shr (k k' : IntKind) (a b : Int) : binop 0 .shr (.int k a) (.int k' b) = if b < 0 then none else some (.int k (shrI k a b)) := by simp [binop, intOp, shrI]
theorem binop_band (k : IntKind) (a b : Int) : binop 0 .and (.int k a) (.int k b) = some (.int k (andI k a b)) := by simp [binop, intOp, andI]
theorem binop_bor (k : IntKind) (a b : Int) : binop 0 .or (.int k a) (.int k b) = some (.int k (orI k a b)) := by simp [binop, intOp, orI]
theorem binop_bxor (k : IntKind) (a b : Int) : binop 0 .xor (.int k a) (.int k b) = some (.int k (xorI k a b)) := by simp [binop, intOp, xorI]
theorem binop_bandnot (k : IntKind) (a b : Int) : binop 0 .andNot (.int k a) (.int k b) = some (.int k (andNotI k a b)) := by simp [binop, intOp, andNotI]
theorem binop_beql (a b : Bool) : binop 2 .eql (.bool a) (.bool b) = some (.bool (a == b)) := Eq.trans rfl rfl
theorem binop_bneq (a b : Bool) : binop 2 .neq (.bool a) (.bool b) = some (.bool (!(a == b))) := Eq.trans rfl rfl
theorem binop_seql (a b : ByteArray) : binop 1 .eql (.str a) (.str b) = some (.bool (decide (a = b))) := Eq.trans rfl rfl
theorem binop_sneq (a b : ByteArray) : binop 1 .neq (.str a) (.str b) = some (.bool (!decide (a = b))) := Eq.trans rfl rfl
theorem unop_neg (k : IntKind) (n : Int) : unop .neg (.int k n) = some (.int k (k.wrap (0 - n))) := Eq.trans rfl rfl
theorem unop_not (b : Bool) : unop .not (.bool b) = some (.bool !b) := Eq.trans rfl rfl

theorem setOuts_nil : setOuts tm loc [] = tm := Eq.trans rfl rfl
theorem setOuts_cons (s j : Nat) (rest : List (Nat × Nat)) : setOuts tm loc ((s, j) :: rest) = setOuts (tm.set s ((loc[j]?).getD .undef)) loc rest := Eq.trans rfl rfl

/-! memory -/
theorem cellsAt_new0 (l : List Blk) : cellsAt (H ++ l) H.length = cellsAt l 0 := by simp [cellsAt, List.getElem?_append_right]
theorem cellsAt_newk (l : List Blk) (k : Nat) : cellsAt (H ++ l) (H.length + k) = cellsAt l k := by simp [cellsAt, List.getElem?_append_right]
theorem cellsAt_cons0 (cs : List AV) (wr : Bool) (l : List Blk) : cellsAt (.cells cs wr :: l) 0 = some cs := Eq.trans rfl rfl
theorem cellsAt_consk (b : Blk) (l : List Blk) (k : Nat) : cellsAt (b :: l) (k + 1) = cellsAt l k := Eq.trans rfl rfl
theorem cellsAt_old {b : Nat} {cs : List AV} (l : List Blk) (h : cellsAt H b = some cs) : cellsAt (H ++ l) b = some cs := by
  unfold cellsAt at *
  cases hb : H[b]? with
  | none => rw [hb] at h; cases h
  | some x =>
    have hlt := (List.getElem?_eq_some_iff.mp hb).1
    rw [List.getElem?_append_left hlt, hb]
    rw [hb] at h
    exact h

def partOf (agg : Bool) (cs : Option (List AV)) (o sz : Nat) : Option AV :=
  match cs with
  | some cs => part agg cs o sz
  | none => none
theorem partOf_some (agg : Bool) (cs : List AV) (o sz : Nat) : partOf agg (some cs) o sz = part agg cs o sz := Eq.trans rfl rfl
theorem loadAt_ptr (agg : Bool) (sz b o : Nat) (L : List Blk) : loadAt L agg sz (.ptr (some (b, o))) = partOf agg (cellsAt L b) o sz := by
  have h : loadAt L agg sz (.ptr (some (b, o))) = match cellsAt L b with
    | none => none
    | some cs => if agg then (if o + sz ≤ cs.length then some (.agg ((cs.drop o).take sz)) else none) else cs[o]? := rfl
  rw [h]
  cases cellsAt L b <;> rfl
theorem part_false (cs : List AV) (o sz : Nat) : part false cs o sz = cs[o]? := Eq.trans rfl rfl
theorem part_true (cs : List AV) (o sz : Nat) : part true cs o sz = if o + sz ≤ cs.length then some (.agg ((cs.drop o).take sz)) else none := Eq.trans rfl rfl
theorem part_f0 (c : AV) (cs : List AV) (sz : Nat) : part false (c :: cs) 0 sz = some c := Eq.trans rfl rfl
theorem part_fk (c : AV) (cs : List AV) (k sz : Nat) : part false (c :: cs) (k + 1) sz = part false cs k sz := Eq.trans rfl rfl
theorem part_t0 (c : AV) (cs : List AV) (sz : Nat) : part true (c :: cs) 0 sz = if sz ≤ cs.length + 1 then some (.agg ((c :: cs).take sz)) else none := by
  rw [part_true]; simp
theorem part_tk (c : AV) (cs : List AV) (k sz : Nat) : part true (c :: cs) (k + 1) sz = part true cs k sz := by
  rw [part_true, part_true]
  have : (k + 1 + sz ≤ (c :: cs).length) ↔ (k + sz ≤ cs.length) := by simp; omega
  simp only [this, List.drop_succ_cons]

theorem cellsOf_agg (cs : List AV) : cellsOf (.agg cs) = some cs := Eq.trans rfl rfl
theorem cellsOf_int (k : IntKind) (n : Int) : cellsOf (.int k n) = some [.int k n] := Eq.trans rfl rfl
theorem cellsOf_bool (b : Bool) : cellsOf (.bool b) = some [.bool b] := Eq.trans rfl rfl
theorem cellsOf_str (s : ByteArray) : cellsOf (.str s) = some [.str s] := Eq.trans rfl rfl
theorem cellsOf_ptr (p : Option (Nat × Nat)) : cellsOf (.ptr p) = some [.ptr p] := Eq.trans rfl rfl
theorem cellsOf_slice (p : Option (Nat × Nat)) (sz n : Nat) (c : Option Nat) : cellsOf (.slice p sz n c) = some [.slice p sz n c] := Eq.trans rfl rfl
theorem cellsOf_fn (f : FuncId) (a b : List AV) : cellsOf (.fn f a b) = some [.fn f a b] := Eq.trans rfl rfl

/-! two ways that meet again -/
theorem merge_normal (c : Prop) [Decidable c] (t t' : List AV) (m : Mem) : (if c then some (Ex.normal, (⟨t, m⟩ : St)) else some (Ex.normal, ⟨t', m⟩)) = some (Ex.normal, ⟨if c then t else t', m⟩) := by split <;> rfl
theorem merge_cons (c : Prop) [Decidable c] (a b : AV) (az bs : List AV) : (if c then a :: az else b :: bs) = (if c then a else b) :: (if c then az else bs) := by split <;> rfl
theorem merge_bool (c : Prop) [Decidable c] (a b : Bool) : (if c then AV.bool a else AV.bool b) = AV.bool (if c then a else b) := by split <;> rfl
theorem merge_int (c : Prop) [Decidable c] (k : IntKind) (a b : Int) : (if c then AV.int k a else AV.int k b) = AV.int k (if c then a else b) := by split <;> rfl

/-! the end of a call -/
theorem finRun_eq (F : AFun) (m : Mem) (st : St) : finRun F m st = match resultList st.tm st.m.H F.results with
  | some vs => finish F.mode m.H.length m.esc (tupled vs) st.m
  | none => none := rfl
theorem resultList_nil (L : List Blk) : resultList tm L [] = some [] := Eq.trans rfl rfl
def consV (a : Option AV) (az : Option (List AV)) : Option (List AV) :=
  match a, az with
  | some v, some vs => some (v :: vs)
  | _, _ => none
theorem consV_some (v : AV) (vs : List AV) : consV (some v) (some vs) = some (v :: vs) := Eq.trans rfl rfl
theorem resultList_tmp (L : List Blk) (s : Nat) (rs : List AR) : resultList tm L (.tmp s :: rs) = consV (some ((tm[s]?).getD .undef)) (resultList tm L rs) := by
  rw [resultList]; cases resultList tm L rs <;> rfl
theorem resultList_cell (L : List Blk) (s : Nat) (agg : Bool) (sz : Nat) (rs : List AR) : resultList tm L (.cell s agg sz :: rs) = consV (loadAt L agg sz ((tm[s]?).getD .undef)) (resultList tm L rs) := by
  rw [resultList]; cases resultList tm L rs <;> simp only [resultOf] <;> cases loadAt L agg sz ((tm[s]?).getD .undef) <;> rfl

def finV (F : AFun) (m : Mem) (vs : Option (List AV)) (m' : Mem) : Option (AV × Mem) :=
  match vs with
  | some vs => finish F.mode m.H.length m.esc (tupled vs) m'
  | none => none
theorem finRun_finV (F : AFun) (m : Mem) (st : St) : finRun F m st = finV F m (resultList st.tm st.m.H F.results) st.m := Eq.trans rfl rfl
theorem finV_some (F : AFun) (m : Mem) (vs : List AV) (m' : Mem) : finV F m (some vs) m' = finish F.mode m.H.length m.esc (tupled vs) m' := Eq.trans rfl rfl
theorem finish_zero (v : AV) (lim : Nat) (e0 e1 : Option Nat) (L : List Blk) : finish 0 lim e0 v ⟨L, e1⟩ = some (v, ⟨L, joinEsc e0 e1⟩) := Eq.trans rfl rfl
theorem finish_one (v : AV) (e0 : Option Nat) (l : List Blk) (h : v.under H.length = true) : finish 1 H.length e0 v ⟨H ++ l, none⟩ = some (v, ⟨H, e0⟩) := by
  simp [finish, h, clean]
theorem finish_one' (v : AV) (e0 : Option Nat) (h : v.under H.length = true) : finish 1 H.length e0 v ⟨H, none⟩ = some (v, ⟨H, e0⟩) := by
  simp [finish, h, clean]
/-- a new block, named by the result -/
theorem finish_two_slice (sz n : Nat) (c : Option Nat) (cs : List AV) (wr : Bool) (e0 : Option Nat) (h : (cs.all fun c => c.under H.length) = true) :
    finish 2 H.length e0 (.slice (some (H.length, 0)) sz n c) ⟨H ++ [.cells cs wr], none⟩ = some (.slice (some (H.length, 0)) sz n c, ⟨H ++ [.cells cs wr], e0⟩) := by
  have hr : dedup (AV.roots H.length (.slice (some (H.length, 0)) sz n c)) = [H.length] := by simp [AV.roots, dedup]
  unfold finish
  simp only [hr]
  have h2 : ([H.length].all fun b => flatBlk H.length (H ++ [Blk.cells cs wr])[b]?) = true := by
    simp [flatBlk, List.getElem?_append_right]
    simpa using h
  simp only [clean, h2, and_self, if_true]
  simp [AV.rename, renum, List.getElem?_append_right]
theorem finish_two_at {G : List Blk} {j sz n o : Nat} {c : Option Nat} {cs : List AV} {wr : Bool} (e0 : Option Nat) (hG : G[j]? = some (.cells cs wr)) (h : (cs.all fun c => c.under H.length) = true) :
    finish 2 H.length e0 (.slice (some (H.length + j, o)) sz n c) ⟨H ++ G, none⟩ = some (.slice (some (H.length, o)) sz n c, ⟨H ++ [.cells cs wr], e0⟩) := by
  have hlt : ¬ H.length + j < H.length := by omega
  have hr : dedup (AV.roots H.length (.slice (some (H.length + j, o)) sz n c)) = [H.length + j] := by
    unfold AV.roots
    rw [if_neg hlt]
    rfl
  have hb : (H ++ G)[H.length + j]? = some (.cells cs wr) := by rw [List.getElem?_append_right (by omega)]; simpa using hG
  unfold finish
  simp only [hr]
  have h2 : ([H.length + j].all fun b => flatBlk H.length (H ++ G)[b]?) = true := by
    simp only [List.all_cons, List.all_nil, Bool.and_true, hb, flatBlk]
    exact h
  simp only [clean, h2, and_self, if_true]
  simp [AV.rename, renum, hb, hlt]
theorem tupled_one (v : AV) : tupled [v] = v := Eq.trans rfl rfl
theorem tupled_nil : tupled [] = .tup [] := Eq.trans rfl rfl
theorem tupled_two (a b : AV) (vs : List AV) : tupled (a :: b :: vs) = .tup (a :: b :: vs) := Eq.trans rfl rfl
theorem under_int (n : Nat) (k : IntKind) (x : Int) : (AV.int k x).under n = true := by simp [AV.under]
theorem under_bool (n : Nat) (x : Bool) : (AV.bool x).under n = true := by simp [AV.under]
theorem under_str (n : Nat) (x : ByteArray) : (AV.str x).under n = true := by simp [AV.under]
theorem under_agg (n : Nat) (x : List AV) : (AV.agg x).under n = AV.under.go n x := by simp [AV.under]
theorem under_tup (n : Nat) (x : List AV) : (AV.tup x).under n = AV.under.go n x := by simp [AV.under]
theorem under_cons (n : Nat) (a : AV) (x : List AV) : AV.under.go n (a :: x) = (a.under n && AV.under.go n x) := Eq.trans rfl rfl
theorem under_nil (n : Nat) : AV.under.go n [] = true := Eq.trans rfl rfl

theorem blkAt_new0 (l : List Blk) : (H ++ l)[H.length]? = l[0]? := by simp [List.getElem?_append_right]
theorem blkAt_newk (l : List Blk) (k : Nat) : (H ++ l)[H.length + k]? = l[k]? := by simp [List.getElem?_append_right]
theorem set_new0 (l : List Blk) (b : Blk) : (H ++ l).set H.length b = H ++ l.set 0 b := by simp [List.set_append_right]
theorem set_newk (l : List Blk) (b : Blk) (k : Nat) : (H ++ l).set (H.length + k) b = H ++ l.set k b := by simp [List.set_append_right]

/-- a store whose block and cells are told -/
def storeAt (H : List Blk) (e : Option Nat) (b : Nat) (blk : Option Blk) (sz o : Nat) (new : Option (List AV)) : Option (AV × Mem) :=
  match new, blk with
  | some new, some (Blk.cells cs true) => if new.length = sz ∧ 0 < sz ∧ o + sz ≤ cs.length then
        some (.tup [], ⟨H.set b (.cells (setRange cs o new) true), if (new.all fun v => v.under (b + 1)) then e else minEsc e b⟩) else none
  | _, _ => none
theorem storeV_ptr (L : List Blk) (sz b o : Nat) (x : AV) : storeV L e sz (.ptr (some (b, o))) x = storeAt L e b L[b]? sz o (cellsOf x) := by
  unfold storeV storeAt
  cases cellsOf x with
  | none => rfl
  | some new =>
    simp only []
    cases L[b]? with
    | none => rfl
    | some B => cases B with
      | dead => rfl
      | cells cs wr => cases wr <;> rfl
theorem storeAt_cells (L : List Blk) (b : Nat) (cs new : List AV) (sz o : Nat) : storeAt L e b (some (.cells cs true)) sz o (some new) =
    if new.length = sz ∧ 0 < sz ∧ o + sz ≤ cs.length then some (.tup [], ⟨L.set b (.cells (setRange cs o new) true), if (new.all fun v => v.under (b + 1)) then e else minEsc e b⟩) else none := Eq.trans rfl rfl
theorem setRange_0 (c : AV) (cs : List AV) (x : AV) (xs : List AV) : setRange (c :: cs) 0 (x :: xs) = x :: setRange cs 0 xs := by simp [setRange]
theorem setRange_k (c : AV) (cs : List AV) (k : Nat) (xs : List AV) : setRange (c :: cs) (k + 1) xs = c :: setRange cs k xs := by
  simp [setRange, Nat.add_right_comm]
theorem setRange_nil (cs : List AV) : setRange cs 0 [] = cs := by simp [setRange]
theorem all_cons (p : AV → Bool) (c : AV) (cs : List AV) : (c :: cs).all p = (p c && cs.all p) := rfl
theorem all_nil (p : AV → Bool) : ([] : List AV).all p = true := Eq.trans rfl rfl

theorem wrap64 {x : Int} (h1 : -9223372036854775808 ≤ x) (h2 : x ≤ 9223372036854775807) : IntKind.i64.wrap x = x := by
  have : IntKind.i64.wrap x = x := by
    unfold IntKind.wrap
    simp [IntKind.signed, IntKind.bits]
    omega
  exact this
end
attribute [go_sem] Nat.mul_one
attribute [go_sem] run_seq run_cond run_block run_region run_draw run_skip run_exit run_ret thenRun_normal thenRun_ret thenRun_exit thenRun_none thenRun_ite inBlock_normal inBlock_ret inBlock_exit inBlock_none inBlock_ite condOf_bool pickRun_some outRun_some outRun_none outRun_ite endCall_normal endCall_ret endCall_exit endCall_none endCall_ite aops_nil aops_cons aops_guard opThen_some opThen_none opThen_ite guardP_true guardP_false guardP_some guardP_ite guardThen_some guardThen_ite guardOf_true guardOf_false guardOf_tup dops_nil dops_cons dops_again dops_guard dops_guard_again toldAnew_nil toldAnew_cons toldAnew_guard memop_load get_t get_l get_c valOf_some valOf_none valOf_ite aop_mv aop_bin pickV_bool aop_pick aop_un aop_makeFunc convV_int aop_conv eqCellsV_agg aop_eqCells fieldAddrV_ptr aop_fieldAddr fieldV_agg aop_field indexAddrSV_slice aop_indexAddrS indexAddrAV_ptr aop_indexAddrA indexAV_agg aop_indexA indexSV_str aop_indexS extractV_tup aop_extract lenV_slice aop_len lenStrV_str aop_lenStr aop_lenA max2V_int aop_max2 min2V_int aop_min2 aop_build aop_load aop_alloc boxV_some aop_box buildSliceV_some aop_buildSlice aop_store callV_fn aop_call makeSliceV_int aop_makeSlice aop_append binop_add binop_sub binop_mul binop_quo binop_rem binop_eql binop_neq binop_lss binop_leq binop_gtr binop_geq binop_shl binop_shr binop_band binop_bor binop_bxor binop_bandnot binop_beql binop_bneq binop_seql binop_sneq unop_neg unop_not setOuts_nil setOuts_cons cellsAt_new0 cellsAt_newk cellsAt_cons0 cellsAt_consk partOf_some loadAt_ptr part_f0 part_fk part_t0 part_tk blkAt_new0 blkAt_newk set_new0 set_newk storeV_ptr storeAt_cells setRange_0 setRange_k setRange_nil all_cons all_nil cellsOf_agg cellsOf_int cellsOf_bool cellsOf_str cellsOf_ptr cellsOf_slice cellsOf_fn merge_normal merge_cons merge_bool merge_int resultList_nil consV_some resultList_tmp resultList_cell finRun_finV finV_some finish_zero finish_one finish_one' finish_two_slice tupled_one tupled_nil tupled_two under_int under_bool under_str under_agg under_tup under_cons under_nil List.map_cons List.map_nil List.getElem?_cons_zero List.getElem?_cons_succ List.getElem?_nil Option.getD_some Option.getD_none List.nil_append List.cons_append List.append_nil List.append_assoc List.set_cons_zero List.set_cons_succ List.length_cons List.length_nil List.length_append Nat.zero_add Nat.add_zero List.take_succ_cons List.take_zero List.drop_succ_cons List.drop_zero if_true if_false Bool.not_true Bool.not_false Bool.true_eq_false Bool.false_and Bool.and_false Bool.or_true Bool.or_false Bool.true_or Bool.false_or Nat.lt_add_one Nat.succ_pos Bool.if_false_right Bool.if_true_left Bool.if_true_right Bool.if_false_left Bool.decide_eq_true Int.toNat_natCast Int.natCast_nonneg Int.ofNat_lt ite_self Bool.true_and Bool.and_true Bool.false_eq_true Bool.not_eq_true' decide_eq_true_eq true_and and_true Option.map_some Option.map_none

end Go.Proofs.Ytlcklonakjhoiaa.Slim
