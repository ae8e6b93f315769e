/- The slim functions of this seat (printed by a program; each is checked against the program by the kernel in SlimOk). -/
import Derived.Test.YtdohjcodjjogbaaSlimQ
namespace Go.Proofs.Ytdohjcodjjogbaa.Slim
open Go
abbrev f_main_main : FuncId := 0
abbrev f_gosem_cut : FuncId := 1
abbrev f_gosem_cut_init : FuncId := 2
abbrev f_l_FnExactIsValidRecord : FuncId := 3
abbrev f_l_szLogRecord : FuncId := 4
abbrev f_s_IsValidRecord : FuncId := 5
abbrev f_l_toLogRecord : FuncId := 6
abbrev f_i_IsValidRecord : FuncId := 7
abbrev f_s_l12Record : FuncId := 8
abbrev f_i_within : FuncId := 9
abbrev f_i_isText : FuncId := 10
abbrev f_strings_Contains : FuncId := 11
abbrev f_s_l12Bytes : FuncId := 12
abbrev f_s_l1Stands : FuncId := 13
abbrev f_strings_Index : FuncId := 14
abbrev f_s_l1In : FuncId := 15
abbrev f_internal_stringslite_Index : FuncId := 16
abbrev f_internal_stringslite_IndexByte : FuncId := 17
abbrev f_internal_bytealg_IndexString : FuncId := 18
abbrev f_internal_bytealg_Cutover : FuncId := 19
abbrev f_internal_bytealg_IndexRabinKarp_string : FuncId := 20
abbrev f_internal_bytealg_IndexByteString : FuncId := 21
abbrev f_internal_bytealg_hashStr_string : FuncId := 22
abbrev f_runtime_boundsError_Error : FuncId := 23
abbrev f_runtime_boundsError_RuntimeError : FuncId := 24
abbrev f_runtime_errorString_Error : FuncId := 25
abbrev f_runtime_errorString_RuntimeError : FuncId := 26
abbrev f_runtime_plainError_Error : FuncId := 27
abbrev f_runtime_plainError_RuntimeError : FuncId := 28
abbrev f_runtime_errorAddressString_Error : FuncId := 29
abbrev f_runtime_errorAddressString_RuntimeError : FuncId := 30
abbrev f_runtime_TypeAssertionError_Error : FuncId := 31
abbrev f_runtime_TypeAssertionError_RuntimeError : FuncId := 32
abbrev f_runtime_PanicNilError_Error : FuncId := 33
abbrev f_runtime_PanicNilError_RuntimeError : FuncId := 34
abbrev f_internal_abi_Type_Align : FuncId := 35
abbrev f_internal_runtime_maps_unhashableTypeError_Error : FuncId := 36
abbrev f_internal_runtime_maps_unhashableTypeError_RuntimeError : FuncId := 37
abbrev f_internal_abi_Kind_String : FuncId := 38
def c_gosem_cut_init : ACode :=
 (.region [⟨.call (.c (.fn f_gosem_cut [] [])) [], none⟩] [])
def a_gosem_cut_init : AFun := ⟨[], 1, c_gosem_cut_init, [], 1⟩
def c_l_FnExactIsValidRecord : ACode :=
 (.seq (.region [⟨.box (.t 0), none⟩, ⟨.mv (.c (.bool false)), none⟩] [(1, 0), (2, 1)])
 (.seq (.region [⟨.mv (.c (.int .i64 (1048576))), none⟩] [(3, 0)])
 (.seq (.region [⟨.load true 2 (.t 1), none⟩, ⟨.mv (.t 3), none⟩, ⟨.call (.c (.fn f_l_szLogRecord [] [])) [(.l 0), (.l 1)], none⟩, ⟨.mv (.l 2), none⟩] [(3, 3)])
 (.seq (.seq (.region [⟨.mv (.t 3), none⟩, ⟨.bin 0 .lss (.l 0) (.c (.int .i64 (0))), none⟩] [(6, 1)])
 (.cond (.t 6) (.seq (.region [⟨.mv (.c (.bool true)), none⟩] [(2, 0)])
 .ret) .skip))
 (.seq (.region [⟨.load true 2 (.t 1), none⟩, ⟨.call (.c (.fn f_l_toLogRecord [] [])) [(.l 0)], none⟩, ⟨.call (.c (.fn f_s_IsValidRecord [] [])) [(.l 1)], none⟩, ⟨.mv (.l 2), none⟩] [(4, 3)])
 (.seq (.region [⟨.load true 2 (.t 1), none⟩, ⟨.call (.c (.fn f_l_toLogRecord [] [])) [(.l 0)], none⟩, ⟨.call (.c (.fn f_i_IsValidRecord [] [])) [(.l 1)], none⟩, ⟨.mv (.l 2), none⟩] [(5, 3)])
 (.seq (.seq (.region [⟨.mv (.t 5), none⟩, ⟨.mv (.t 4), none⟩, ⟨.bin 2 .neq (.l 0) (.l 1), none⟩] [(7, 2)])
 (.cond (.t 7) (.seq (.region [⟨.mv (.c (.bool false)), none⟩] [(2, 0)])
 .ret) .skip))
 (.seq (.region [⟨.mv (.c (.bool true)), none⟩] [(2, 0)])
 .ret))))))))
def a_l_FnExactIsValidRecord : AFun := ⟨[0, 1, 2, 3, 4, 5, 10, 19], 20, c_l_FnExactIsValidRecord, [.tmp 2], 1⟩
def c_l_szLogRecord : ACode :=
 (.seq (.region [⟨.box (.t 0), none⟩, ⟨.mv (.c (.int .i64 (0))), none⟩] [(2, 0), (3, 1)])
 (.seq (.region [⟨.mv (.t 1), none⟩, ⟨.fieldAddr 0 (.t 2), none⟩, ⟨.load false 1 (.l 1), none⟩, ⟨.lenStr (.l 2), none⟩, ⟨.bin 0 .sub (.l 0) (.l 3), none⟩, ⟨.mv (.l 4), none⟩] [(1, 5)])
 (.seq (.seq (.region [⟨.mv (.t 1), none⟩, ⟨.bin 0 .lss (.l 0) (.c (.int .i64 (0))), none⟩] [(4, 1)])
 (.cond (.t 4) (.seq (.region [⟨.mv (.c (.int .i64 (-1))), none⟩] [(3, 0)])
 .ret) .skip))
 (.seq (.region [⟨.mv (.t 1), none⟩, ⟨.fieldAddr 1 (.t 2), none⟩, ⟨.load false 1 (.l 1), none⟩, ⟨.lenStr (.l 2), none⟩, ⟨.bin 0 .sub (.l 0) (.l 3), none⟩, ⟨.mv (.l 4), none⟩] [(1, 5)])
 (.seq (.seq (.region [⟨.mv (.t 1), none⟩, ⟨.bin 0 .lss (.l 0) (.c (.int .i64 (0))), none⟩] [(5, 1)])
 (.cond (.t 5) (.seq (.region [⟨.mv (.c (.int .i64 (-1))), none⟩] [(3, 0)])
 .ret) .skip))
 (.seq (.region [⟨.mv (.t 1), none⟩, ⟨.mv (.l 0), none⟩] [(3, 1)])
 .ret))))))
def a_l_szLogRecord : AFun := ⟨[0, 1, 2, 4, 11, 18], 20, c_l_szLogRecord, [.tmp 3], 1⟩
def c_s_IsValidRecord : ACode :=
 (.seq (.region [⟨.box (.t 0), none⟩, ⟨.mv (.c (.bool false)), none⟩] [(1, 0), (2, 1)])
 (.seq (.region [⟨.load true 2 (.t 1), none⟩, ⟨.call (.c (.fn f_s_l12Record [] [])) [(.l 0)], none⟩, ⟨.mv (.l 1), none⟩] [(2, 2)])
 .ret))
def a_s_IsValidRecord : AFun := ⟨[0, 1, 2], 5, c_s_IsValidRecord, [.tmp 2], 1⟩
def c_l_toLogRecord : ACode :=
 (.seq (.region [⟨.box (.t 0), none⟩, ⟨.alloc [.str ⟨#[]⟩, .str ⟨#[]⟩], none⟩] [(1, 0), (2, 1)])
 (.seq (.region [⟨.alloc [.str ⟨#[]⟩, .str ⟨#[]⟩], none⟩] [(3, 0)])
 (.seq (.region [⟨.fieldAddr 0 (.t 1), none⟩, ⟨.load false 1 (.l 0), none⟩, ⟨.fieldAddr 0 (.t 3), none⟩, ⟨.store 1 (.l 2) (.l 1), none⟩] [])
 (.seq (.region [⟨.fieldAddr 1 (.t 1), none⟩, ⟨.load false 1 (.l 0), none⟩, ⟨.fieldAddr 1 (.t 3), none⟩, ⟨.store 1 (.l 2) (.l 1), none⟩] [])
 (.seq (.region [⟨.load true 2 (.t 3), none⟩, ⟨.store 2 (.t 2) (.l 0), none⟩] [])
 .ret)))))
def a_l_toLogRecord : AFun := ⟨[0, 1, 2, 3], 11, c_l_toLogRecord, [.cell 2 true 2], 1⟩
def c_i_IsValidRecord : ACode :=
 (.seq (.region [⟨.box (.t 0), none⟩, ⟨.mv (.c (.bool false)), none⟩] [(1, 0), (2, 1)])
 (.seq (.region [⟨.fieldAddr 0 (.t 1), none⟩, ⟨.load false 1 (.l 0), none⟩, ⟨.lenStr (.l 1), none⟩, ⟨.call (.c (.fn f_i_within [] [])) [(.l 2), (.c (.int .i64 (1))), (.c (.int .i64 (160)))], none⟩, ⟨.mv (.l 3), none⟩, ⟨.fieldAddr 1 (.t 1), some ((.l 4), true)⟩, ⟨.load false 1 (.l 5), some ((.l 4), true)⟩, ⟨.lenStr (.l 6), some ((.l 4), true)⟩, ⟨.bin 0 .leq (.l 7) (.c (.int .i64 (250))), some ((.l 4), true)⟩, ⟨.pick (.l 4) (.l 8) (.c (.bool false)), none⟩, ⟨.mv (.l 9), none⟩, ⟨.fieldAddr 0 (.t 1), some ((.l 10), true)⟩, ⟨.load false 1 (.l 11), some ((.l 10), true)⟩, ⟨.call (.c (.fn f_i_isText [] [])) [(.l 12)], some ((.l 10), true)⟩, ⟨.pick (.l 10) (.l 13) (.c (.bool false)), none⟩, ⟨.mv (.l 14), none⟩, ⟨.fieldAddr 1 (.t 1), some ((.l 15), true)⟩, ⟨.load false 1 (.l 16), some ((.l 15), true)⟩, ⟨.call (.c (.fn f_i_isText [] [])) [(.l 17)], some ((.l 15), true)⟩, ⟨.pick (.l 15) (.l 18) (.c (.bool false)), none⟩, ⟨.mv (.l 19), none⟩, ⟨.fieldAddr 0 (.t 1), some ((.l 20), true)⟩, ⟨.load false 1 (.l 21), some ((.l 20), true)⟩, ⟨.call (.c (.fn f_strings_Contains [] [])) [(.l 22), (.c (.str ⟨#[64]⟩))], some ((.l 20), true)⟩, ⟨.un .not (.l 23), some ((.l 20), true)⟩, ⟨.pick (.l 20) (.l 24) (.c (.bool false)), none⟩, ⟨.mv (.l 25), none⟩] [(2, 26)])
 .ret))
def a_i_IsValidRecord : AFun := ⟨[0, 1, 2], 29, c_i_IsValidRecord, [.tmp 2], 1⟩
def c_s_l12Record : ACode :=
 (.seq (.region [⟨.box (.t 0), none⟩, ⟨.mv (.c (.bool false)), none⟩] [(1, 0), (2, 1)])
 (.seq (.region [⟨.fieldAddr 0 (.t 1), none⟩, ⟨.load false 1 (.l 0), none⟩, ⟨.bin 1 .neq (.l 1) (.c (.str ⟨#[]⟩)), none⟩, ⟨.mv (.l 2), none⟩, ⟨.fieldAddr 0 (.t 1), some ((.l 3), true)⟩, ⟨.load false 1 (.l 4), some ((.l 3), true)⟩, ⟨.call (.c (.fn f_s_l12Bytes [] [])) [(.l 5), (.c (.int .i64 (160)))], some ((.l 3), true)⟩, ⟨.pick (.l 3) (.l 6) (.c (.bool false)), none⟩, ⟨.mv (.l 7), none⟩, ⟨.fieldAddr 0 (.t 1), some ((.l 8), true)⟩, ⟨.load false 1 (.l 9), some ((.l 8), true)⟩, ⟨.call (.c (.fn f_s_l1Stands [] [])) [(.l 10), (.c (.int .u8 (64)))], some ((.l 8), true)⟩, ⟨.un .not (.l 11), some ((.l 8), true)⟩, ⟨.pick (.l 8) (.l 12) (.c (.bool false)), none⟩, ⟨.mv (.l 13), none⟩, ⟨.fieldAddr 1 (.t 1), some ((.l 14), true)⟩, ⟨.load false 1 (.l 15), some ((.l 14), true)⟩, ⟨.call (.c (.fn f_s_l12Bytes [] [])) [(.l 16), (.c (.int .i64 (250)))], some ((.l 14), true)⟩, ⟨.pick (.l 14) (.l 17) (.c (.bool false)), none⟩, ⟨.mv (.l 18), none⟩] [(2, 19)])
 .ret))
def a_s_l12Record : AFun := ⟨[0, 1, 2], 22, c_s_l12Record, [.tmp 2], 1⟩
def c_i_within : ACode :=
 (.seq (.region [⟨.mv (.c (.bool false)), none⟩] [(3, 0)])
 (.seq (.region [⟨.mv (.t 0), none⟩, ⟨.mv (.t 1), none⟩, ⟨.bin 0 .geq (.l 0) (.l 1), none⟩, ⟨.mv (.l 2), none⟩, ⟨.mv (.t 0), some ((.l 3), true)⟩, ⟨.mv (.t 2), some ((.l 3), true)⟩, ⟨.bin 0 .leq (.l 4) (.l 5), some ((.l 3), true)⟩, ⟨.pick (.l 3) (.l 6) (.c (.bool false)), none⟩, ⟨.mv (.l 7), none⟩] [(3, 8)])
 .ret))
def a_i_within : AFun := ⟨[0, 1, 2, 6], 15, c_i_within, [.tmp 3], 1⟩
def w_i_isText_1 : ACode :=
 (.seq (.region [⟨.bin 0 .lss (.t 4) (.t 3), none⟩] [(5, 0)])
 (.seq (.cond (.t 5) .skip (.exit 0))
 (.seq (.block 1 (.seq (.region [⟨.mv (.t 4), none⟩, ⟨.mv (.l 0), none⟩] [(2, 1)])
 (.seq (.region [⟨.mv (.t 0), none⟩, ⟨.mv (.t 2), none⟩, ⟨.indexS (.l 0) (.l 1), none⟩, ⟨.bin 0 .lss (.l 2) (.c (.int .u8 (32))), none⟩, ⟨.mv (.l 3), none⟩, ⟨.mv (.t 0), some ((.l 4), false)⟩, ⟨.mv (.t 2), some ((.l 4), false)⟩, ⟨.indexS (.l 5) (.l 6), some ((.l 4), false)⟩, ⟨.bin 0 .gtr (.l 7) (.c (.int .u8 (126))), some ((.l 4), false)⟩, ⟨.pick (.l 4) (.c (.bool true)) (.l 8), none⟩, ⟨.mv (.l 9), none⟩, ⟨.mv (.t 0), some ((.l 10), false)⟩, ⟨.mv (.t 2), some ((.l 10), false)⟩, ⟨.indexS (.l 11) (.l 12), some ((.l 10), false)⟩, ⟨.bin 0 .eql (.l 13) (.c (.int .u8 (35))), some ((.l 10), false)⟩, ⟨.pick (.l 10) (.c (.bool true)) (.l 14), none⟩] [(6, 15)])
 (.cond (.t 6) (.seq (.region [⟨.mv (.c (.bool false)), none⟩] [(1, 0)])
 .ret) .skip))))
 (.region [⟨.bin 0 .add (.t 4) (.c (.int .i64 (1))), none⟩, ⟨.mv (.l 0), none⟩] [(4, 1)]))))
def c_i_isText : ACode :=
 (.seq (.region [⟨.mv (.c (.bool false)), none⟩] [(1, 0)])
 (.seq (.seq (.region [⟨.mv (.t 0), none⟩, ⟨.lenStr (.l 0), none⟩, ⟨.mv (.c (.int .i64 (0))), none⟩] [(3, 1), (4, 2)])
 (.block 0 (.loop w_i_isText_1)))
 (.seq (.region [⟨.mv (.c (.bool true)), none⟩] [(1, 0)])
 .ret)))
def a_i_isText : AFun := ⟨[0, 2, 3, 5, 6, 7, 24], 26, c_i_isText, [.tmp 1], 1⟩
-- strings_Contains: by contract
def w_s_l12Bytes_1 : ACode :=
 (.seq (.seq (.region [⟨.mv (.t 3), none⟩, ⟨.mv (.t 0), none⟩, ⟨.lenStr (.l 1), none⟩, ⟨.bin 0 .lss (.l 0) (.l 2), none⟩] [(4, 3)])
 (.cond (.t 4) .skip (.exit 0)))
 (.seq (.block 1 (.seq (.region [⟨.mv (.t 0), none⟩, ⟨.mv (.t 3), none⟩, ⟨.indexS (.l 0) (.l 1), none⟩, ⟨.conv .i64 (.l 2), none⟩, ⟨.call (.c (.fn f_s_l1In [] [])) [(.l 3), (.c (.int .i64 (32))), (.c (.int .i64 (126)))], none⟩, ⟨.un .not (.l 4), none⟩, ⟨.mv (.l 5), none⟩, ⟨.mv (.t 0), some ((.l 6), false)⟩, ⟨.mv (.t 3), some ((.l 6), false)⟩, ⟨.indexS (.l 7) (.l 8), some ((.l 6), false)⟩, ⟨.bin 0 .eql (.l 9) (.c (.int .u8 (35))), some ((.l 6), false)⟩, ⟨.pick (.l 6) (.c (.bool true)) (.l 10), none⟩] [(5, 11)])
 (.cond (.t 5) (.seq (.region [⟨.mv (.c (.bool false)), none⟩] [(2, 0)])
 .ret) .skip)))
 (.region [⟨.mv (.t 3), none⟩, ⟨.bin 0 .add (.l 0) (.c (.int .i64 (1))), none⟩, ⟨.mv (.l 1), none⟩] [(3, 2)])))
def c_s_l12Bytes : ACode :=
 (.seq (.region [⟨.mv (.c (.bool false)), none⟩] [(2, 0)])
 (.seq (.seq (.region [⟨.mv (.c (.int .i64 (0))), none⟩] [(3, 0)])
 (.block 0 (.loop w_s_l12Bytes_1)))
 (.seq (.region [⟨.mv (.t 0), none⟩, ⟨.lenStr (.l 0), none⟩, ⟨.mv (.t 1), none⟩, ⟨.bin 0 .leq (.l 1) (.l 2), none⟩, ⟨.mv (.l 3), none⟩] [(2, 4)])
 .ret)))
def a_s_l12Bytes : AFun := ⟨[0, 1, 4, 5, 9, 23], 28, c_s_l12Bytes, [.tmp 2], 1⟩
def w_s_l1Stands_1 : ACode :=
 (.seq (.seq (.region [⟨.mv (.t 3), none⟩, ⟨.mv (.t 0), none⟩, ⟨.lenStr (.l 1), none⟩, ⟨.bin 0 .lss (.l 0) (.l 2), none⟩] [(4, 3)])
 (.cond (.t 4) .skip (.exit 0)))
 (.seq (.block 1 (.seq (.region [⟨.mv (.t 0), none⟩, ⟨.mv (.t 3), none⟩, ⟨.indexS (.l 0) (.l 1), none⟩, ⟨.mv (.t 1), none⟩, ⟨.bin 0 .eql (.l 2) (.l 3), none⟩] [(5, 4)])
 (.cond (.t 5) (.seq (.region [⟨.mv (.c (.bool true)), none⟩] [(2, 0)])
 .ret) .skip)))
 (.region [⟨.mv (.t 3), none⟩, ⟨.bin 0 .add (.l 0) (.c (.int .i64 (1))), none⟩, ⟨.mv (.l 1), none⟩] [(3, 2)])))
def c_s_l1Stands : ACode :=
 (.seq (.region [⟨.mv (.c (.bool false)), none⟩] [(2, 0)])
 (.seq (.seq (.region [⟨.mv (.c (.int .i64 (0))), none⟩] [(3, 0)])
 (.block 0 (.loop w_s_l1Stands_1)))
 (.seq (.region [⟨.mv (.c (.bool false)), none⟩] [(2, 0)])
 .ret)))
def a_s_l1Stands : AFun := ⟨[0, 1, 4, 5, 9, 16], 17, c_s_l1Stands, [.tmp 2], 1⟩
def c_strings_Index : ACode :=
 (.seq (.region [⟨.mv (.c (.int .i64 (0))), none⟩] [(2, 0)])
 (.seq (.region [⟨.mv (.t 0), none⟩, ⟨.mv (.t 1), none⟩, ⟨.call (.c (.fn f_internal_stringslite_Index [] [])) [(.l 0), (.l 1)], none⟩, ⟨.mv (.l 2), none⟩] [(2, 3)])
 .ret))
def a_strings_Index : AFun := ⟨[0, 1, 4], 8, c_strings_Index, [.tmp 2], 1⟩
def c_s_l1In : ACode :=
 (.seq (.region [⟨.mv (.c (.bool false)), none⟩] [(3, 0)])
 (.seq (.region [⟨.mv (.t 0), none⟩, ⟨.mv (.t 1), none⟩, ⟨.bin 0 .geq (.l 0) (.l 1), none⟩, ⟨.mv (.l 2), none⟩, ⟨.mv (.t 0), some ((.l 3), true)⟩, ⟨.mv (.t 2), some ((.l 3), true)⟩, ⟨.bin 0 .leq (.l 4) (.l 5), some ((.l 3), true)⟩, ⟨.pick (.l 3) (.l 6) (.c (.bool false)), none⟩, ⟨.mv (.l 7), none⟩] [(3, 8)])
 .ret))
def a_s_l1In : AFun := ⟨[0, 1, 2, 6], 15, c_s_l1In, [.tmp 3], 1⟩
-- internal_stringslite_Index: not taken
def c_internal_stringslite_IndexByte : ACode :=
 (.seq (.region [⟨.mv (.c (.int .i64 (0))), none⟩] [(2, 0)])
 (.seq (.region [⟨.mv (.t 0), none⟩, ⟨.mv (.t 1), none⟩, ⟨.call (.c (.fn f_internal_bytealg_IndexByteString [] [])) [(.l 0), (.l 1)], none⟩, ⟨.mv (.l 2), none⟩] [(2, 3)])
 .ret))
def a_internal_stringslite_IndexByte : AFun := ⟨[0, 1, 4], 8, c_internal_stringslite_IndexByte, [.tmp 2], 1⟩
def c_internal_bytealg_Cutover : ACode :=
 (.seq (.region [⟨.mv (.c (.int .i64 (0))), none⟩] [(1, 0)])
 (.seq (.region [⟨.mv (.t 0), none⟩, ⟨.bin 0 .add (.l 0) (.c (.int .i64 (16))), none⟩, ⟨.bin 0 .quo (.l 1) (.c (.int .i64 (8))), none⟩, ⟨.mv (.l 2), none⟩] [(1, 3)])
 .ret))
def a_internal_bytealg_Cutover : AFun := ⟨[0, 2], 6, c_internal_bytealg_Cutover, [.tmp 1], 1⟩
def w_internal_bytealg_IndexRabinKarp_string_1 : ACode :=
 (.seq (.seq (.region [⟨.mv (.t 7), none⟩, ⟨.mv (.t 5), none⟩, ⟨.bin 0 .lss (.l 0) (.l 1), none⟩] [(9, 2)])
 (.cond (.t 9) .skip (.exit 0)))
 (.seq (.block 1 (.region [⟨.mv (.t 6), none⟩, ⟨.bin 0 .mul (.l 0) (.c (.int .u32 (16777619))), none⟩, ⟨.mv (.t 0), none⟩, ⟨.mv (.t 7), none⟩, ⟨.indexS (.l 2) (.l 3), none⟩, ⟨.conv .u32 (.l 4), none⟩, ⟨.bin 0 .add (.l 1) (.l 5), none⟩, ⟨.mv (.l 6), none⟩] [(6, 7)]))
 (.region [⟨.mv (.t 7), none⟩, ⟨.bin 0 .add (.l 0) (.c (.int .i64 (1))), none⟩, ⟨.mv (.l 1), none⟩] [(7, 2)])))
def w_internal_bytealg_IndexRabinKarp_string_2 : ACode :=
 (.seq (.seq (.region [⟨.mv (.t 8), none⟩, ⟨.mv (.t 0), none⟩, ⟨.lenStr (.l 1), none⟩, ⟨.bin 0 .lss (.l 0) (.l 2), none⟩] [(11, 3)])
 (.cond (.t 11) .skip (.exit 2)))
 (.block 3 (.seq (.region [⟨.mv (.t 6), none⟩, ⟨.bin 0 .mul (.l 0) (.c (.int .u32 (16777619))), none⟩, ⟨.mv (.l 1), none⟩] [(6, 2)])
 (.seq (.region [⟨.mv (.t 6), none⟩, ⟨.mv (.t 0), none⟩, ⟨.mv (.t 8), none⟩, ⟨.indexS (.l 1) (.l 2), none⟩, ⟨.conv .u32 (.l 3), none⟩, ⟨.bin 0 .add (.l 0) (.l 4), none⟩, ⟨.mv (.l 5), none⟩] [(6, 6)])
 (.seq (.region [⟨.mv (.t 6), none⟩, ⟨.mv (.t 4), none⟩, ⟨.mv (.t 0), none⟩, ⟨.mv (.t 8), none⟩, ⟨.mv (.t 5), none⟩, ⟨.bin 0 .sub (.l 3) (.l 4), none⟩, ⟨.indexS (.l 2) (.l 5), none⟩, ⟨.conv .u32 (.l 6), none⟩, ⟨.bin 0 .mul (.l 1) (.l 7), none⟩, ⟨.bin 0 .sub (.l 0) (.l 8), none⟩, ⟨.mv (.l 9), none⟩] [(6, 10)])
 (.seq (.region [⟨.mv (.t 8), none⟩, ⟨.bin 0 .add (.l 0) (.c (.int .i64 (1))), none⟩, ⟨.mv (.l 1), none⟩] [(8, 2)])
 (.seq (.region [⟨.mv (.t 6), none⟩, ⟨.mv (.t 3), none⟩, ⟨.bin 0 .eql (.l 0) (.l 1), none⟩, ⟨.mv (.l 2), none⟩, ⟨.mv (.t 0), some ((.l 3), true)⟩, ⟨.mv (.t 8), some ((.l 3), true)⟩, ⟨.mv (.t 5), some ((.l 3), true)⟩, ⟨.bin 0 .sub (.l 5) (.l 6), some ((.l 3), true)⟩, ⟨.mv (.t 8), some ((.l 3), true)⟩, ⟨.sliceStr (.l 4) (some (.l 7)) (some (.l 8)), some ((.l 3), true)⟩, ⟨.mv (.t 1), some ((.l 3), true)⟩, ⟨.bin 1 .eql (.l 9) (.l 10), some ((.l 3), true)⟩, ⟨.pick (.l 3) (.l 11) (.c (.bool false)), none⟩] [(12, 12)])
 (.cond (.t 12) (.seq (.region [⟨.mv (.t 8), none⟩, ⟨.mv (.t 5), none⟩, ⟨.bin 0 .sub (.l 0) (.l 1), none⟩, ⟨.mv (.l 2), none⟩] [(2, 3)])
 .ret) .skip))))))))
def c_internal_bytealg_IndexRabinKarp_string : ACode :=
 (.seq (.region [⟨.mv (.c (.int .i64 (0))), none⟩] [(2, 0)])
 (.seq (.region [⟨.mv (.t 1), none⟩, ⟨.call (.c (.fn f_internal_bytealg_hashStr_string [] [])) [(.l 0)], none⟩, ⟨.mv (.l 1), none⟩, ⟨.extract 0 (.l 2), none⟩, ⟨.extract 1 (.l 2), none⟩, ⟨.mv (.l 3), none⟩, ⟨.mv (.l 4), none⟩] [(3, 5), (4, 6)])
 (.seq (.region [⟨.mv (.t 1), none⟩, ⟨.lenStr (.l 0), none⟩, ⟨.mv (.l 1), none⟩] [(5, 2)])
 (.seq (.region [⟨.mv (.c (.int .u32 (0))), none⟩] [(6, 0)])
 (.seq (.seq (.region [⟨.mv (.c (.int .i64 (0))), none⟩] [(7, 0)])
 (.block 0 (.loop w_internal_bytealg_IndexRabinKarp_string_1)))
 (.seq (.seq (.region [⟨.mv (.t 6), none⟩, ⟨.mv (.t 3), none⟩, ⟨.bin 0 .eql (.l 0) (.l 1), none⟩, ⟨.mv (.l 2), none⟩, ⟨.mv (.t 0), some ((.l 3), true)⟩, ⟨.mv (.t 5), some ((.l 3), true)⟩, ⟨.sliceStr (.l 4) none (some (.l 5)), some ((.l 3), true)⟩, ⟨.mv (.t 1), some ((.l 3), true)⟩, ⟨.bin 1 .eql (.l 6) (.l 7), some ((.l 3), true)⟩, ⟨.pick (.l 3) (.l 8) (.c (.bool false)), none⟩] [(10, 9)])
 (.cond (.t 10) (.seq (.region [⟨.mv (.c (.int .i64 (0))), none⟩] [(2, 0)])
 .ret) .skip))
 (.seq (.seq (.region [⟨.mv (.t 5), none⟩, ⟨.mv (.l 0), none⟩] [(8, 1)])
 (.block 2 (.loop w_internal_bytealg_IndexRabinKarp_string_2)))
 (.seq (.region [⟨.mv (.c (.int .i64 (-1))), none⟩] [(2, 0)])
 .ret))))))))
def a_internal_bytealg_IndexRabinKarp_string : AFun := ⟨[0, 1, 4, 5, 6, 7, 8, 9, 10, 20, 39, 44, 77], 81, c_internal_bytealg_IndexRabinKarp_string, [.tmp 2], 1⟩
def w_internal_bytealg_hashStr_string_1 : ACode :=
 (.seq (.seq (.region [⟨.mv (.t 4), none⟩, ⟨.mv (.t 0), none⟩, ⟨.lenStr (.l 1), none⟩, ⟨.bin 0 .lss (.l 0) (.l 2), none⟩] [(8, 3)])
 (.cond (.t 8) .skip (.exit 0)))
 (.seq (.block 1 (.region [⟨.mv (.t 3), none⟩, ⟨.bin 0 .mul (.l 0) (.c (.int .u32 (16777619))), none⟩, ⟨.mv (.t 0), none⟩, ⟨.mv (.t 4), none⟩, ⟨.indexS (.l 2) (.l 3), none⟩, ⟨.conv .u32 (.l 4), none⟩, ⟨.bin 0 .add (.l 1) (.l 5), none⟩, ⟨.mv (.l 6), none⟩] [(3, 7)]))
 (.region [⟨.mv (.t 4), none⟩, ⟨.bin 0 .add (.l 0) (.c (.int .i64 (1))), none⟩, ⟨.mv (.l 1), none⟩] [(4, 2)])))
def w_internal_bytealg_hashStr_string_2 : ACode :=
 (.seq (.seq (.region [⟨.mv (.t 7), none⟩, ⟨.bin 0 .gtr (.l 0) (.c (.int .i64 (0))), none⟩] [(9, 1)])
 (.cond (.t 9) .skip (.exit 2)))
 (.seq (.block 3 (.seq (.seq (.region [⟨.mv (.t 7), none⟩, ⟨.bin 0 .and (.l 0) (.c (.int .i64 (1))), none⟩, ⟨.bin 0 .neq (.l 1) (.c (.int .i64 (0))), none⟩] [(10, 2)])
 (.cond (.t 10) (.region [⟨.mv (.t 5), none⟩, ⟨.mv (.t 6), none⟩, ⟨.bin 0 .mul (.l 0) (.l 1), none⟩, ⟨.mv (.l 2), none⟩] [(5, 3)]) .skip))
 (.region [⟨.mv (.t 6), none⟩, ⟨.mv (.t 6), none⟩, ⟨.bin 0 .mul (.l 0) (.l 1), none⟩, ⟨.mv (.l 2), none⟩] [(6, 3)])))
 (.region [⟨.mv (.t 7), none⟩, ⟨.bin 0 .shr (.l 0) (.c (.int .u64 (1))), none⟩, ⟨.mv (.l 1), none⟩] [(7, 2)])))
def c_internal_bytealg_hashStr_string : ACode :=
 (.seq (.region [⟨.mv (.c (.int .u32 (0))), none⟩, ⟨.mv (.c (.int .u32 (0))), none⟩] [(1, 0), (2, 1)])
 (.seq (.region [⟨.mv (.c (.int .u32 (0))), none⟩] [(3, 0)])
 (.seq (.seq (.region [⟨.mv (.c (.int .i64 (0))), none⟩] [(4, 0)])
 (.block 0 (.loop w_internal_bytealg_hashStr_string_1)))
 (.seq (.region [⟨.mv (.c (.int .u32 (1))), none⟩, ⟨.mv (.c (.int .u32 (16777619))), none⟩] [(5, 0), (6, 1)])
 (.seq (.seq (.region [⟨.mv (.t 0), none⟩, ⟨.lenStr (.l 0), none⟩, ⟨.mv (.l 1), none⟩] [(7, 2)])
 (.block 2 (.loop w_internal_bytealg_hashStr_string_2)))
 (.seq (.region [⟨.mv (.t 3), none⟩, ⟨.mv (.t 5), none⟩, ⟨.mv (.l 0), none⟩, ⟨.mv (.l 1), none⟩] [(1, 2), (2, 3)])
 .ret))))))
def a_internal_bytealg_hashStr_string : AFun := ⟨[0, 2, 3, 4, 5, 6, 7, 8, 12, 25, 30], 39, c_internal_bytealg_hashStr_string, [.tmp 1, .tmp 2], 1⟩
def tab : List (FuncId × AFun) :=
 [(f_gosem_cut_init, a_gosem_cut_init), (f_l_FnExactIsValidRecord, a_l_FnExactIsValidRecord), (f_l_szLogRecord, a_l_szLogRecord), (f_s_IsValidRecord, a_s_IsValidRecord), (f_l_toLogRecord, a_l_toLogRecord), (f_i_IsValidRecord, a_i_IsValidRecord), (f_s_l12Record, a_s_l12Record), (f_i_within, a_i_within), (f_i_isText, a_i_isText), (f_s_l12Bytes, a_s_l12Bytes), (f_s_l1Stands, a_s_l1Stands), (f_strings_Index, a_strings_Index), (f_s_l1In, a_s_l1In), (f_internal_stringslite_IndexByte, a_internal_stringslite_IndexByte), (f_internal_bytealg_Cutover, a_internal_bytealg_Cutover), (f_internal_bytealg_IndexRabinKarp_string, a_internal_bytealg_IndexRabinKarp_string), (f_internal_bytealg_hashStr_string, a_internal_bytealg_hashStr_string)]
def T : Table := fun f => tab.lookup f
theorem t_gosem_cut_init : T f_gosem_cut_init = some a_gosem_cut_init := rfl
theorem t_l_FnExactIsValidRecord : T f_l_FnExactIsValidRecord = some a_l_FnExactIsValidRecord := rfl
theorem t_l_szLogRecord : T f_l_szLogRecord = some a_l_szLogRecord := rfl
theorem t_s_IsValidRecord : T f_s_IsValidRecord = some a_s_IsValidRecord := rfl
theorem t_l_toLogRecord : T f_l_toLogRecord = some a_l_toLogRecord := rfl
theorem t_i_IsValidRecord : T f_i_IsValidRecord = some a_i_IsValidRecord := rfl
theorem t_s_l12Record : T f_s_l12Record = some a_s_l12Record := rfl
theorem t_i_within : T f_i_within = some a_i_within := rfl
theorem t_i_isText : T f_i_isText = some a_i_isText := rfl
theorem t_s_l12Bytes : T f_s_l12Bytes = some a_s_l12Bytes := rfl
theorem t_s_l1Stands : T f_s_l1Stands = some a_s_l1Stands := rfl
theorem t_strings_Index : T f_strings_Index = some a_strings_Index := rfl
theorem t_s_l1In : T f_s_l1In = some a_s_l1In := rfl
theorem t_internal_stringslite_IndexByte : T f_internal_stringslite_IndexByte = some a_internal_stringslite_IndexByte := rfl
theorem t_internal_bytealg_Cutover : T f_internal_bytealg_Cutover = some a_internal_bytealg_Cutover := rfl
theorem t_internal_bytealg_IndexRabinKarp_string : T f_internal_bytealg_IndexRabinKarp_string = some a_internal_bytealg_IndexRabinKarp_string := rfl
theorem t_internal_bytealg_hashStr_string : T f_internal_bytealg_hashStr_string = some a_internal_bytealg_hashStr_string := rfl
end Go.Proofs.Ytdohjcodjjogbaa.Slim
