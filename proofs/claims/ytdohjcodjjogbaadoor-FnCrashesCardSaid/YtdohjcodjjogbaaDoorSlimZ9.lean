/- The slim functions are the program's. -/
import Derived.Test.YtdohjcodjjogbaaDoorSlimZ8
import Derived.Test.YtdohjcodjjogbaaDoorChecked
/- The slim functions are the program's. -/
namespace Go.Proofs.YtdohjcodjjogbaaDoor.Slim
open Go
theorem ok_gosem_cut_init : compileFn Tryd.prog [] 1 [] Tryd.f2 = some a_gosem_cut_init := by kernel_rfl
theorem ok_l_FnExactEncodeRecord : compileFn Tryd.prog [0, 1, 3, 4, 5, 6, 7, 8, 9, 14, 36] 1 [] Tryd.f3 = some a_l_FnExactEncodeRecord := by kernel_rfl
theorem ok_l_FnExactRecoverLog : compileFn Tryd.prog [0, 2, 3, 4, 5, 6, 7, 8, 11, 37] 1 [] Tryd.f4 = some a_l_FnExactRecoverLog := by kernel_rfl
theorem ok_l_FnExactIsValidLog : compileFn Tryd.prog [0, 1, 2, 3, 4, 5, 10, 19] 1 [] Tryd.f5 = some a_l_FnExactIsValidLog := by kernel_rfl
theorem ok_l_FnExactCrashLog : compileFn Tryd.prog [0, 1, 2, 3, 6, 7, 8, 9, 10, 11, 16, 40] 1 [] Tryd.f6 = some a_l_FnExactCrashLog := by kernel_rfl
theorem ok_l_FnExactSyncLog : compileFn Tryd.prog [0, 1, 2, 3, 4, 5, 6, 7, 12, 33] 1 [] Tryd.f7 = some a_l_FnExactSyncLog := by kernel_rfl
theorem ok_l_FnExactAppendRecord : compileFn Tryd.prog [0, 1, 2, 3, 4, 5, 6, 7, 8, 9, 14, 19, 44] 1 [(8, [0, 2, 1, 3, 4, 5, 6, 7, 8, 9, 10]), (9, [0, 2, 1, 3, 4, 5, 6, 7, 8, 9, 10])] Tryd.f8 = some a_l_FnExactAppendRecord := by kernel_rfl
theorem ok_l_FnExactLogRecords : compileFn Tryd.prog [0, 1, 2, 3, 4, 5, 6, 7, 8, 9, 10, 11, 16, 37, 45, 48, 63, 68, 71] 1 [] Tryd.f9 = some a_l_FnExactLogRecords := by kernel_rfl
theorem ok_l_FnLogs : compileFn Tryd.prog [0, 2, 3, 4, 5, 6, 7, 8, 9, 10, 11, 12, 13, 14, 15, 16, 17, 18, 19, 20, 21, 22, 23, 24, 25, 27, 30, 103, 142, 154, 156] 1 [(11, [0, 2, 1, 3, 4, 5, 6, 7, 8, 9, 10, 11, 12, 13, 14, 15, 16, 18, 17, 19, 20, 21, 22, 23, 24, 25, 26, 27, 28, 29, 30, 31]), (25, [0, 1, 2, 3, 4, 5, 6, 7, 8, 9, 10, 11, 12, 13, 14, 15, 16, 17, 18, 19, 20, 21, 22, 23, 24, 25, 26, 27])] Tryd.f10 = some a_l_FnLogs := by kernel_rfl
theorem ok_l_FnCrashes : compileFn Tryd.prog [0, 2, 3, 4, 5, 6, 7, 8, 9, 10, 11, 12, 13, 14, 15, 16, 17, 18, 19, 20, 22, 25, 83, 85, 112] 1 [] Tryd.f11 = some a_l_FnCrashes := by kernel_rfl
theorem ok_l_szLogRecord : compileFn Tryd.prog [0, 1, 2, 4, 11, 18] 1 [] Tryd.f12 = some a_l_szLogRecord := by kernel_rfl
theorem ok_s_EncodeRecord : compileFn Tryd.prog [0, 1, 3, 4, 5, 13] 1 [] Tryd.f13 = some a_s_EncodeRecord := by kernel_rfl
theorem ok_l_toLogRecord : compileFn Tryd.prog [0, 1, 2, 3] 1 [] Tryd.f14 = some a_l_toLogRecord := by kernel_rfl
theorem ok_i_EncodeRecord : compileFn Tryd.prog [0, 1, 3, 4, 5, 6, 7, 15] 1 [(3, [0, 3, 4, 7, 8, 1, 2, 5, 6, 9, 10, 11, 12, 13, 14, 15])] Tryd.f15 = some a_i_EncodeRecord := by kernel_rfl
theorem ok_s_RecoverLog : compileFn Tryd.prog [0, 2, 3, 4, 5, 6, 9] 1 [] Tryd.f16 = some a_s_RecoverLog := by kernel_rfl
theorem ok_i_RecoverLog : compileFn Tryd.prog [0, 2, 3, 4, 5, 6, 7, 10, 19] 1 [] Tryd.f17 = some a_i_RecoverLog := by kernel_rfl
theorem ok_l_eqLog : compileFn Tryd.prog [0, 1, 2, 3, 4, 9, 14, 19] 1 [] Tryd.f18 = some a_l_eqLog := by kernel_rfl
theorem ok_l_szLog : compileFn Tryd.prog [0, 1, 2, 4, 11, 18] 1 [] Tryd.f19 = some a_l_szLog := by kernel_rfl
theorem ok_s_IsValidLog : compileFn Tryd.prog [0, 1, 2] 1 [] Tryd.f20 = some a_s_IsValidLog := by kernel_rfl
theorem ok_l_toLog : compileFn Tryd.prog [0, 1, 2, 3] 1 [] Tryd.f21 = some a_l_toLog := by kernel_rfl
theorem ok_i_IsValidLog : compileFn Tryd.prog [0, 1, 2, 4] 1 [] Tryd.f22 = some a_i_IsValidLog := by kernel_rfl
theorem ok_s_CrashLog : compileFn Tryd.prog [0, 1, 2, 3, 6, 7, 8, 19, 29] 1 [] Tryd.f23 = some a_s_CrashLog := by kernel_rfl
theorem ok_i_CrashLog : compileFn Tryd.prog [0, 1, 2, 3, 6, 7, 8, 19, 29] 1 [] Tryd.f24 = some a_i_CrashLog := by kernel_rfl
theorem ok_s_SyncLog : compileFn Tryd.prog [0, 1, 2, 3, 6] 1 [] Tryd.f25 = some a_s_SyncLog := by kernel_rfl
theorem ok_i_SyncLog : compileFn Tryd.prog [0, 1, 2, 3, 6] 1 [] Tryd.f26 = some a_i_SyncLog := by kernel_rfl
theorem ok_s_AppendRecord : compileFn Tryd.prog [0, 1, 2, 3, 4, 5, 13, 17] 1 [(5, [0, 1, 2, 3, 4, 5, 6, 7, 8])] Tryd.f27 = some a_s_AppendRecord := by kernel_rfl
theorem ok_i_AppendRecord : compileFn Tryd.prog [0, 1, 2, 3, 4, 5, 6, 8, 18] 1 [] Tryd.f28 = some a_i_AppendRecord := by kernel_rfl
theorem ok_s_LogRecords : compileFn Tryd.prog [0, 1, 2, 3, 4, 8] 2 [] Tryd.f29 = some a_s_LogRecords := by kernel_rfl
theorem ok_i_LogRecords : compileFn Tryd.prog [0, 1, 2, 3, 4, 5, 12] 2 [] Tryd.f30 = some a_i_LogRecords := by kernel_rfl
theorem ok_l_eqLogRecordS : compileFn Tryd.prog [0, 1, 4, 5, 10, 14, 26] 1 [(6, [0, 1, 2, 3, 4, 5, 6, 7, 8, 9])] Tryd.f31 = some a_l_eqLogRecordS := by kernel_rfl
theorem ok_l_markLogRecordS : compileFn Tryd.prog [0, 1, 4, 5, 9] 1 [] Tryd.f32 = some a_l_markLogRecordS := by kernel_rfl
theorem ok_l_heldLogRecordS : compileFn Tryd.prog [0, 1, 4, 5, 9, 19, 29] 1 [(4, [0, 1, 2, 3, 4, 5, 6, 7]), (7, [0, 1, 2, 3, 4, 5, 6, 7])] Tryd.f33 = some a_l_heldLogRecordS := by kernel_rfl
theorem ok_l_vBig : compileFn Tryd.prog [0, 2] 1 [] Tryd.f34 = some a_l_vBig := by kernel_rfl
theorem ok_s_DrawIsValidRecord : compileFn Tryd.prog [0, 2, 3] 1 [] Tryd.f35 = some a_s_DrawIsValidRecord := by kernel_rfl
theorem ok_s_DrawEncodeRecord : compileFn Tryd.prog [0, 2, 3, 4, 5] 1 [] Tryd.f36 = some a_s_DrawEncodeRecord := by kernel_rfl
theorem ok_l_vCut : compileFn Tryd.prog [0, 1, 4, 8] 2 [] Tryd.f37 = some a_l_vCut := by kernel_rfl
theorem ok_s_DrawIsValidLog : compileFn Tryd.prog [0, 2, 3] 1 [] Tryd.f38 = some a_s_DrawIsValidLog := by kernel_rfl
theorem ok_s_DrawAppendRecord : compileFn Tryd.prog [0, 2, 3, 4, 5, 6, 13, 19] 1 [(9, [0, 1, 2, 3, 4])] Tryd.f39 = some a_s_DrawAppendRecord := by kernel_rfl
theorem ok_i_IsValidRecord : compileFn Tryd.prog [0, 1, 2] 1 [] Tryd.f40 = some a_i_IsValidRecord := by kernel_rfl
theorem ok_s_IsValidRecord : compileFn Tryd.prog [0, 1, 2] 1 [] Tryd.f41 = some a_s_IsValidRecord := by kernel_rfl
theorem ok_l_vRecords : compileFn Tryd.prog [0, 1, 4, 5, 10, 14, 25] 1 [(6, [0, 1, 2, 3, 4, 5, 6, 7, 8])] Tryd.f42 = some a_l_vRecords := by kernel_rfl
theorem ok_s_DrawCrashLog : compileFn Tryd.prog [0, 2, 3, 4, 5, 6, 7] 1 [(4, [0, 1, 2, 3, 4, 5, 6])] Tryd.f43 = some a_s_DrawCrashLog := by kernel_rfl
theorem ok_s_DrawRecoverLog : compileFn Tryd.prog [0, 2, 3, 4, 5, 17, 18, 23, 32, 42] 1 [] Tryd.f44 = some a_s_DrawRecoverLog := by kernel_rfl
theorem ok_s_l1In : compileFn Tryd.prog [0, 1, 2, 6] 1 [] Tryd.f45 = some a_s_l1In := by kernel_rfl
theorem ok_s_l12Record : compileFn Tryd.prog [0, 1, 2] 1 [] Tryd.f46 = some a_s_l12Record := by kernel_rfl
theorem ok_s_l12Line : compileFn Tryd.prog [0, 1, 3, 4] 1 [(1, [0, 3, 4, 7, 8, 1, 2, 5, 6, 9, 10, 11, 12])] Tryd.f47 = some a_s_l12Line := by kernel_rfl
theorem ok_i_within : compileFn Tryd.prog [0, 1, 2, 6] 1 [] Tryd.f48 = some a_i_within := by kernel_rfl
theorem ok_i_AppendChecksum : compileFn Tryd.prog [0, 2, 3, 4, 5, 6, 27] 1 [] Tryd.f49 = some a_i_AppendChecksum := by kernel_rfl
theorem ok_s_l12Open : compileFn Tryd.prog [0, 2, 3, 4, 5, 6, 7, 8, 18, 38] 2 [] Tryd.f51 = some a_s_l12Open := by kernel_rfl
theorem ok_i_recoverRecords : compileFn Tryd.prog [0, 2, 3, 4, 5, 6, 7, 9, 10, 11, 16, 37] 2 [] Tryd.f52 = some a_i_recoverRecords := by kernel_rfl
theorem ok_s_l12Valid : compileFn Tryd.prog [0, 1, 2, 3, 4, 6, 14] 1 [] Tryd.f53 = some a_s_l12Valid := by kernel_rfl
theorem ok_i_logRecords : compileFn Tryd.prog [0, 1, 2, 3, 4, 5, 6, 14] 2 [(6, [0, 1, 2, 3, 4, 5, 6, 7, 8, 9, 10, 11, 12, 13, 14, 15, 16, 17, 18, 19, 20, 21, 22, 23, 24, 25])] Tryd.f54 = some a_i_logRecords := by kernel_rfl
theorem ok_l_eqLogRecord : compileFn Tryd.prog [0, 1, 2, 3, 4, 9, 14] 1 [] Tryd.f55 = some a_l_eqLogRecord := by kernel_rfl
theorem ok_l_markText : compileFn Tryd.prog [0, 2, 3, 5, 7] 1 [] Tryd.f56 = some a_l_markText := by kernel_rfl
theorem ok_s_l1Cur_logRecord : compileFn Tryd.prog [0, 2, 3, 12, 13, 21] 1 [] Tryd.f57 = some a_s_l1Cur_logRecord := by kernel_rfl
theorem ok_s_l1Cur_among : compileFn Tryd.prog [0, 1, 4] 1 [] Tryd.f58 = some a_s_l1Cur_among := by kernel_rfl
theorem ok_s_l1Cur_anyLog : compileFn Tryd.prog [0, 2, 3, 7, 8, 14, 21] 1 [] Tryd.f59 = some a_s_l1Cur_anyLog := by kernel_rfl
theorem ok_s_l1Cur_one : compileFn Tryd.prog [0, 1, 4] 1 [] Tryd.f60 = some a_s_l1Cur_one := by kernel_rfl
theorem ok_s_l1Cur_pick : compileFn Tryd.prog [0, 1, 4, 5, 7, 11] 1 [] Tryd.f61 = some a_s_l1Cur_pick := by kernel_rfl
theorem ok_i_isText : compileFn Tryd.prog [0, 2, 3, 5, 6, 7, 24] 1 [] Tryd.f62 = some a_i_isText := by kernel_rfl
theorem ok_s_l1Cur_log12 : compileFn Tryd.prog [0, 2, 3, 4, 9, 20] 1 [(5, [0, 1, 2, 3, 4, 5, 6, 7])] Tryd.f64 = some a_s_l1Cur_log12 := by kernel_rfl
theorem ok_s_l1Cur_spoilt : compileFn Tryd.prog [0, 1, 2, 6, 7, 8, 10, 25, 26, 37] 1 [(7, [0, 1, 2, 3, 4, 5, 6, 7, 8, 9]), (9, [0, 1, 2, 3, 4, 5, 6, 7, 8, 9, 10]), (10, [0, 1, 2, 3, 4, 5, 6, 7, 8])] Tryd.f65 = some a_s_l1Cur_spoilt := by kernel_rfl
theorem ok_s_l12Bytes : compileFn Tryd.prog [0, 1, 4, 5, 9, 23] 1 [] Tryd.f66 = some a_s_l12Bytes := by kernel_rfl
theorem ok_s_l1Stands : compileFn Tryd.prog [0, 1, 4, 5, 9, 16] 1 [] Tryd.f67 = some a_s_l1Stands := by kernel_rfl
theorem ok_s_l1Seal : compileFn Tryd.prog [0, 2] 1 [] Tryd.f68 = some a_s_l1Seal := by kernel_rfl
theorem ok_s_l1Num : compileFn Tryd.prog [0, 2, 4, 10] 1 [(5, [0, 1, 3, 4, 5, 6, 7, 8, 2, 9, 10])] Tryd.f69 = some a_s_l1Num := by kernel_rfl
theorem ok_i_Checksum : compileFn Tryd.prog [0, 2, 3, 4, 5, 8, 10, 11, 12] 1 [] Tryd.f70 = some a_i_Checksum := by kernel_rfl
theorem ok_internal_strconv_Itoa : compileFn Tryd.prog [0, 2] 1 [] Tryd.f71 = some a_internal_strconv_Itoa := by kernel_rfl
theorem ok_s_l1Split : compileFn Tryd.prog [0, 1, 4, 5, 6, 7, 12, 19] 2 [] Tryd.f72 = some a_s_l1Split := by kernel_rfl
theorem ok_s_l12Decode : compileFn Tryd.prog [0, 1, 4, 5, 6, 7, 8, 9, 10, 30, 44] 1 [(10, [0, 1, 2, 3, 4, 5, 7, 8, 6, 9, 10, 11, 12])] Tryd.f73 = some a_s_l12Decode := by kernel_rfl
theorem ok_strings_Cut : compileFn Tryd.prog [0, 1, 4, 5, 6] 1 [] Tryd.f74 = some a_strings_Cut := by kernel_rfl
theorem ok_i_decode : compileFn Tryd.prog [0, 1, 4, 5, 6, 7, 9, 11, 12, 14, 15, 16] 1 [] Tryd.f75 = some a_i_decode := by kernel_rfl
theorem ok_slices_Contains_Sint_int : compileFn Tryd.prog [0, 1, 4] 1 [] Tryd.f76 = some a_slices_Contains_Sint_int := by kernel_rfl
theorem ok_s_l1Cur_of : compileFn Tryd.prog [0, 1, 4] 1 [] Tryd.f77 = some a_s_l1Cur_of := by kernel_rfl
theorem ok_s_l1Cur_next : compileFn Tryd.prog [0, 2, 3, 13, 53] 1 [(2, [0, 1, 2, 3, 4, 5, 6, 7, 8, 9]), (3, [0, 1, 2, 3, 4, 5, 6, 7, 8, 9, 10, 11]), (6, [0, 1, 2, 3, 4, 5, 6, 7, 8, 9])] Tryd.f78 = some a_s_l1Cur_next := by kernel_rfl
theorem ok_strings_Index : compileFn Tryd.prog [0, 1, 4] 1 [] Tryd.f79 = some a_strings_Index := by kernel_rfl
theorem ok_s_l1Sum : compileFn Tryd.prog [0, 2, 3, 4, 8] 1 [] Tryd.f80 = some a_s_l1Sum := by kernel_rfl
theorem ok_internal_strconv_FormatInt : compileFn Tryd.prog [0, 1, 4, 5, 6, 7, 9, 11, 17, 23, 34] 1 [] Tryd.f81 = some a_internal_strconv_FormatInt := by kernel_rfl
theorem ok_internal_stringslite_Cut : compileFn Tryd.prog [0, 1, 4, 5, 6, 7, 12] 1 [(3, [0, 1, 2, 3, 4, 5, 6, 7, 8, 9, 10, 11])] Tryd.f82 = some a_internal_stringslite_Cut := by kernel_rfl
theorem ok_i_VerifyChecksum : compileFn Tryd.prog [0, 2, 3, 4, 7, 8, 26] 1 [] Tryd.f83 = some a_i_VerifyChecksum := by kernel_rfl
theorem ok_slices_Index_Sint_int : compileFn Tryd.prog [0, 1, 4, 5, 7, 8, 9, 16] 1 [] Tryd.f84 = some a_slices_Index_Sint_int := by kernel_rfl
theorem ok_internal_strconv_small : compileFn Tryd.prog [0, 2, 4] 1 [] Tryd.f86 = some a_internal_strconv_small := by kernel_rfl
theorem ok_internal_strconv_formatBase10 : compileFn Tryd.prog [0, 1, 4, 5, 6, 7, 8, 9, 10, 11, 12, 13, 14, 15, 16, 20, 99, 139, 161] 1 [(7, [0, 1, 2, 3, 4, 5, 6, 7, 8, 9, 10, 11, 12, 13, 14]), (8, [0, 1, 2, 3, 4, 5, 6, 7, 8, 9, 10, 11, 12, 13, 14]), (9, [0, 1, 2, 3, 4, 5, 6, 7, 8, 9, 10, 11, 12, 13, 14]), (10, [0, 1, 2, 3, 4, 5, 6, 7, 8, 9, 10, 11, 12, 13, 14]), (17, [0, 1, 2, 3, 4, 5, 6, 7, 8, 9, 10, 11, 12, 13, 14]), (18, [0, 1, 2, 3, 4, 5, 6, 7, 8, 9, 10, 11, 12, 13, 14]), (23, [0, 1, 2, 3, 4, 5, 6, 7, 8, 9, 10, 11, 12, 13, 14])] Tryd.f88 = some a_internal_strconv_formatBase10 := by kernel_rfl
theorem ok_internal_stringslite_IndexByte : compileFn Tryd.prog [0, 1, 4] 1 [] Tryd.f90 = some a_internal_stringslite_IndexByte := by kernel_rfl
theorem ok_internal_bytealg_Cutover : compileFn Tryd.prog [0, 2] 1 [] Tryd.f92 = some a_internal_bytealg_Cutover := by kernel_rfl
theorem ok_internal_bytealg_IndexRabinKarp_string : compileFn Tryd.prog [0, 1, 4, 5, 6, 7, 8, 9, 10, 20, 39, 44, 77] 1 [] Tryd.f93 = some a_internal_bytealg_IndexRabinKarp_string := by kernel_rfl
theorem ok_internal_strconv_log10Pow2 : compileFn Tryd.prog [0, 2] 1 [] Tryd.f94 = some a_internal_strconv_log10Pow2 := by kernel_rfl
theorem ok_math_bits_Len64 : compileFn Tryd.prog [0, 2, 4, 8, 14] 1 [] Tryd.f95 = some a_math_bits_Len64 := by kernel_rfl
theorem ok_internal_strconv_bool2_int : compileFn Tryd.prog [0, 2, 3] 1 [] Tryd.f96 = some a_internal_strconv_bool2_int := by kernel_rfl
theorem ok_internal_strconv_isPowerOfTwo : compileFn Tryd.prog [0, 2] 1 [] Tryd.f97 = some a_internal_strconv_isPowerOfTwo := by kernel_rfl
theorem ok_math_bits_TrailingZeros : compileFn Tryd.prog [0, 2] 1 [] Tryd.f98 = some a_math_bits_TrailingZeros := by kernel_rfl
theorem ok_internal_bytealg_hashStr_string : compileFn Tryd.prog [0, 2, 3, 4, 5, 6, 7, 8, 12, 25, 30] 1 [] Tryd.f100 = some a_internal_bytealg_hashStr_string := by kernel_rfl
theorem tabOk : TableOk Tryd.prog T := tableOk_of (by
  unfold tab
  exact allCons ⟨_, _, _, _, Tryd.func2, ok_gosem_cut_init⟩ <|
    allCons ⟨_, _, _, _, Tryd.func3, ok_l_FnExactEncodeRecord⟩ <|
    allCons ⟨_, _, _, _, Tryd.func4, ok_l_FnExactRecoverLog⟩ <|
    allCons ⟨_, _, _, _, Tryd.func5, ok_l_FnExactIsValidLog⟩ <|
    allCons ⟨_, _, _, _, Tryd.func6, ok_l_FnExactCrashLog⟩ <|
    allCons ⟨_, _, _, _, Tryd.func7, ok_l_FnExactSyncLog⟩ <|
    allCons ⟨_, _, _, _, Tryd.func8, ok_l_FnExactAppendRecord⟩ <|
    allCons ⟨_, _, _, _, Tryd.func9, ok_l_FnExactLogRecords⟩ <|
    allCons ⟨_, _, _, _, Tryd.func10, ok_l_FnLogs⟩ <|
    allCons ⟨_, _, _, _, Tryd.func11, ok_l_FnCrashes⟩ <|
    allCons ⟨_, _, _, _, Tryd.func12, ok_l_szLogRecord⟩ <|
    allCons ⟨_, _, _, _, Tryd.func13, ok_s_EncodeRecord⟩ <|
    allCons ⟨_, _, _, _, Tryd.func14, ok_l_toLogRecord⟩ <|
    allCons ⟨_, _, _, _, Tryd.func15, ok_i_EncodeRecord⟩ <|
    allCons ⟨_, _, _, _, Tryd.func16, ok_s_RecoverLog⟩ <|
    allCons ⟨_, _, _, _, Tryd.func17, ok_i_RecoverLog⟩ <|
    allCons ⟨_, _, _, _, Tryd.func18, ok_l_eqLog⟩ <|
    allCons ⟨_, _, _, _, Tryd.func19, ok_l_szLog⟩ <|
    allCons ⟨_, _, _, _, Tryd.func20, ok_s_IsValidLog⟩ <|
    allCons ⟨_, _, _, _, Tryd.func21, ok_l_toLog⟩ <|
    allCons ⟨_, _, _, _, Tryd.func22, ok_i_IsValidLog⟩ <|
    allCons ⟨_, _, _, _, Tryd.func23, ok_s_CrashLog⟩ <|
    allCons ⟨_, _, _, _, Tryd.func24, ok_i_CrashLog⟩ <|
    allCons ⟨_, _, _, _, Tryd.func25, ok_s_SyncLog⟩ <|
    allCons ⟨_, _, _, _, Tryd.func26, ok_i_SyncLog⟩ <|
    allCons ⟨_, _, _, _, Tryd.func27, ok_s_AppendRecord⟩ <|
    allCons ⟨_, _, _, _, Tryd.func28, ok_i_AppendRecord⟩ <|
    allCons ⟨_, _, _, _, Tryd.func29, ok_s_LogRecords⟩ <|
    allCons ⟨_, _, _, _, Tryd.func30, ok_i_LogRecords⟩ <|
    allCons ⟨_, _, _, _, Tryd.func31, ok_l_eqLogRecordS⟩ <|
    allCons ⟨_, _, _, _, Tryd.func32, ok_l_markLogRecordS⟩ <|
    allCons ⟨_, _, _, _, Tryd.func33, ok_l_heldLogRecordS⟩ <|
    allCons ⟨_, _, _, _, Tryd.func34, ok_l_vBig⟩ <|
    allCons ⟨_, _, _, _, Tryd.func35, ok_s_DrawIsValidRecord⟩ <|
    allCons ⟨_, _, _, _, Tryd.func36, ok_s_DrawEncodeRecord⟩ <|
    allCons ⟨_, _, _, _, Tryd.func37, ok_l_vCut⟩ <|
    allCons ⟨_, _, _, _, Tryd.func38, ok_s_DrawIsValidLog⟩ <|
    allCons ⟨_, _, _, _, Tryd.func39, ok_s_DrawAppendRecord⟩ <|
    allCons ⟨_, _, _, _, Tryd.func40, ok_i_IsValidRecord⟩ <|
    allCons ⟨_, _, _, _, Tryd.func41, ok_s_IsValidRecord⟩ <|
    allCons ⟨_, _, _, _, Tryd.func42, ok_l_vRecords⟩ <|
    allCons ⟨_, _, _, _, Tryd.func43, ok_s_DrawCrashLog⟩ <|
    allCons ⟨_, _, _, _, Tryd.func44, ok_s_DrawRecoverLog⟩ <|
    allCons ⟨_, _, _, _, Tryd.func45, ok_s_l1In⟩ <|
    allCons ⟨_, _, _, _, Tryd.func46, ok_s_l12Record⟩ <|
    allCons ⟨_, _, _, _, Tryd.func47, ok_s_l12Line⟩ <|
    allCons ⟨_, _, _, _, Tryd.func48, ok_i_within⟩ <|
    allCons ⟨_, _, _, _, Tryd.func49, ok_i_AppendChecksum⟩ <|
    allCons ⟨_, _, _, _, Tryd.func51, ok_s_l12Open⟩ <|
    allCons ⟨_, _, _, _, Tryd.func52, ok_i_recoverRecords⟩ <|
    allCons ⟨_, _, _, _, Tryd.func53, ok_s_l12Valid⟩ <|
    allCons ⟨_, _, _, _, Tryd.func54, ok_i_logRecords⟩ <|
    allCons ⟨_, _, _, _, Tryd.func55, ok_l_eqLogRecord⟩ <|
    allCons ⟨_, _, _, _, Tryd.func56, ok_l_markText⟩ <|
    allCons ⟨_, _, _, _, Tryd.func57, ok_s_l1Cur_logRecord⟩ <|
    allCons ⟨_, _, _, _, Tryd.func58, ok_s_l1Cur_among⟩ <|
    allCons ⟨_, _, _, _, Tryd.func59, ok_s_l1Cur_anyLog⟩ <|
    allCons ⟨_, _, _, _, Tryd.func60, ok_s_l1Cur_one⟩ <|
    allCons ⟨_, _, _, _, Tryd.func61, ok_s_l1Cur_pick⟩ <|
    allCons ⟨_, _, _, _, Tryd.func62, ok_i_isText⟩ <|
    allCons ⟨_, _, _, _, Tryd.func64, ok_s_l1Cur_log12⟩ <|
    allCons ⟨_, _, _, _, Tryd.func65, ok_s_l1Cur_spoilt⟩ <|
    allCons ⟨_, _, _, _, Tryd.func66, ok_s_l12Bytes⟩ <|
    allCons ⟨_, _, _, _, Tryd.func67, ok_s_l1Stands⟩ <|
    allCons ⟨_, _, _, _, Tryd.func68, ok_s_l1Seal⟩ <|
    allCons ⟨_, _, _, _, Tryd.func69, ok_s_l1Num⟩ <|
    allCons ⟨_, _, _, _, Tryd.func70, ok_i_Checksum⟩ <|
    allCons ⟨_, _, _, _, Tryd.func71, ok_internal_strconv_Itoa⟩ <|
    allCons ⟨_, _, _, _, Tryd.func72, ok_s_l1Split⟩ <|
    allCons ⟨_, _, _, _, Tryd.func73, ok_s_l12Decode⟩ <|
    allCons ⟨_, _, _, _, Tryd.func74, ok_strings_Cut⟩ <|
    allCons ⟨_, _, _, _, Tryd.func75, ok_i_decode⟩ <|
    allCons ⟨_, _, _, _, Tryd.func76, ok_slices_Contains_Sint_int⟩ <|
    allCons ⟨_, _, _, _, Tryd.func77, ok_s_l1Cur_of⟩ <|
    allCons ⟨_, _, _, _, Tryd.func78, ok_s_l1Cur_next⟩ <|
    allCons ⟨_, _, _, _, Tryd.func79, ok_strings_Index⟩ <|
    allCons ⟨_, _, _, _, Tryd.func80, ok_s_l1Sum⟩ <|
    allCons ⟨_, _, _, _, Tryd.func81, ok_internal_strconv_FormatInt⟩ <|
    allCons ⟨_, _, _, _, Tryd.func82, ok_internal_stringslite_Cut⟩ <|
    allCons ⟨_, _, _, _, Tryd.func83, ok_i_VerifyChecksum⟩ <|
    allCons ⟨_, _, _, _, Tryd.func84, ok_slices_Index_Sint_int⟩ <|
    allCons ⟨_, _, _, _, Tryd.func86, ok_internal_strconv_small⟩ <|
    allCons ⟨_, _, _, _, Tryd.func88, ok_internal_strconv_formatBase10⟩ <|
    allCons ⟨_, _, _, _, Tryd.func90, ok_internal_stringslite_IndexByte⟩ <|
    allCons ⟨_, _, _, _, Tryd.func92, ok_internal_bytealg_Cutover⟩ <|
    allCons ⟨_, _, _, _, Tryd.func93, ok_internal_bytealg_IndexRabinKarp_string⟩ <|
    allCons ⟨_, _, _, _, Tryd.func94, ok_internal_strconv_log10Pow2⟩ <|
    allCons ⟨_, _, _, _, Tryd.func95, ok_math_bits_Len64⟩ <|
    allCons ⟨_, _, _, _, Tryd.func96, ok_internal_strconv_bool2_int⟩ <|
    allCons ⟨_, _, _, _, Tryd.func97, ok_internal_strconv_isPowerOfTwo⟩ <|
    allCons ⟨_, _, _, _, Tryd.func98, ok_math_bits_TrailingZeros⟩ <|
    allCons ⟨_, _, _, _, Tryd.func100, ok_internal_bytealg_hashStr_string⟩ <|
    allNil)
end Go.Proofs.YtdohjcodjjogbaaDoor.Slim

/- The slim machine: the rules by which simp walks. -/
namespace Go.Proofs.YtdohjcodjjogbaaDoor.Slim
open Go
set_option linter.unusedVariables false
set_option linter.unusedSimpArgs false

section
variable {C : FuncId → List AV → Mem → Option (AV × Mem)} {tm loc : List AV} {m : Mem} {g : X → AV} {H : List Blk} {e : Option Nat}

theorem aops_nil : aops C tm [] loc m = some (loc, m) := Eq.trans rfl rfl

def opThen {β : Type} (r : Option (AV × Mem)) (f : AV → Mem → Option β) : Option β :=
  match r with
  | some (v, m) => f v m
  | none => none
theorem opThen_some {β : Type} (v : AV) (m : Mem) (f : AV → Mem → Option β) : opThen (some (v, m)) f = f v m := Eq.trans rfl rfl
theorem opThen_none {β : Type} (f : AV → Mem → Option β) : opThen none f = none := Eq.trans rfl rfl
theorem opThen_ite {β : Type} (c : Prop) [Decidable c] (a b : Option (AV × Mem)) (f : AV → Mem → Option β) : opThen (if c then a else b) f = if c then opThen a f else opThen b f := by split <;> rfl
@[congr] theorem opThen_congr {β : Type} {r r' : Option (AV × Mem)} {f : AV → Mem → Option β} (h : r = r') : opThen r f = opThen r' f := by rw [h]

/-- an operation with a guard -/
def guardP {β : Type} (p : Prop) [Decidable p] (r : Option (AV × Mem)) (m : Mem) (f : AV → Mem → Option β) : Option β := if p then opThen r f else f (.tup []) m
def guardThen {β : Type} (c : Option Bool) (r : Option (AV × Mem)) (m : Mem) (f : AV → Mem → Option β) : Option β :=
  match c with
  | none => none
  | some c => guardP (c = true) r m f
theorem guardThen_some {β : Type} (c : Bool) (r : Option (AV × Mem)) (m : Mem) (f : AV → Mem → Option β) : guardThen (some c) r m f = guardP (c = true) r m f := Eq.trans rfl rfl
theorem guardThen_ite {β : Type} (p : Prop) [Decidable p] (a b : Option Bool) (r : Option (AV × Mem)) (m : Mem) (f : AV → Mem → Option β) :
    guardThen (if p then a else b) r m f = if p then guardThen a r m f else guardThen b r m f := by split <;> rfl
theorem guardP_true {β : Type} (r : Option (AV × Mem)) (m : Mem) (f : AV → Mem → Option β) : guardP True r m f = opThen r f := by simp [guardP]
theorem guardP_false {β : Type} (r : Option (AV × Mem)) (m : Mem) (f : AV → Mem → Option β) : guardP False r m f = f (.tup []) m := by simp [guardP]
theorem guardP_some {β : Type} (p : Prop) [Decidable p] (v : AV) (m : Mem) (f : AV → Mem → Option β) : guardP p (some (v, m)) m f = f (if p then v else .tup []) m := by
  by_cases h : p <;> simp [guardP, h, opThen]
theorem guardP_ite {β : Type} (p : Prop) [Decidable p] (q : Prop) [Decidable q] (v : AV) (m : Mem) (f : AV → Mem → Option β) :
    guardP p (if q then some (v, m) else none) m f = if p → q then f (if p then v else .tup []) m else none := by
  by_cases h : p <;> by_cases h2 : q <;> simp [guardP, opThen, h, h2]
@[congr] theorem guardP_congr {β : Type} {p q : Prop} {s : Decidable p} [Decidable q] {r r' : Option (AV × Mem)} {m : Mem} {f : AV → Mem → Option β} (h : p = q) (h2 : q → r = r') : guardP p r m f = guardP q r' m f := by
  subst h
  unfold guardP
  by_cases hp : p
  · rw [if_pos hp, if_pos hp, h2 hp]
  · rw [if_neg hp, if_neg hp]
@[congr] theorem guardThen_congr {β : Type} {c c' : Option Bool} {r : Option (AV × Mem)} {m : Mem} {f : AV → Mem → Option β} (h : c = c') : guardThen c r m f = guardThen c' r m f := by rw [h]

/-- what a guard says -/
def guardOf (v : AV) (b : Bool) : Option Bool :=
  match v with
  | .bool c => some (c == b)
  | .tup [] => some false
  | _ => none
theorem guardOf_true (c : Bool) : guardOf (.bool c) true = some c := by cases c <;> rfl
theorem guardOf_false (c : Bool) : guardOf (.bool c) false = some (!c) := by cases c <;> rfl
theorem guardOf_tup (b : Bool) : guardOf (.tup []) b = some false := Eq.trans rfl rfl
theorem guardOf_ite (c : Prop) [Decidable c] (x y : AV) (b : Bool) : guardOf (if c then x else y) b = if c then guardOf x b else guardOf y b := by split <;> rfl

theorem aops_cons (op : AO) (rest : List AOper) : aops C tm (⟨op, none⟩ :: rest) loc m = opThen (aop C (get tm loc) m op) fun v m' => aops C tm rest (loc ++ [v]) m' := by
  rw [aops]
  simp only [wanted]
  cases aop C (get tm loc) m op <;> rfl

theorem aops_guard (op : AO) (x : X) (b : Bool) (rest : List AOper) :
    aops C tm (⟨op, some (x, b)⟩ :: rest) loc m = guardThen (guardOf (get tm loc x) b) (aop C (get tm loc) m op) m fun v m' => aops C tm rest (loc ++ [v]) m' := by
  rw [aops]
  have h : wanted (get tm loc) (some (x, b)) = guardOf (get tm loc x) b := rfl
  rw [h]
  cases guardOf (get tm loc x) b with
  | none => rfl
  | some c => cases c with
    | false => rfl
    | true => simp only [guardThen, guardP, if_true]; cases aop C (get tm loc) m op <;> rfl

theorem dops_nil : dops C tm [] loc m = some (loc, m) := Eq.trans rfl rfl

theorem dops_cons (op : AO) (rest : List DE) : dops C tm (⟨op, none, []⟩ :: rest) loc m = opThen (aop C (get tm loc) m op) fun v m' => dops C tm rest (loc ++ [v]) m' := by
  rw [dops]
  simp only [wanted]
  cases aop C (get tm loc) m op <;> simp [opThen, toldAnew]

theorem dops_again (op : AO) (q : Nat × AOper) (qs : List (Nat × AOper)) (rest : List DE) : dops C tm (⟨op, none, q :: qs⟩ :: rest) loc m =
    opThen (aop C (get tm loc) m op) fun v m' => if toldAnew (get tm (loc ++ [v])) loc m'.H (q :: qs) = true then dops C tm rest (loc ++ [v]) m' else none := by
  rw [dops]
  simp only [wanted]
  cases aop C (get tm loc) m op <;> simp [opThen]

theorem dops_guard (op : AO) (x : X) (b : Bool) (rest : List DE) :
    dops C tm (⟨op, some (x, b), []⟩ :: rest) loc m = guardThen (guardOf (get tm loc x) b) (aop C (get tm loc) m op) m fun v m' => dops C tm rest (loc ++ [v]) m' := by
  rw [dops]
  have h : wanted (get tm loc) (some (x, b)) = guardOf (get tm loc x) b := rfl
  rw [h]
  cases guardOf (get tm loc x) b with
  | none => rfl
  | some c => cases c with
    | false => simp [guardThen, guardP, toldAnew]
    | true => simp only [guardThen, guardP, if_true]; cases aop C (get tm loc) m op <;> simp [opThen, toldAnew]

theorem dops_guard_again (op : AO) (x : X) (b : Bool) (q : Nat × AOper) (qs : List (Nat × AOper)) (rest : List DE) :
    dops C tm (⟨op, some (x, b), q :: qs⟩ :: rest) loc m = guardThen (guardOf (get tm loc x) b) (aop C (get tm loc) m op) m fun v m' =>
      if toldAnew (get tm (loc ++ [v])) loc m'.H (q :: qs) = true then dops C tm rest (loc ++ [v]) m' else none := by
  rw [dops]
  have h : wanted (get tm loc) (some (x, b)) = guardOf (get tm loc x) b := rfl
  rw [h]
  cases guardOf (get tm loc x) b with
  | none => rfl
  | some c => cases c with
    | false => rfl
    | true => simp only [guardThen, guardP, if_true]; cases aop C (get tm loc) m op <;> rfl

theorem toldAnew_nil (L : List Blk) : toldAnew g loc L [] = true := Eq.trans rfl rfl
theorem toldAnew_cons (L : List Blk) (j : Nat) (op : AO) (qs : List (Nat × AOper)) : (toldAnew g loc L ((j, ⟨op, none⟩) :: qs) = true) ↔ (memop g L op = some ((loc[j]?).getD .undef) ∧ toldAnew g loc L qs = true) := by
  simp [toldAnew, wanted]
theorem toldAnew_guard (L : List Blk) (j : Nat) (op : AO) (x : X) (b : Bool) (qs : List (Nat × AOper)) : (toldAnew g loc L ((j, ⟨op, some (x, b)⟩) :: qs) = true) ↔ ((guardOf (g x) b = some false ∨ memop g L op = some ((loc[j]?).getD .undef)) ∧ toldAnew g loc L qs = true) := by
  simp only [toldAnew, Bool.and_eq_true, Bool.or_eq_true, decide_eq_true_eq]
  rfl
theorem memop_load (L : List Blk) (a : Bool) (sz : Nat) (x : X) : memop g L (.load a sz x) = loadAt L a sz (g x) := Eq.trans rfl rfl

theorem get_t (s : Nat) : get tm loc (.t s) = (tm[s]?).getD .undef := Eq.trans rfl rfl
theorem get_l (s : Nat) : get tm loc (.l s) = (loc[s]?).getD .undef := Eq.trans rfl rfl
theorem get_c (v : AV) : get tm loc (.c v) = v := Eq.trans rfl rfl

/-- a value, memory being as it was -/
def valOf (m : Mem) (r : Option AV) : Option (AV × Mem) :=
  match r with
  | some v => some (v, m)
  | none => none
theorem valOf_some (v : AV) : valOf m (some v) = some (v, m) := Eq.trans rfl rfl
theorem valOf_none : valOf m none = none := Eq.trans rfl rfl
theorem valOf_ite (c : Prop) [Decidable c] (a b : Option AV) : valOf m (if c then a else b) = if c then valOf m a else valOf m b := by split <;> rfl

theorem aop_of_light {op : AO} (h : op.kind = 0) : aop C g m op = valOf m (light g op) := by
  unfold aop
  cases e : light g op with
  | some v => rfl
  | none => simp only []; rw [memop_none (by omega), making_none (by omega), heavy_none (by omega)]; rfl

theorem aop_of_memop {op : AO} (h : op.kind = 1) : aop C g m op = valOf m (memop g m.H op) := by
  unfold aop
  rw [light_none (by omega)]
  simp only []
  cases e : memop g m.H op with
  | some v => rfl
  | none => simp only []; rw [making_none (by omega), heavy_none (by omega)]; rfl

theorem aop_of_heavy {op : AO} (h : op.kind = 3) : aop C g m op = heavy C g m op := by
  unfold aop
  rw [light_none (by omega), memop_none (by omega), making_none (by omega)]

theorem aop_of_making {op : AO} (h : op.kind = 2) : aop C g m op = match making g op with | some (cs, v) => some (v m.H.length, newBlk m cs) | none => none := by
  unfold aop
  rw [light_none (by omega), memop_none (by omega)]
  simp only []
  cases making g op with
  | some p => rfl
  | none => simp only []; exact heavy_none (by omega)

theorem aop_mv (x : X) : aop C g m (.mv x) = some (g x, m) := Eq.trans rfl rfl
theorem aop_bin (c : Nat) (o : BinOp) (x y : X) : aop C g m (.bin c o x y) = valOf m (binop c o (g x) (g y)) := aop_of_light rfl

/-- a choice -/
def pickV (c a b : AV) : Option AV :=
  match c with
  | .bool true => some a
  | .bool false => some b
  | _ => none
theorem pickV_bool (c : Bool) (a b : AV) : pickV (.bool c) a b = some (if c = true then a else b) := by cases c <;> rfl
theorem aop_pick (c a b : X) : aop C g m (.pick c a b) = valOf m (pickV (g c) (g a) (g b)) := aop_of_light rfl
theorem aop_un (o : UnOp) (x : X) : aop C g m (.un o x) = valOf m (unop o (g x)) := aop_of_light rfl
theorem aop_makeFunc (f : FuncId) (a b : List X) : aop C g m (.makeFunc f a b) = some (.fn f (a.map g) (b.map g), m) := Eq.trans rfl rfl

def convV (k : IntKind) (v : AV) : Option AV :=
  match v with
  | .int _ n => some (.int k (k.wrap n))
  | _ => none
theorem convV_int (k k' : IntKind) (n : Int) : convV k (.int k' n) = some (.int k (k.wrap n)) := Eq.trans rfl rfl
theorem aop_conv (k : IntKind) (x : X) : aop C g m (.conv k x) = valOf m (convV k (g x)) := aop_of_light rfl

def eqCellsV (ks : List Nat) (neg : Bool) (a b : AV) : Option AV :=
  match a, b with
  | .agg xs, .agg ys => (eqList ks xs ys).map fun b => .bool (if neg then !b else b)
  | _, _ => none
theorem eqCellsV_agg (ks : List Nat) (neg : Bool) (xs ys : List AV) : eqCellsV ks neg (.agg xs) (.agg ys) = (eqList ks xs ys).map fun b => .bool (if neg then !b else b) := Eq.trans rfl rfl
theorem aop_eqCells (ks : List Nat) (neg : Bool) (x y : X) : aop C g m (.eqCells ks neg x y) = valOf m (eqCellsV ks neg (g x) (g y)) := aop_of_light rfl

def fieldAddrV (off : Nat) (v : AV) : Option AV :=
  match v with
  | .ptr (some (b, o)) => some (.ptr (some (b, o + off)))
  | _ => none
theorem fieldAddrV_ptr (off b o : Nat) : fieldAddrV off (.ptr (some (b, o))) = some (.ptr (some (b, o + off))) := Eq.trans rfl rfl
theorem aop_fieldAddr (off : Nat) (x : X) : aop C g m (.fieldAddr off x) = valOf m (fieldAddrV off (g x)) := aop_of_light rfl

def fieldV (agg : Bool) (off sz : Nat) (v : AV) : Option AV :=
  match v with
  | .agg cs => part agg cs off sz
  | _ => none
theorem fieldV_agg (agg : Bool) (off sz : Nat) (cs : List AV) : fieldV agg off sz (.agg cs) = part agg cs off sz := Eq.trans rfl rfl
theorem aop_field (agg : Bool) (off sz : Nat) (x : X) : aop C g m (.field agg off sz x) = valOf m (fieldV agg off sz (g x)) := aop_of_light rfl

def indexAddrSV (sz : Nat) (v i : AV) : Option AV :=
  match v, i with
  | .slice (some (b, o)) sz' n _, .int _ i => if 0 ≤ i ∧ i < n ∧ sz' = sz then some (.ptr (some (b, o + i.toNat * sz))) else none
  | _, _ => none
theorem indexAddrSV_slice (sz b o sz' n : Nat) (c : Option Nat) (k : IntKind) (i : Int) : indexAddrSV sz (.slice (some (b, o)) sz' n c) (.int k i) = if 0 ≤ i ∧ i < n ∧ sz' = sz then some (.ptr (some (b, o + i.toNat * sz))) else none := Eq.trans rfl rfl
theorem aop_indexAddrS (sz : Nat) (x i : X) : aop C g m (.indexAddrS sz x i) = valOf m (indexAddrSV sz (g x) (g i)) := aop_of_light rfl

def indexAddrAV (n sz : Nat) (v i : AV) : Option AV :=
  match v, i with
  | .ptr (some (b, o)), .int _ i => if 0 ≤ i ∧ i < n then some (.ptr (some (b, o + i.toNat * sz))) else none
  | _, _ => none
theorem indexAddrAV_ptr (n sz b o : Nat) (k : IntKind) (i : Int) : indexAddrAV n sz (.ptr (some (b, o))) (.int k i) = if 0 ≤ i ∧ i < n then some (.ptr (some (b, o + i.toNat * sz))) else none := Eq.trans rfl rfl
theorem aop_indexAddrA (n sz : Nat) (x i : X) : aop C g m (.indexAddrA n sz x i) = valOf m (indexAddrAV n sz (g x) (g i)) := aop_of_light rfl

def indexAV (agg : Bool) (n sz : Nat) (v i : AV) : Option AV :=
  match v, i with
  | .agg cs, .int _ i => if 0 ≤ i ∧ i < n then part agg cs (i.toNat * sz) sz else none
  | _, _ => none
theorem indexAV_agg (agg : Bool) (n sz : Nat) (cs : List AV) (k : IntKind) (i : Int) : indexAV agg n sz (.agg cs) (.int k i) = if 0 ≤ i ∧ i < n then part agg cs (i.toNat * sz) sz else none := Eq.trans rfl rfl
theorem aop_indexA (agg : Bool) (n sz : Nat) (x i : X) : aop C g m (.indexA agg n sz x i) = valOf m (indexAV agg n sz (g x) (g i)) := aop_of_light rfl

def indexSV (v i : AV) : Option AV :=
  match v, i with
  | .str s, .int _ i => if 0 ≤ i then (s[i.toNat]?).map fun b => .int .u8 b.toNat else none
  | _, _ => none
theorem indexSV_str (s : ByteArray) (k : IntKind) (i : Int) : indexSV (.str s) (.int k i) = if 0 ≤ i then (s[i.toNat]?).map fun b => .int .u8 b.toNat else none := Eq.trans rfl rfl
theorem aop_indexS (x i : X) : aop C g m (.indexS x i) = valOf m (indexSV (g x) (g i)) := aop_of_light rfl

def extractV (i : Nat) (v : AV) : Option AV :=
  match v with
  | .tup vs => vs[i]?
  | _ => none
theorem extractV_tup (i : Nat) (vs : List AV) : extractV i (.tup vs) = vs[i]? := Eq.trans rfl rfl
theorem aop_extract (i : Nat) (x : X) : aop C g m (.extract i x) = valOf m (extractV i (g x)) := aop_of_light rfl

def lenV (v : AV) : Option AV :=
  match v with
  | .slice _ _ n _ => some (.int .i64 n)
  | _ => none
theorem lenV_slice (p : Option (Nat × Nat)) (sz n : Nat) (c : Option Nat) : lenV (.slice p sz n c) = some (.int .i64 n) := Eq.trans rfl rfl
theorem aop_len (x : X) : aop C g m (.len x) = valOf m (lenV (g x)) := aop_of_light rfl

def lenStrV (v : AV) : Option AV :=
  match v with
  | .str s => some (.int .i64 s.size)
  | _ => none
theorem lenStrV_str (s : ByteArray) : lenStrV (.str s) = some (.int .i64 s.size) := Eq.trans rfl rfl
theorem aop_lenStr (x : X) : aop C g m (.lenStr x) = valOf m (lenStrV (g x)) := aop_of_light rfl
theorem aop_lenA (n : Nat) : aop C g m (.lenA n) = some (.int .i64 n, m) := Eq.trans rfl rfl

def max2V (a b : AV) : Option AV :=
  match a, b with
  | .int k a, .int k' b => if k = k' then some (.int k (if b > a then b else a)) else none
  | _, _ => none
theorem max2V_int (k : IntKind) (a b : Int) : max2V (.int k a) (.int k b) = some (.int k (if b > a then b else a)) := by simp [max2V]
theorem aop_max2 (x y : X) : aop C g m (.max2 x y) = valOf m (max2V (g x) (g y)) := aop_of_light rfl
def min2V (a b : AV) : Option AV :=
  match a, b with
  | .int k a, .int k' b => if k = k' then some (.int k (if b < a then b else a)) else none
  | _, _ => none
theorem min2V_int (k : IntKind) (a b : Int) : min2V (.int k a) (.int k b) = some (.int k (if b < a then b else a)) := by simp [min2V]
theorem aop_min2 (x y : X) : aop C g m (.min2 x y) = valOf m (min2V (g x) (g y)) := aop_of_light rfl

theorem aop_build (zero : List AV) (parts : List (Nat × Nat × X)) : aop C g m (.build zero parts) = valOf m ((fillParts g zero parts).map .agg) := aop_of_light rfl
theorem aop_load (a : Bool) (sz : Nat) (x : X) : aop C g m (.load a sz x) = valOf m (loadAt m.H a sz (g x)) := aop_of_memop rfl
theorem aop_alloc (zero : List AV) : aop C g ⟨H, e⟩ (.alloc zero) = some (.ptr (some (H.length, 0)), ⟨H ++ [.cells zero true], e⟩) := Eq.trans rfl rfl

def boxV (H : List Blk) (e : Option Nat) (cs : Option (List AV)) : Option (AV × Mem) :=
  match cs with
  | some cs => some (.ptr (some (H.length, 0)), ⟨H ++ [.cells cs true], e⟩)
  | none => none
theorem boxV_some (cs : List AV) : boxV H e (some cs) = some (.ptr (some (H.length, 0)), ⟨H ++ [.cells cs true], e⟩) := Eq.trans rfl rfl
theorem aop_box (x : X) : aop C g ⟨H, e⟩ (.box x) = boxV H e (cellsOf (g x)) := by
  rw [aop_of_making rfl]
  have h : making g (.box x) = (cellsOf (g x)).map fun cs => (cs, fun b => .ptr (some (b, 0))) := rfl
  rw [h]
  cases cellsOf (g x) <;> rfl

def buildSliceV (H : List Blk) (e : Option Nat) (sz len : Nat) (cs : Option (List AV)) : Option (AV × Mem) :=
  match cs with
  | some cs => some (.slice (some (H.length, 0)) sz len (some len), ⟨H ++ [.cells cs true], e⟩)
  | none => none
theorem buildSliceV_some (sz len : Nat) (cs : List AV) : buildSliceV H e sz len (some cs) = some (.slice (some (H.length, 0)) sz len (some len), ⟨H ++ [.cells cs true], e⟩) := Eq.trans rfl rfl
theorem aop_buildSlice (sz len : Nat) (zero : List AV) (parts : List (Nat × Nat × X)) : aop C g ⟨H, e⟩ (.buildSlice sz len zero parts) = buildSliceV H e sz len (fillParts g zero parts) := by
  rw [aop_of_making rfl]
  have h : making g (.buildSlice sz len zero parts) = (fillParts g zero parts).map fun cs => (cs, fun b => .slice (some (b, 0)) sz len (some len)) := rfl
  rw [h]
  cases fillParts g zero parts <;> rfl

/-- a store -/
def storeV (H : List Blk) (e : Option Nat) (sz : Nat) (a x : AV) : Option (AV × Mem) :=
  match a, cellsOf x with
  | .ptr (some (b, o)), some new => match H[b]? with
    | some (.cells cs true) =>
      if new.length = sz ∧ 0 < sz ∧ o + sz ≤ cs.length then
        some (.tup [], ⟨H.set b (.cells (setRange cs o new) true), if (new.all fun v => v.under (b + 1)) then e else minEsc e b⟩)
      else none
    | _ => none
  | _, _ => none
theorem aop_store (sz : Nat) (a x : X) : aop C g ⟨H, e⟩ (.store sz a x) = storeV H e sz (g a) (g x) := by
  rw [aop_of_heavy rfl]; rfl

def callV (C : FuncId → List AV → Mem → Option (AV × Mem)) (f : AV) (args : List AV) (m : Mem) : Option (AV × Mem) :=
  match f with
  | .fn f first captured => C f (first ++ args ++ captured) m
  | _ => none
theorem callV_fn (f : FuncId) (first captured args : List AV) : callV C (.fn f first captured) args m = C f (first ++ args ++ captured) m := Eq.trans rfl rfl
theorem aop_call (f : X) (args : List X) : aop C g m (.call f args) = callV C (g f) (args.map g) m := by
  rw [aop_of_heavy rfl]
  rfl

def makeSliceV (H : List Blk) (e : Option Nat) (sz bytes : Nat) (zero : List AV) (len cap : AV) : Option (AV × Mem) :=
  match len, cap with
  | .int .i64 l, .int .i64 c => if 0 ≤ l ∧ l = c ∧ l * bytes ≤ maxBytes then
      some (.slice (some (H.length, 0)) sz l.toNat (some l.toNat), ⟨H ++ [.cells (zeros l.toNat zero) true], e⟩) else none
  | _, _ => none
theorem makeSliceV_int (sz bytes : Nat) (zero : List AV) (l c : Int) : makeSliceV H e sz bytes zero (.int .i64 l) (.int .i64 c) = if 0 ≤ l ∧ l = c ∧ l * bytes ≤ maxBytes then
      some (.slice (some (H.length, 0)) sz l.toNat (some l.toNat), ⟨H ++ [.cells (zeros l.toNat zero) true], e⟩) else none := rfl
theorem aop_makeSlice (sz bytes : Nat) (zero : List AV) (len cap : X) : aop C g ⟨H, e⟩ (.makeSlice sz bytes zero len cap) = makeSliceV H e sz bytes zero (g len) (g cap) := by
  rw [aop_of_heavy rfl]; rfl

def appendV (H : List Blk) (e : Option Nat) (str : Bool) (sz bytes : Nat) (s x : AV) : Option (AV × Mem) :=
  match s with
  | .slice none _ _ _ => match srcCells str H x with
    | some (n, cs) => if n = 0 then some (nilSlice, ⟨H, e⟩)
        else if n * bytes ≤ maxBytes ∧ cs.length = n * sz then some (.slice (some (H.length, 0)) sz n none, ⟨H ++ [.cells cs true], e⟩) else none
    | none => none
  | .slice (some (b, o)) sz' n cap => match H[b]?, srcCells str H x with
    | some (.cells old wr), some (k, cs) =>
      if sz' = sz ∧ (n + k) * bytes ≤ maxBytes ∧ cs.length = k * sz ∧ o + n * sz ≤ old.length then
        if cap = some 0 ∧ 0 < k then some (.slice (some (H.length, 0)) sz (n + k) none, ⟨H ++ [.cells cs true], e⟩)
        else if wr then some (.slice (some (H.length, 0)) sz (n + k) none, ⟨H.set b .dead ++ [.cells ((old.drop o).take (n * sz) ++ cs) true], e⟩)
        else none
      else none
    | _, _ => none
  | _ => none
theorem aop_append (str : Bool) (sz bytes : Nat) (s x : X) : aop C g ⟨H, e⟩ (.append str sz bytes s x) = appendV H e str sz bytes (g s) (g x) := by
  rw [aop_of_heavy rfl]; rfl

theorem binop_add (k : IntKind) (a b : Int) : binop 0 .add (.int k a) (.int k b) = some (.int k (k.wrap (a + b))) := by simp [binop, intOp]
theorem binop_sub (k : IntKind) (a b : Int) : binop 0 .sub (.int k a) (.int k b) = some (.int k (k.wrap (a - b))) := by simp [binop, intOp]
theorem binop_mul (k : IntKind) (a b : Int) : binop 0 .mul (.int k a) (.int k b) = some (.int k (k.wrap (a * b))) := by simp [binop, intOp]
theorem binop_quo (k : IntKind) (a b : Int) : binop 0 .quo (.int k a) (.int k b) = if b = 0 then none else some (.int k (k.wrap (a.tdiv b))) := by simp [binop, intOp]
theorem binop_rem (k : IntKind) (a b : Int) : binop 0 .rem (.int k a) (.int k b) = if b = 0 then none else some (.int k (a.tmod b)) := by simp [binop, intOp]
theorem binop_eql (k : IntKind) (a b : Int) : binop 0 .eql (.int k a) (.int k b) = some (.bool (decide (a = b))) := by simp [binop, intOp]
theorem binop_neq (k : IntKind) (a b : Int) : binop 0 .neq (.int k a) (.int k b) = some (.bool (!decide (a = b))) := by simp [binop, intOp]
theorem binop_lss (k : IntKind) (a b : Int) : binop 0 .lss (.int k a) (.int k b) = some (.bool (decide (a < b))) := by simp [binop, intOp]
theorem binop_leq (k : IntKind) (a b : Int) : binop 0 .leq (.int k a) (.int k b) = some (.bool (decide (a ≤ b))) := by simp [binop, intOp]
theorem binop_gtr (k : IntKind) (a b : Int) : binop 0 .gtr (.int k a) (.int k b) = some (.bool (decide (b < a))) := by simp [binop, intOp]
theorem binop_geq (k : IntKind) (a b : Int) : binop 0 .geq (.int k a) (.int k b) = some (.bool (decide (b ≤ a))) := by simp [binop, intOp]
def shlI (k : IntKind) (a b : Int) : Int := k.wrap (a * 2 ^ (min b.toNat k.bits))
def shrI (k : IntKind) (a b : Int) : Int := a.fdiv (2 ^ (min b.toNat k.bits))
def andI (k : IntKind) (a b : Int) : Int := k.wrap (BitVec.ofInt k.bits a &&& BitVec.ofInt k.bits b).toNat
def orI (k : IntKind) (a b : Int) : Int := k.wrap (BitVec.ofInt k.bits a ||| BitVec.ofInt k.bits b).toNat
def xorI (k : IntKind) (a b : Int) : Int := k.wrap (BitVec.ofInt k.bits a ^^^ BitVec.ofInt k.bits b).toNat
def andNotI (k : IntKind) (a b : Int) : Int := k.wrap (BitVec.ofInt k.bits a &&& ~~~BitVec.ofInt k.bits b).toNat
theorem binop_shl (k k' : IntKind) (a b : Int) : binop 0 .shl (.int k a) (.int k' b) = if b < 0 then none else some (.int k (shlI k a b)) := by simp [binop, intOp, shlI]
theorem binop_shr (k k' : IntKind) (a b : Int) : binop 0 .shr (.int k a) (.int k' b) = if b < 0 then none else some (.int k (shrI k a b)) := by simp [binop, intOp, shrI]
theorem binop_band (k : IntKind) (a b : Int) : binop 0 .and (.int k a) (.int k b) = some (.int k (andI k a b)) := by simp [binop, intOp, andI]
theorem binop_bor (k : IntKind) (a b : Int) : binop 0 .or (.int k a) (.int k b) = some (.int k (orI k a b)) := by simp [binop, intOp, orI]
theorem binop_bxor (k : IntKind) (a b : Int) : binop 0 .xor (.int k a) (.int k b) = some (.int k (xorI k a b)) := by simp [binop, intOp, xorI]
theorem binop_bandnot (k : IntKind) (a b : Int) : binop 0 .andNot (.int k a) (.int k b) = some (.int k (andNotI k a b)) := by simp [binop, intOp, andNotI]
theorem binop_beql (a b : Bool) : binop 2 .eql (.bool a) (.bool b) = some (.bool (a == b)) := Eq.trans rfl rfl
theorem binop_bneq (a b : Bool) : binop 2 .neq (.bool a) (.bool b) = some (.bool (!(a == b))) := Eq.trans rfl rfl
theorem binop_seql (a b : ByteArray) : binop 1 .eql (.str a) (.str b) = some (.bool (decide (a = b))) := Eq.trans rfl rfl
theorem binop_sneq (a b : ByteArray) : binop 1 .neq (.str a) (.str b) = some (.bool (!decide (a = b))) := Eq.trans rfl rfl
theorem unop_neg (k : IntKind) (n : Int) : unop .neg (.int k n) = some (.int k (k.wrap (0 - n))) := Eq.trans rfl rfl
theorem unop_not (b : Bool) : unop .not (.bool b) = some (.bool !b) := Eq.trans rfl rfl

theorem setOuts_nil : setOuts tm loc [] = tm := Eq.trans rfl rfl
theorem setOuts_cons (s j : Nat) (rest : List (Nat × Nat)) : setOuts tm loc ((s, j) :: rest) = setOuts (tm.set s ((loc[j]?).getD .undef)) loc rest := Eq.trans rfl rfl

/-! memory -/
theorem cellsAt_new0 (l : List Blk) : cellsAt (H ++ l) H.length = cellsAt l 0 := by simp [cellsAt, List.getElem?_append_right]
theorem cellsAt_newk (l : List Blk) (k : Nat) : cellsAt (H ++ l) (H.length + k) = cellsAt l k := by simp [cellsAt, List.getElem?_append_right]
theorem cellsAt_cons0 (cs : List AV) (wr : Bool) (l : List Blk) : cellsAt (.cells cs wr :: l) 0 = some cs := Eq.trans rfl rfl
theorem cellsAt_consk (b : Blk) (l : List Blk) (k : Nat) : cellsAt (b :: l) (k + 1) = cellsAt l k := Eq.trans rfl rfl
theorem cellsAt_old {b : Nat} {cs : List AV} (l : List Blk) (h : cellsAt H b = some cs) : cellsAt (H ++ l) b = some cs := by
  unfold cellsAt at *
  cases hb : H[b]? with
  | none => rw [hb] at h; cases h
  | some x =>
    have hlt := (List.getElem?_eq_some_iff.mp hb).1
    rw [List.getElem?_append_left hlt, hb]
    rw [hb] at h
    exact h

def partOf (agg : Bool) (cs : Option (List AV)) (o sz : Nat) : Option AV :=
  match cs with
  | some cs => part agg cs o sz
  | none => none
theorem partOf_some (agg : Bool) (cs : List AV) (o sz : Nat) : partOf agg (some cs) o sz = part agg cs o sz := Eq.trans rfl rfl
theorem loadAt_ptr (agg : Bool) (sz b o : Nat) (L : List Blk) : loadAt L agg sz (.ptr (some (b, o))) = partOf agg (cellsAt L b) o sz := by
  have h : loadAt L agg sz (.ptr (some (b, o))) = match cellsAt L b with
    | none => none
    | some cs => if agg then (if o + sz ≤ cs.length then some (.agg ((cs.drop o).take sz)) else none) else cs[o]? := rfl
  rw [h]
  cases cellsAt L b <;> rfl
theorem part_false (cs : List AV) (o sz : Nat) : part false cs o sz = cs[o]? := Eq.trans rfl rfl
theorem part_true (cs : List AV) (o sz : Nat) : part true cs o sz = if o + sz ≤ cs.length then some (.agg ((cs.drop o).take sz)) else none := Eq.trans rfl rfl
theorem part_f0 (c : AV) (cs : List AV) (sz : Nat) : part false (c :: cs) 0 sz = some c := Eq.trans rfl rfl
theorem part_fk (c : AV) (cs : List AV) (k sz : Nat) : part false (c :: cs) (k + 1) sz = part false cs k sz := Eq.trans rfl rfl
theorem part_t0 (c : AV) (cs : List AV) (sz : Nat) : part true (c :: cs) 0 sz = if sz ≤ cs.length + 1 then some (.agg ((c :: cs).take sz)) else none := by
  rw [part_true]; simp
theorem part_tk (c : AV) (cs : List AV) (k sz : Nat) : part true (c :: cs) (k + 1) sz = part true cs k sz := by
  rw [part_true, part_true]
  have : (k + 1 + sz ≤ (c :: cs).length) ↔ (k + sz ≤ cs.length) := by simp; omega
  simp only [this, List.drop_succ_cons]

theorem cellsOf_agg (cs : List AV) : cellsOf (.agg cs) = some cs := Eq.trans rfl rfl
theorem cellsOf_int (k : IntKind) (n : Int) : cellsOf (.int k n) = some [.int k n] := Eq.trans rfl rfl
theorem cellsOf_bool (b : Bool) : cellsOf (.bool b) = some [.bool b] := Eq.trans rfl rfl
theorem cellsOf_str (s : ByteArray) : cellsOf (.str s) = some [.str s] := Eq.trans rfl rfl
theorem cellsOf_ptr (p : Option (Nat × Nat)) : cellsOf (.ptr p) = some [.ptr p] := Eq.trans rfl rfl
theorem cellsOf_slice (p : Option (Nat × Nat)) (sz n : Nat) (c : Option Nat) : cellsOf (.slice p sz n c) = some [.slice p sz n c] := Eq.trans rfl rfl
theorem cellsOf_fn (f : FuncId) (a b : List AV) : cellsOf (.fn f a b) = some [.fn f a b] := Eq.trans rfl rfl

/-! two ways that meet again -/
theorem merge_normal (c : Prop) [Decidable c] (t t' : List AV) (m : Mem) : (if c then some (Ex.normal, (⟨t, m⟩ : St)) else some (Ex.normal, ⟨t', m⟩)) = some (Ex.normal, ⟨if c then t else t', m⟩) := by split <;> rfl
theorem merge_cons (c : Prop) [Decidable c] (a b : AV) (az bs : List AV) : (if c then a :: az else b :: bs) = (if c then a else b) :: (if c then az else bs) := by split <;> rfl
theorem merge_bool (c : Prop) [Decidable c] (a b : Bool) : (if c then AV.bool a else AV.bool b) = AV.bool (if c then a else b) := by split <;> rfl
theorem merge_int (c : Prop) [Decidable c] (k : IntKind) (a b : Int) : (if c then AV.int k a else AV.int k b) = AV.int k (if c then a else b) := by split <;> rfl

/-! the end of a call -/
theorem finRun_eq (F : AFun) (m : Mem) (st : St) : finRun F m st = match resultList st.tm st.m.H F.results with
  | some vs => finish F.mode m.H.length m.esc (tupled vs) st.m
  | none => none := rfl
theorem resultList_nil (L : List Blk) : resultList tm L [] = some [] := Eq.trans rfl rfl
def consV (a : Option AV) (az : Option (List AV)) : Option (List AV) :=
  match a, az with
  | some v, some vs => some (v :: vs)
  | _, _ => none
theorem consV_some (v : AV) (vs : List AV) : consV (some v) (some vs) = some (v :: vs) := Eq.trans rfl rfl
theorem resultList_tmp (L : List Blk) (s : Nat) (rs : List AR) : resultList tm L (.tmp s :: rs) = consV (some ((tm[s]?).getD .undef)) (resultList tm L rs) := by
  rw [resultList]; cases resultList tm L rs <;> rfl
theorem resultList_cell (L : List Blk) (s : Nat) (agg : Bool) (sz : Nat) (rs : List AR) : resultList tm L (.cell s agg sz :: rs) = consV (loadAt L agg sz ((tm[s]?).getD .undef)) (resultList tm L rs) := by
  rw [resultList]; cases resultList tm L rs <;> simp only [resultOf] <;> cases loadAt L agg sz ((tm[s]?).getD .undef) <;> rfl

def finV (F : AFun) (m : Mem) (vs : Option (List AV)) (m' : Mem) : Option (AV × Mem) :=
  match vs with
  | some vs => finish F.mode m.H.length m.esc (tupled vs) m'
  | none => none
theorem finRun_finV (F : AFun) (m : Mem) (st : St) : finRun F m st = finV F m (resultList st.tm st.m.H F.results) st.m := Eq.trans rfl rfl
theorem finV_some (F : AFun) (m : Mem) (vs : List AV) (m' : Mem) : finV F m (some vs) m' = finish F.mode m.H.length m.esc (tupled vs) m' := Eq.trans rfl rfl
theorem finish_zero (v : AV) (lim : Nat) (e0 e1 : Option Nat) (L : List Blk) : finish 0 lim e0 v ⟨L, e1⟩ = some (v, ⟨L, joinEsc e0 e1⟩) := Eq.trans rfl rfl
theorem finish_one (v : AV) (e0 : Option Nat) (l : List Blk) (h : v.under H.length = true) : finish 1 H.length e0 v ⟨H ++ l, none⟩ = some (v, ⟨H, e0⟩) := by
  simp [finish, h, clean]
theorem finish_one' (v : AV) (e0 : Option Nat) (h : v.under H.length = true) : finish 1 H.length e0 v ⟨H, none⟩ = some (v, ⟨H, e0⟩) := by
  simp [finish, h, clean]
/-- a new block, named by the result -/
theorem finish_two_slice (sz n : Nat) (c : Option Nat) (cs : List AV) (wr : Bool) (e0 : Option Nat) (h : (cs.all fun c => c.under H.length) = true) :
    finish 2 H.length e0 (.slice (some (H.length, 0)) sz n c) ⟨H ++ [.cells cs wr], none⟩ = some (.slice (some (H.length, 0)) sz n c, ⟨H ++ [.cells cs wr], e0⟩) := by
  have hr : dedup (AV.roots H.length (.slice (some (H.length, 0)) sz n c)) = [H.length] := by simp [AV.roots, dedup]
  unfold finish
  simp only [hr]
  have h2 : ([H.length].all fun b => flatBlk H.length (H ++ [Blk.cells cs wr])[b]?) = true := by
    simp [flatBlk, List.getElem?_append_right]
    simpa using h
  simp only [clean, h2, and_self, if_true]
  simp [AV.rename, renum, List.getElem?_append_right]
theorem finish_two_at {G : List Blk} {j sz n o : Nat} {c : Option Nat} {cs : List AV} {wr : Bool} (e0 : Option Nat) (hG : G[j]? = some (.cells cs wr)) (h : (cs.all fun c => c.under H.length) = true) :
    finish 2 H.length e0 (.slice (some (H.length + j, o)) sz n c) ⟨H ++ G, none⟩ = some (.slice (some (H.length, o)) sz n c, ⟨H ++ [.cells cs wr], e0⟩) := by
  have hlt : ¬ H.length + j < H.length := by omega
  have hr : dedup (AV.roots H.length (.slice (some (H.length + j, o)) sz n c)) = [H.length + j] := by
    unfold AV.roots
    rw [if_neg hlt]
    rfl
  have hb : (H ++ G)[H.length + j]? = some (.cells cs wr) := by rw [List.getElem?_append_right (by omega)]; simpa using hG
  unfold finish
  simp only [hr]
  have h2 : ([H.length + j].all fun b => flatBlk H.length (H ++ G)[b]?) = true := by
    simp only [List.all_cons, List.all_nil, Bool.and_true, hb, flatBlk]
    exact h
  simp only [clean, h2, and_self, if_true]
  simp [AV.rename, renum, hb, hlt]
theorem tupled_one (v : AV) : tupled [v] = v := Eq.trans rfl rfl
theorem tupled_nil : tupled [] = .tup [] := Eq.trans rfl rfl
theorem tupled_two (a b : AV) (vs : List AV) : tupled (a :: b :: vs) = .tup (a :: b :: vs) := Eq.trans rfl rfl
theorem under_int (n : Nat) (k : IntKind) (x : Int) : (AV.int k x).under n = true := by simp [AV.under]
theorem under_bool (n : Nat) (x : Bool) : (AV.bool x).under n = true := by simp [AV.under]
theorem under_str (n : Nat) (x : ByteArray) : (AV.str x).under n = true := by simp [AV.under]
theorem under_agg (n : Nat) (x : List AV) : (AV.agg x).under n = AV.under.go n x := by simp [AV.under]
theorem under_tup (n : Nat) (x : List AV) : (AV.tup x).under n = AV.under.go n x := by simp [AV.under]
theorem under_cons (n : Nat) (a : AV) (x : List AV) : AV.under.go n (a :: x) = (a.under n && AV.under.go n x) := Eq.trans rfl rfl
theorem under_nil (n : Nat) : AV.under.go n [] = true := Eq.trans rfl rfl

theorem blkAt_new0 (l : List Blk) : (H ++ l)[H.length]? = l[0]? := by simp [List.getElem?_append_right]
theorem blkAt_newk (l : List Blk) (k : Nat) : (H ++ l)[H.length + k]? = l[k]? := by simp [List.getElem?_append_right]
theorem set_new0 (l : List Blk) (b : Blk) : (H ++ l).set H.length b = H ++ l.set 0 b := by simp [List.set_append_right]
theorem set_newk (l : List Blk) (b : Blk) (k : Nat) : (H ++ l).set (H.length + k) b = H ++ l.set k b := by simp [List.set_append_right]

/-- a store whose block and cells are told -/
def storeAt (H : List Blk) (e : Option Nat) (b : Nat) (blk : Option Blk) (sz o : Nat) (new : Option (List AV)) : Option (AV × Mem) :=
  match new, blk with
  | some new, some (Blk.cells cs true) => if new.length = sz ∧ 0 < sz ∧ o + sz ≤ cs.length then
        some (.tup [], ⟨H.set b (.cells (setRange cs o new) true), if (new.all fun v => v.under (b + 1)) then e else minEsc e b⟩) else none
  | _, _ => none
theorem storeV_ptr (L : List Blk) (sz b o : Nat) (x : AV) : storeV L e sz (.ptr (some (b, o))) x = storeAt L e b L[b]? sz o (cellsOf x) := by
  unfold storeV storeAt
  cases cellsOf x with
  | none => rfl
  | some new =>
    simp only []
    cases L[b]? with
    | none => rfl
    | some B => cases B with
      | dead => rfl
      | cells cs wr => cases wr <;> rfl
theorem storeAt_cells (L : List Blk) (b : Nat) (cs new : List AV) (sz o : Nat) : storeAt L e b (some (.cells cs true)) sz o (some new) =
    if new.length = sz ∧ 0 < sz ∧ o + sz ≤ cs.length then some (.tup [], ⟨L.set b (.cells (setRange cs o new) true), if (new.all fun v => v.under (b + 1)) then e else minEsc e b⟩) else none := Eq.trans rfl rfl
theorem setRange_0 (c : AV) (cs : List AV) (x : AV) (xs : List AV) : setRange (c :: cs) 0 (x :: xs) = x :: setRange cs 0 xs := by simp [setRange]
theorem setRange_k (c : AV) (cs : List AV) (k : Nat) (xs : List AV) : setRange (c :: cs) (k + 1) xs = c :: setRange cs k xs := by
  simp [setRange, Nat.add_right_comm]
theorem setRange_nil (cs : List AV) : setRange cs 0 [] = cs := by simp [setRange]
theorem all_cons (p : AV → Bool) (c : AV) (cs : List AV) : (c :: cs).all p = (p c && cs.all p) := rfl
theorem all_nil (p : AV → Bool) : ([] : List AV).all p = true := Eq.trans rfl rfl

theorem wrap64 {x : Int} (h1 : -9223372036854775808 ≤ x) (h2 : x ≤ 9223372036854775807) : IntKind.i64.wrap x = x := by
  have : IntKind.i64.wrap x = x := by
    unfold IntKind.wrap
    simp [IntKind.signed, IntKind.bits]
    omega
  exact this
end
attribute [go_sem] Nat.mul_one
attribute [go_sem] run_seq run_cond run_block run_region run_draw run_skip run_exit run_ret thenRun_normal thenRun_ret thenRun_exit thenRun_none thenRun_ite inBlock_normal inBlock_ret inBlock_exit inBlock_none inBlock_ite condOf_bool pickRun_some outRun_some outRun_none outRun_ite endCall_normal endCall_ret endCall_exit endCall_none endCall_ite aops_nil aops_cons aops_guard opThen_some opThen_none opThen_ite guardP_true guardP_false guardP_some guardP_ite guardThen_some guardThen_ite guardOf_true guardOf_false guardOf_tup dops_nil dops_cons dops_again dops_guard dops_guard_again toldAnew_nil toldAnew_cons toldAnew_guard memop_load get_t get_l get_c valOf_some valOf_none valOf_ite aop_mv aop_bin pickV_bool aop_pick aop_un aop_makeFunc convV_int aop_conv eqCellsV_agg aop_eqCells fieldAddrV_ptr aop_fieldAddr fieldV_agg aop_field indexAddrSV_slice aop_indexAddrS indexAddrAV_ptr aop_indexAddrA indexAV_agg aop_indexA indexSV_str aop_indexS extractV_tup aop_extract lenV_slice aop_len lenStrV_str aop_lenStr aop_lenA max2V_int aop_max2 min2V_int aop_min2 aop_build aop_load aop_alloc boxV_some aop_box buildSliceV_some aop_buildSlice aop_store callV_fn aop_call makeSliceV_int aop_makeSlice aop_append binop_add binop_sub binop_mul binop_quo binop_rem binop_eql binop_neq binop_lss binop_leq binop_gtr binop_geq binop_shl binop_shr binop_band binop_bor binop_bxor binop_bandnot binop_beql binop_bneq binop_seql binop_sneq unop_neg unop_not setOuts_nil setOuts_cons cellsAt_new0 cellsAt_newk cellsAt_cons0 cellsAt_consk partOf_some loadAt_ptr part_f0 part_fk part_t0 part_tk blkAt_new0 blkAt_newk set_new0 set_newk storeV_ptr storeAt_cells setRange_0 setRange_k setRange_nil all_cons all_nil cellsOf_agg cellsOf_int cellsOf_bool cellsOf_str cellsOf_ptr cellsOf_slice cellsOf_fn merge_normal merge_cons merge_bool merge_int resultList_nil consV_some resultList_tmp resultList_cell finRun_finV finV_some finish_zero finish_one finish_one' finish_two_slice tupled_one tupled_nil tupled_two under_int under_bool under_str under_agg under_tup under_cons under_nil List.map_cons List.map_nil List.getElem?_cons_zero List.getElem?_cons_succ List.getElem?_nil Option.getD_some Option.getD_none List.nil_append List.cons_append List.append_nil List.append_assoc List.set_cons_zero List.set_cons_succ List.length_cons List.length_nil List.length_append Nat.zero_add Nat.add_zero List.take_succ_cons List.take_zero List.drop_succ_cons List.drop_zero if_true if_false Bool.not_true Bool.not_false Bool.true_eq_false Bool.false_and Bool.and_false Bool.or_true Bool.or_false Bool.true_or Bool.false_or Nat.lt_add_one Nat.succ_pos Bool.if_false_right Bool.if_true_left Bool.if_true_right Bool.if_false_left Bool.decide_eq_true Int.toNat_natCast Int.natCast_nonneg Int.ofNat_lt ite_self Bool.true_and Bool.and_true Bool.false_eq_true Bool.not_eq_true' decide_eq_true_eq true_and and_true Option.map_some Option.map_none

end Go.Proofs.YtdohjcodjjogbaaDoor.Slim

/- Rows of loads: how they lie in memory, and the laws' own small functions. -/
namespace Go.Proofs.YtdohjcodjjogbaaDoor.Slim
open Go
set_option linter.unusedSimpArgs false
set_option linter.unusedVariables false

/-- a load: its place and its weight -/
abbrev Ld := Int × Int
def encL : List Ld → List AV
  | [] => []
  | l :: ls => .int .i64 l.1 :: .int .i64 l.2 :: encL ls

theorem encL_length : ∀ ls : List Ld, (encL ls).length = ls.length * 2
  | [] => rfl
  | l :: ls => by simp [encL, encL_length ls]; omega

theorem encL_append : ∀ a b : List Ld, encL (a ++ b) = encL a ++ encL b
  | [], b => rfl
  | l :: a, b => by simp [encL, encL_append a b]

theorem part_encL {ls : List Ld} {i : Nat} {l : Ld} (h : ls[i]? = some l) : part true (encL ls) (i * 2) 2 = some (.agg [.int .i64 l.1, .int .i64 l.2]) := by
  induction ls generalizing i with
  | nil => simp at h
  | cons a ls ih =>
    cases i with
    | zero => simp at h; subst h; simp [encL, part]
    | succ i =>
      simp at h
      rw [show (i + 1) * 2 = i * 2 + 1 + 1 by omega, encL, part_tk, part_tk]
      exact ih h
theorem part_encL0 {ls : List Ld} {i : Nat} {l : Ld} (sz : Nat) (h : ls[i]? = some l) : part false (encL ls) (i * 2) sz = some (.int .i64 l.1) := by
  induction ls generalizing i with
  | nil => simp at h
  | cons a ls ih =>
    cases i with
    | zero => simp at h; subst h; simp [encL, part]
    | succ i =>
      simp at h
      rw [show (i + 1) * 2 = i * 2 + 1 + 1 by omega, encL, part_fk, part_fk]
      exact ih h
theorem part_encL1 {ls : List Ld} {i : Nat} {l : Ld} (sz : Nat) (h : ls[i]? = some l) : part false (encL ls) (i * 2 + 1) sz = some (.int .i64 l.2) := by
  induction ls generalizing i with
  | nil => simp at h
  | cons a ls ih =>
    cases i with
    | zero => simp at h; subst h; simp [encL, part]
    | succ i =>
      simp at h
      rw [show (i + 1) * 2 + 1 = i * 2 + 1 + 1 + 1 by omega, encL, part_fk, part_fk]
      exact ih h

/-- a slice of loads, wherever it lies -/
abbrev slL (b n : Nat) (c : Option Nat) : AV := .slice (some (b, 0)) 2 n c

theorem cells_mono {H : List Blk} {b : Nat} {cs : List AV} (h : cellsAt H b = some cs) (G : List Blk) : cellsAt (H ++ G) b = some cs := cellsAt_old G h

theorem wrap_succ {i : Nat} (h : i < 9223372036854775807) : IntKind.i64.wrap ((i : Int) + 1) = ((i + 1 : Nat) : Int) := by
  rw [wrap64 (by omega) (by omega)]; omega

variable {pr : Prims} {H : List Blk} {e : Option Nat}

end Go.Proofs.YtdohjcodjjogbaaDoor.Slim

/- The reference's and the program's small functions on rows. -/
namespace Go.Proofs.YtdohjcodjjogbaaDoor.Slim
open Go
set_option linter.unusedSimpArgs false
set_option linter.unusedVariables false

variable {pr : Prims} {H : List Blk} {e : Option Nat}

theorem e_i_within (x a b : Int) : call T pr f_i_within [.int .i64 x, .int .i64 a, .int .i64 b] ⟨H, e⟩ = some (.bool (decide (a ≤ x) && decide (x ≤ b)), ⟨H, e⟩) := by
  rw [call_eq t_i_within]
  simp +contextual only [a_i_within, c_i_within, go_sem, entry, joinEsc, if_pos, reduceIte, Nat.reduceAdd, Nat.reduceLeDiff, Nat.reduceLT, Nat.reduceEqDiff]

theorem e_s_l1In (x a b : Int) : call T pr f_s_l1In [.int .i64 x, .int .i64 a, .int .i64 b] ⟨H, e⟩ = some (.bool (decide (a ≤ x) && decide (x ≤ b)), ⟨H, e⟩) := by
  rw [call_eq t_s_l1In]
  simp +contextual only [a_s_l1In, c_s_l1In, go_sem, entry, joinEsc, if_pos, reduceIte, Nat.reduceAdd, Nat.reduceLeDiff, Nat.reduceLT, Nat.reduceEqDiff]

def okL (l : Ld) : Bool := (decide (0 ≤ l.1) && decide (l.1 ≤ 60)) && (decide (1 ≤ l.2) && decide (l.2 ≤ 99))
def rowOk (ls : List Ld) : Bool := decide (ls.length ≤ 12) && ls.all okL

end Go.Proofs.YtdohjcodjjogbaaDoor.Slim

/- Rows that grow. -/
namespace Go.Proofs.YtdohjcodjjogbaaDoor.Slim
open Go
set_option linter.unusedSimpArgs false
set_option linter.unusedVariables false

variable {pr : Prims} {H : List Blk} {e : Option Nat}

/-- what an append leaves of the blocks before it -/
def killIf (cap : Option Nat) (j : Nat) (G : List Blk) : List Blk := if cap = some 0 then G else G.set j .dead
theorem killIf_length (cap : Option Nat) (j : Nat) (G : List Blk) : (killIf cap j G).length = G.length := by unfold killIf; split <;> simp

theorem appendV_more {G : List Blk} {j k n sz bytes : Nat} {cs new : List AV} {cap : Option Nat} {str : Bool} {x : AV} (hb : G[j]? = some (.cells cs true)) (hx : srcCells str (H ++ G) x = some (k, new)) (hk : 0 < k)
    (hcs : cs.length = n * sz) (hnew : new.length = k * sz) (hmax : (n + k) * bytes ≤ maxBytes) (hcap : cap = some 0 → n = 0) :
    appendV (H ++ G) e str sz bytes (.slice (some (H.length + j, 0)) sz n cap) x = some (.slice (some (H.length + G.length, 0)) sz (n + k) none, ⟨H ++ (killIf cap j G ++ [.cells (cs ++ new) true]), e⟩) := by
  unfold appendV
  simp only [blkAt_newk, hb, hx]
  rw [if_pos ⟨trivial, hmax, hnew, by omega⟩]
  unfold killIf
  by_cases hc : cap = some 0
  · have hn := hcap hc
    subst hn
    have : cs = [] := by simpa using hcs
    subst this
    rw [if_pos ⟨hc, hk⟩, if_pos hc]
    simp
  · rw [if_neg (fun h => hc h.1), if_pos trivial, if_neg hc]
    have h1 : List.take (n * sz) (List.drop 0 cs) = cs := by rw [List.drop_zero, ← hcs, List.take_length]
    rw [h1, set_newk]
    simp

theorem srcCells_new (L : List Blk) (n sz : Nat) (cap : Option Nat) (cs : List AV) (b : Nat) (h : cellsAt L b = some cs) (hl : cs.length = n * sz) : srcCells false L (.slice (some (b, 0)) sz n cap) = some (n, cs) := by
  unfold srcCells
  simp only [Bool.false_eq_true, if_false, h]
  rw [if_pos (by omega), List.drop_zero, ← hl, List.take_length]

/-- one load more -/
theorem append_ld {G : List Blk} {j : Nat} {o : List Ld} {cap : Option Nat} (hG : G[j]? = some (.cells (encL o) true)) (hcap : cap = some 0 → o = []) (hmb : (o.length + 1) * 16 ≤ maxBytes) (a b : Int) :
    appendV (H ++ (G ++ [.cells [.int .i64 a, .int .i64 b] true])) e false 2 16 (slL (H.length + j) o.length cap) (.slice (some (H.length + G.length, 0)) 2 1 (some 1)) =
      some (slL (H.length + (G.length + 1)) (o.length + 1) none, ⟨H ++ (killIf cap j (G ++ [.cells [.int .i64 a, .int .i64 b] true]) ++ [.cells (encL o ++ [.int .i64 a, .int .i64 b]) true]), e⟩) := by
  have hj : j < G.length := (List.getElem?_eq_some_iff.mp hG).1
  rw [appendV_more (k := 1) (cs := encL o) (new := [.int .i64 a, .int .i64 b]) (by rw [List.getElem?_append_left hj]; exact hG)
    (srcCells_new _ 1 2 _ _ _ (by rw [cellsAt_newk, cellsAt_new0, cellsAt_cons0]) rfl) (by omega) (encL_length o) rfl hmb (fun h => by rw [hcap h]; rfl)]
  simp

/-- the loads of a convoy that have come so far -/
def rowAt (x : Int) (ls : List Ld) : List Ld := (ls.filter fun l => decide (l.1 ≤ x)).map fun l => (IntKind.i64.wrap (x - l.1), l.2)

end Go.Proofs.YtdohjcodjjogbaaDoor.Slim

/- Slices of numbers. -/
namespace Go.Proofs.YtdohjcodjjogbaaDoor.Slim

open Go

set_option linter.unusedSimpArgs false

set_option linter.unusedVariables false

variable {pr : Prims} {H : List Blk} {e : Option Nat}

abbrev encI (ls : List Int) : List AV := ls.map (AV.int .i64)

abbrev slI (b n : Nat) (c : Option Nat) : AV := .slice (some (b, 0)) 1 n c

theorem part_encI {ls : List Int} {i : Nat} {x : Int} (sz : Nat) (h : ls[i]? = some x) : part false (encI ls) i sz = some (.int .i64 x) := by
  rw [part_false, List.getElem?_map, h]; rfl

theorem under_encI (n : Nat) : ∀ ls : List Int, ((encI ls).all fun c => c.under n) = true
  | [] => rfl
  | l :: ls => by simp [encI, AV.under]

theorem zeros_encI : ∀ n, zeros n [.int .i64 0] = encI (List.replicate n 0)
  | 0 => rfl
  | n + 1 => by
    have := zeros_encI n
    unfold zeros encI at *
    simp only [List.replicate_succ, List.flatten_cons, List.map_cons, List.cons_append, List.nil_append, this]

theorem setRange_encI {X : List Int} {i : Nat} {a : Int} (h : i < X.length) : setRange (encI X) i [.int .i64 a] = encI (X.set i a) := by
  induction X generalizing i with
  | nil => simp at h
  | cons x X ih =>
    cases i with
    | zero => simp [encI, setRange]
    | succ i =>
      have := ih (i := i) (by simpa using h)
      simp only [encI, List.map_cons, List.set_cons_succ] at *
      rw [setRange_k, this]

theorem take_set_succ' {X ls : List Int} {i : Nat} (hi : i < ls.length) (hX : X.length = ls.length) (h : X.take i = ls.take i) : (X.set i ls[i]).take (i + 1) = ls.take (i + 1) := by
  rw [List.take_succ_eq_append_getElem (by rw [List.length_set]; omega), List.take_succ_eq_append_getElem hi]
  rw [List.take_set_of_le (Nat.le_refl _), h]
  simp

/-- a slice of numbers, as a law is handed it -/
def ArgI (H : List Blk) (av : AV) (ls : List Int) : Prop :=
  ∃ p sz c, av = .slice p sz ls.length c ∧ ls.length ≤ maxLen ∧ (ls ≠ [] → sz = 1 ∧ ∃ b, p = some (b, 0) ∧ cellsAt H b = some (encI ls))

theorem ArgI.more {av : AV} {ls : List Int} (h : ArgI H av ls) (G : List Blk) : ArgI (H ++ G) av ls := by
  obtain ⟨p, sz, c, h1, h2, h3⟩ := h
  refine ⟨p, sz, c, h1, h2, fun hne => ?_⟩
  obtain ⟨h4, b, h5, h6⟩ := h3 hne
  exact ⟨h4, b, h5, cells_mono h6 G⟩

theorem ints_of : ∀ (es : List (List Int)), (∀ e ∈ es, e.length = 1) → ∃ ls : List Int, es.flatten = ls ∧ ls.length = es.length
  | [], _ => ⟨[], rfl, rfl⟩
  | e :: es, h => by
    obtain ⟨ls, h1, h2⟩ := ints_of es (fun e' h' => h e' (by simp [h']))
    have h0 := h e (by simp)
    match e, h0 with
    | [x], _ => exact ⟨x :: ls, by simp [h1], by simp [h2]⟩

theorem argI_of {av : AV} {es : List (List Int)} (h : IsArg H av .i64 1 es) : ∃ ls, ArgI H av ls := by
  obtain ⟨h1, h2⟩ := h
  rcases h2 with ⟨rfl, rfl⟩ | ⟨b, cap, rfl, h3, h4, h5⟩
  · exact ⟨[], none, 0, none, rfl, Nat.zero_le _, fun h => absurd rfl h⟩
  · obtain ⟨ls, h6, h7⟩ := ints_of es (fun e he => (h1 e he).1)
    refine ⟨ls, some (b, 0), 1, some cap, by rw [h7], by omega, fun _ => ⟨rfl, b, rfl, ?_⟩⟩
    unfold cellsAt
    rw [h5, h6]

end Go.Proofs.YtdohjcodjjogbaaDoor.Slim

/- Rafts: what is valid, and the reserves. -/
namespace Go.Proofs.YtdohjcodjjogbaaDoor.Slim

open Go

set_option linter.unusedSimpArgs false

set_option linter.unusedVariables false

variable {pr : Prims} {H : List Blk} {e : Option Nat}

def baseOk (a b : Int) : Bool := ((decide (0 ≤ a) && decide (a ≤ 60)) && (decide (0 ≤ b) && decide (b ≤ 60))) && decide (a ≤ b)

abbrev rfV (a b o : Int) : AV := .agg [.int .i64 a, .int .i64 b, .int .i64 o]

def raftOk (a b o : Int) : Bool := baseOk a b && (decide (1 ≤ o) && decide (o ≤ 99))

def cargoOk (a b o : Int) (ls : List Ld) : Bool := (raftOk a b o && rowOk ls) && decide (ls.length ≤ 8)

end Go.Proofs.YtdohjcodjjogbaaDoor.Slim

/- Rafts: the reserves. -/
namespace Go.Proofs.YtdohjcodjjogbaaDoor.Slim

open Go

set_option linter.unusedSimpArgs false

set_option linter.unusedVariables false

variable {pr : Prims} {H : List Blk} {e : Option Nat}

abbrev wr (x : Int) : Int := IntKind.i64.wrap x

theorem wr_ex (x : Int) : ∃ k : Int, wr x = x + k * 18446744073709551616 := by
  refine ⟨if x % 18446744073709551616 ≥ 9223372036854775808 then -(x / 18446744073709551616) - 1 else -(x / 18446744073709551616), ?_⟩
  unfold wr IntKind.wrap
  simp [IntKind.signed, IntKind.bits]
  split <;> omega

theorem wr_add_mul (x k : Int) : wr (x + k * 18446744073709551616) = wr x := by
  unfold wr IntKind.wrap
  simp [IntKind.signed, IntKind.bits]

/-- is item i in the set n? -/
def bitW (n : Int) (i : Nat) : Bool := decide (andI .i64 (shrI .i64 n i) 1 = 1)

def resL (a acc : Int) (l : Ld) : Int := wr (acc + wr (wr (2 * l.2) * wr (l.1 - a)))

def resR (b acc : Int) (l : Ld) : Int := wr (acc + wr (wr (2 * l.2) * wr (b - l.1)))

theorem resR_eq (b acc : Int) (l : Ld) : wr (acc - wr (wr (2 * l.2) * wr (l.1 - b))) = resR b acc l := by
  unfold resR
  obtain ⟨k1, h1⟩ := wr_ex (l.1 - b)
  obtain ⟨k2, h2⟩ := wr_ex (b - l.1)
  generalize wr (2 * l.2) = u
  obtain ⟨k3, h3⟩ := wr_ex (u * wr (l.1 - b))
  obtain ⟨k4, h4⟩ := wr_ex (u * wr (b - l.1))
  rw [h3, h4, h1, h2]
  have : acc - (u * (l.1 - b + k1 * 18446744073709551616) + k3 * 18446744073709551616) = acc + (u * (b - l.1 + k2 * 18446744073709551616) + k4 * 18446744073709551616) + (-(u * (k1 + k2)) - k3 - k4) * 18446744073709551616 := by
    have e1 : u * (l.1 - b + k1 * 18446744073709551616) = u * (l.1 - b) + u * k1 * 18446744073709551616 := by rw [Int.mul_add, Int.mul_assoc]
    have e2 : u * (b - l.1 + k2 * 18446744073709551616) = u * (b - l.1) + u * k2 * 18446744073709551616 := by rw [Int.mul_add, Int.mul_assoc]
    have e3 : u * (b - l.1) = -(u * (l.1 - b)) := by rw [← Int.mul_neg]; congr 1; omega
    have e4 : u * (k1 + k2) = u * k1 + u * k2 := Int.mul_add _ _ _
    rw [e1, e2, e3, e4]
    omega
  rw [this, wr_add_mul]

/-- over the items of the set n, from number i on -/
def overBits (f : Int → Ld → Int) (n : Int) : Nat → List Ld → Int → Int
  | _, [], acc => acc
  | i, l :: ls, acc => overBits f n (i + 1) ls (if bitW n i = true then f acc l else acc)

theorem shr_nat (x : Int) (i : Nat) : binop 0 .shr (.int .i64 x) (.int .i64 (i : Int)) = some (.int .i64 (shrI .i64 x i)) := by
  rw [binop_shr, if_neg (by omega)]

end Go.Proofs.YtdohjcodjjogbaaDoor.Slim

/- Rafts: safe sets. -/
namespace Go.Proofs.YtdohjcodjjogbaaDoor.Slim

open Go

set_option linter.unusedSimpArgs false

set_option linter.unusedVariables false

variable {pr : Prims} {H : List Blk} {e : Option Nat}

def own0 (a b o : Int) : Int := wr (o * wr (b - a))

def safeW (a b o : Int) (ls : List Ld) (n : Int) : Bool := decide (0 ≤ overBits (resL a) n 0 ls (own0 a b o)) && decide (0 ≤ overBits (resR b) n 0 ls (own0 a b o))

end Go.Proofs.YtdohjcodjjogbaaDoor.Slim

/- Orders of a cargo. -/
namespace Go.Proofs.YtdohjcodjjogbaaDoor.Slim

open Go

set_option linter.unusedSimpArgs false

set_option linter.unusedVariables false

variable {pr : Prims} {H : List Blk} {e : Option Nat}

theorem length_le_of_sub {r : List Int} : ∀ {l : List Int}, r.Nodup → (∀ x ∈ r, x ∈ l) → r.length ≤ l.length := by
  induction r with
  | nil => intro l _ _; exact Nat.zero_le _
  | cons a r ih =>
    intro l hn hs
    have ha := hs a (by simp)
    obtain ⟨h1, h2⟩ := List.nodup_cons.mp hn
    have h3 := ih (l := l.erase a) h2 (fun x hx => by
      have hne : x ≠ a := fun e => h1 (e ▸ hx)
      exact (List.mem_erase_of_ne hne).mpr (hs x (by simp [hx])))
    have h4 := List.length_erase_of_mem ha
    have h5 := List.length_pos_of_mem ha
    simp only [List.length_cons]
    omega

/-- the numbers below n -/
def nums (n : Nat) : List Int := (List.range n).map fun (i : Nat) => (i : Int)

theorem nums_length (n : Nat) : (nums n).length = n := by simp [nums]

theorem mem_nums {n : Nat} {x : Int} : x ∈ nums n ↔ 0 ≤ x ∧ x < n := by
  unfold nums
  rw [List.mem_map]
  constructor
  · rintro ⟨i, hi, rfl⟩
    rw [List.mem_range] at hi
    omega
  · rintro ⟨h1, h2⟩
    exact ⟨x.toNat, by rw [List.mem_range]; omega, by omega⟩

theorem nums_nodup (n : Nat) : (nums n).Nodup := by
  unfold nums
  refine List.Pairwise.map _ ?_ List.nodup_range
  intro a b h e
  exact h (by omega)

/-- a list of n numbers has all numbers below n exactly if it has none twice, and no other -/
theorem order_iff {l : List Int} {n : Nat} (hl : l.length = n) : (∀ x : Int, 0 ≤ x → x < n → x ∈ l) ↔ (l.Nodup ∧ ∀ x ∈ l, 0 ≤ x ∧ x < n) := by
  constructor
  · intro h
    have key : ∀ (l' : List Int), (∀ x ∈ nums n, x ∈ l') → n ≤ l'.length := fun l' h' => by
      have := length_le_of_sub (nums_nodup n) h'
      rwa [nums_length] at this
    have hin : ∀ x ∈ l, 0 ≤ x ∧ x < n := by
      intro x hx
      refine Classical.byContradiction fun hc => ?_
      have := key (l.erase x) (fun y hy => by
        have hy' := mem_nums.mp hy
        have hne : y ≠ x := fun e => hc (e ▸ hy')
        exact (List.mem_erase_of_ne hne).mpr (h y hy'.1 hy'.2))
      have h4 := List.length_erase_of_mem hx
      have h5 := List.length_pos_of_mem hx
      omega
    refine ⟨?_, hin⟩
    have gen : ∀ (l : List Int), ¬ l.Nodup → ∃ x ∈ l, x ∈ l.erase x := by
      intro l
      induction l with
      | nil => intro h; exact absurd List.nodup_nil h
      | cons a l ih =>
        intro h
        by_cases ha : a ∈ l
        · exact ⟨a, by simp, by simpa using ha⟩
        · have hn : ¬ l.Nodup := fun hn => h (List.nodup_cons.mpr ⟨ha, hn⟩)
          obtain ⟨x, h1, h2⟩ := ih hn
          have hne : ¬ a = x := fun e => ha (e ▸ h1)
          refine ⟨x, by simp [h1], ?_⟩
          rw [List.erase_cons_tail (by simpa using hne)]
          simp [h2]
    refine Classical.byContradiction fun hc => ?_
    obtain ⟨x, h1, h2⟩ := gen l hc
    have := key (l.erase x) (fun y hy => by
      have hy' := mem_nums.mp hy
      by_cases e : y = x
      · rw [e]; exact h2
      · exact (List.mem_erase_of_ne e).mpr (h y hy'.1 hy'.2))
    have h4 := List.length_erase_of_mem h1
    have h5 := List.length_pos_of_mem h1
    omega
  · rintro ⟨h1, h2⟩ x hx0 hx1
    refine Classical.byContradiction fun hc => ?_
    have := length_le_of_sub (r := x :: l) (l := nums n) (List.nodup_cons.mpr ⟨hc, h1⟩) (fun y hy => by
      rcases List.mem_cons.mp hy with rfl | hy
      · exact mem_nums.mpr ⟨hx0, hx1⟩
      · exact mem_nums.mpr (h2 y hy))
    rw [nums_length] at this
    simp at this
    omega

theorem bits_facts : ∀ m : Nat, m < 256 → ∀ x : Nat, x < 8 → (m.testBit x = bitW m x ∧ shlI .i64 1 (x : Int) = ((2 ^ x : Nat) : Int) ∧ (m.testBit x = false → orI .i64 m (shlI .i64 1 (x : Int)) = ((m + 2 ^ x : Nat) : Int) ∧ wr ((m : Int) + shlI .i64 1 (x : Int)) = ((m + 2 ^ x : Nat) : Int) ∧ m + 2 ^ x < 256 ∧ ∀ y : Nat, y < 8 → (m + 2 ^ x).testBit y = (m.testBit y || decide (x = y)))) := by
  decide +kernel

end Go.Proofs.YtdohjcodjjogbaaDoor.Slim

/- Rafts: in how many ways the rest can be loaded, on both sides. -/
namespace Go.Proofs.YtdohjcodjjogbaaDoor.Slim

open Go

set_option linter.unusedSimpArgs false

set_option linter.unusedVariables false

variable {pr : Prims} {H : List Blk} {e : Option Nat}

theorem pow_facts : ∀ n : Nat, n < 9 → (shlI .i64 1 (n : Int) = ((2 ^ n : Nat) : Int) ∧ 2 ^ n ≤ 256 ∧ 0 < 2 ^ n) := by decide +kernel

theorem set_facts : ∀ n : Nat, n < 9 → ∀ c : Nat, c < 2 ^ n → ∀ i : Nat, i < n → (c.testBit i = false → c + 2 ^ i < 2 ^ n) ∧ (c + 1 = 2 ^ n → c.testBit i = true) := by decide +kernel

theorem getD_get {W : List Int} {c : Nat} (h : c < W.length) : W[c]? = some (W.getD c 0) := by
  rw [List.getD_eq_getElem?_getD, List.getElem?_eq_getElem h]; rfl

/-- c's ways, grown by those of the items from i on -/
def waysIn (c : Nat) : Nat → Nat → List Int → List Int
  | 0, _, W => W
  | k + 1, i, W => waysIn c k (i + 1) (if c.testBit i = true then W else W.set c (wr (W.getD c 0 + W.getD (c + 2 ^ i) 0)))

theorem waysIn_length {c : Nat} : ∀ (k i : Nat) (W : List Int), (waysIn c k i W).length = W.length
  | 0, _, W => rfl
  | k + 1, i, W => by
    rw [waysIn, waysIn_length k]
    split <;> simp

theorem waysIn_full {c : Nat} : ∀ (k i : Nat) (W : List Int), (∀ j, i ≤ j → j < i + k → c.testBit j = true) → waysIn c k i W = W
  | 0, _, W, _ => rfl
  | k + 1, i, W, h => by
    rw [waysIn, if_pos (h i (by omega) (by omega)), waysIn_full k _ _ (fun j h1 h2 => h j (by omega) (by omega))]

def waysStep (safe : Nat → Bool) (n c : Nat) (W : List Int) : List Int := if safe c = true then (if c + 1 = 2 ^ n then W.set c 1 else waysIn c n 0 W) else W

theorem waysStep_length (safe : Nat → Bool) (n c : Nat) (W : List Int) : (waysStep safe n c W).length = W.length := by
  unfold waysStep
  split
  · split
    · simp
    · exact waysIn_length _ _ _
  · rfl

/-- the sets below c, from the last one to the first -/
def waysDown (safe : Nat → Bool) (n : Nat) : Nat → List Int → List Int
  | 0, W => W
  | c + 1, W => waysDown safe n c (waysStep safe n c W)

theorem waysDown_length (safe : Nat → Bool) (n : Nat) : ∀ (c : Nat) (W : List Int), (waysDown safe n c W).length = W.length
  | 0, W => rfl
  | c + 1, W => by rw [waysDown, waysDown_length safe n c, waysStep_length]

def waysW (a b o : Int) (ls : List Ld) : List Int := waysDown (fun c => safeW a b o ls (c : Int)) ls.length (2 ^ ls.length) (List.replicate (2 ^ ls.length) 0)

theorem waysW_length (a b o : Int) (ls : List Ld) : (waysW a b o ls).length = 2 ^ ls.length := by
  unfold waysW
  rw [waysDown_length]
  simp

theorem bit_clear {c i : Nat} (hc : c < 256) (hi : i < 8) (h : c.testBit i = false) : andI .i64 (shrI .i64 c (i : Int)) 1 = 0 := by
  have : ∀ c : Nat, c < 256 → ∀ i : Nat, i < 8 → c.testBit i = false → andI .i64 (shrI .i64 c (i : Int)) 1 = 0 := by decide +kernel
  exact this c hc i hi h

theorem bit_set {c i : Nat} (hc : c < 256) (hi : i < 8) (h : c.testBit i = true) : andI .i64 (shrI .i64 c (i : Int)) 1 = 1 := by
  have : ∀ c : Nat, c < 256 → ∀ i : Nat, i < 8 → c.testBit i = true → andI .i64 (shrI .i64 c (i : Int)) 1 = 1 := by decide +kernel
  exact this c hc i hi h

theorem fin_ways (x : Blk) (W : List Int) (n : Nat) (c : Option Nat) (e0 : Option Nat) : finish 2 H.length e0 (slI (H.length + 1) n c) ⟨H ++ [x, Blk.cells (encI W) true], none⟩ = some (slI H.length n c, ⟨H ++ [Blk.cells (encI W) true], e0⟩) :=
  finish_two_at e0 rfl (under_encI _ _)

end Go.Proofs.YtdohjcodjjogbaaDoor.Slim

/- Rafts: what the ways tell; the next steps. -/
namespace Go.Proofs.YtdohjcodjjogbaaDoor.Slim

open Go

set_option linter.unusedSimpArgs false

set_option linter.unusedVariables false

variable {pr : Prims} {H : List Blk} {e : Option Nat}

/-- the items that are not in c -/
def mu (n c : Nat) : Nat := ((List.range n).filter fun i => !c.testBit i).length

theorem mu_facts : ∀ n : Nat, n < 9 → ∀ c : Nat, c < 2 ^ n → (mu n c ≤ 8 ∧ (mu n c = 0 ↔ c + 1 = 2 ^ n) ∧ ∀ i : Nat, i < n → c.testBit i = false → mu n c = mu n (c + 2 ^ i) + 1) := by decide +kernel

theorem mu_zero (n : Nat) : mu n 0 = n := by
  unfold mu
  rw [List.filter_eq_self.mpr (by simp)]
  simp

/-- item i can be added to c, and the rest in some way behind it -/
def okStep (W : List Int) (c i : Nat) : Bool := !c.testBit i && decide (0 < W.getD (c + 2 ^ i) 0)

def stepsW (W : List Int) (n c : Nat) : List Int := ((List.range n).filter (okStep W c)).map fun (i : Nat) => (i : Int)

theorem getD_set (W : List Int) (c d : Nat) (x : Int) (h : c < W.length) : (W.set c x).getD d 0 = if c = d then x else W.getD d 0 := by
  rw [List.getD_eq_getElem?_getD, List.getD_eq_getElem?_getD, List.getElem?_set]
  by_cases hd : c = d
  · subst hd; rw [if_pos rfl, if_pos rfl, if_pos h]; rfl
  · rw [if_neg hd, if_neg hd]

theorem waysIn_spec {c n b : Nat} : ∀ (k i : Nat) (W : List Int), k + i = n → c < W.length → (∀ j, j < n → c.testBit j = false → 0 ≤ W.getD (c + 2 ^ j) 0 ∧ W.getD (c + 2 ^ j) 0 ≤ b) → 0 ≤ W.getD c 0 → W.getD c 0 + k * b ≤ 9223372036854775807 →
    (∀ d, d ≠ c → (waysIn c k i W).getD d 0 = W.getD d 0) ∧ W.getD c 0 ≤ (waysIn c k i W).getD c 0 ∧ (waysIn c k i W).getD c 0 ≤ W.getD c 0 + k * b ∧ (W.getD c 0 < (waysIn c k i W).getD c 0 → ∃ j, j < n ∧ okStep W c j = true)
  | 0, i, W, hk, hc, hb, h0, hm => by
    rw [waysIn]
    refine ⟨fun d _ => rfl, Int.le_refl _, by omega, fun h => by omega⟩
  | k + 1, i, W, hk, hc, hb, h0, hm => by
    rw [waysIn]
    have hkb : ((k + 1 : Nat) : Int) * (b : Int) = (k : Int) * b + b := by
      rw [Int.natCast_add, Int.add_mul]; simp
    cases h1 : c.testBit i with
    | true =>
      rw [if_pos rfl]
      obtain ⟨r1, r2, r3, r4⟩ := waysIn_spec (n := n) (b := b) k (i + 1) W (by omega) hc hb h0 (by omega)
      exact ⟨r1, r2, by omega, r4⟩
    | false =>
      rw [if_neg (by simp)]
      obtain ⟨b1, b2⟩ := hb i (by omega) h1
      have hkb0 : (0 : Int) ≤ (k : Int) * b := Int.mul_nonneg (by omega) (by omega)
      have hwr : wr (W.getD c 0 + W.getD (c + 2 ^ i) 0) = W.getD c 0 + W.getD (c + 2 ^ i) 0 := wrap64 (by omega) (by omega)
      rw [hwr]
      generalize hx : W.getD c 0 + W.getD (c + 2 ^ i) 0 = x
      have hne : ∀ j, c + 2 ^ j ≠ c := fun j hj => by have := Nat.two_pow_pos j; omega
      have gs := fun d => getD_set W c d x hc
      obtain ⟨r1, r2, r3, r4⟩ := waysIn_spec (c := c) (n := n) (b := b) k (i + 1) (W.set c x) (by omega) (by simpa using hc)
        (fun j hj hjc => by rw [gs, if_neg (fun h => hne j h.symm)]; exact hb j hj hjc) (by rw [gs, if_pos rfl]; omega) (by rw [gs, if_pos rfl]; omega)
      rw [gs c, if_pos rfl] at r2 r3 r4
      refine ⟨fun d hd => by rw [r1 d hd, gs, if_neg (fun h => hd h.symm)], by omega, by omega, fun hlt => ?_⟩
      by_cases hz : 0 < W.getD (c + 2 ^ i) 0
      · exact ⟨i, by omega, by simp [okStep, h1]; simpa using hz⟩
      · obtain ⟨j, j1, j2⟩ := r4 (by omega)
        refine ⟨j, j1, ?_⟩
        unfold okStep at j2 ⊢
        rw [gs, if_neg (fun h => hne j h.symm)] at j2
        exact j2

/-- what is true of c's ways -/
def goodW (n : Nat) (W : List Int) (c : Nat) : Prop := 0 ≤ W.getD c 0 ∧ W.getD c 0 ≤ ((8 ^ mu n c : Nat) : Int) ∧ (0 < W.getD c 0 → mu n c ≠ 0 → ∃ i, i < n ∧ okStep W c i = true)

theorem goodW_of {n c : Nat} {W W' : List Int} (hs : ∀ d, c ≤ d → W'.getD d 0 = W.getD d 0) (h : goodW n W c) : goodW n W' c := by
  obtain ⟨h1, h2, h3⟩ := h
  refine ⟨by rw [hs c (Nat.le_refl _)]; exact h1, by rw [hs c (Nat.le_refl _)]; exact h2, fun k1 k2 => ?_⟩
  rw [hs c (Nat.le_refl _)] at k1
  obtain ⟨i, i1, i2⟩ := h3 k1 k2
  refine ⟨i, i1, ?_⟩
  unfold okStep at *
  rw [hs _ (Nat.le_add_right _ _)]
  exact i2

theorem waysDown_good {n F : Nat} (safe : Nat → Bool) (hn8 : n ≤ 8) (hF : F = 2 ^ n) : ∀ (C : Nat) (W : List Int), C ≤ F → W.length = F → (∀ c, c < C → W.getD c 0 = 0) → (∀ c, C ≤ c → c < F → goodW n W c) →
    ∀ c, c < F → goodW n (waysDown safe n C W) c
  | 0, W, _, _, _, h => fun c hc => by rw [waysDown]; exact h c (by omega) hc
  | C + 1, W, hC, hW, hz, h => by
    rw [waysDown]
    obtain ⟨m1, m2, m3⟩ := mu_facts n (by omega) C (by omega)
    have hz0 := hz C (by omega)
    have hCW : C < W.length := by omega
    have key : (∀ d, d ≠ C → (waysStep safe n C W).getD d 0 = W.getD d 0) ∧ goodW n (waysStep safe n C W) C := by
      unfold waysStep
      cases hs : safe C with
      | false =>
        rw [if_neg (by simp)]
        refine ⟨fun d _ => rfl, by omega, ?_, fun k1 => by omega⟩
        rw [hz0]; exact Int.natCast_nonneg _
      | true =>
        rw [if_pos rfl]
        by_cases hc : C + 1 = 2 ^ n
        · rw [if_pos hc]
          have gs := fun d => getD_set W C d 1 hCW
          have hm0 := m2.mpr hc
          refine ⟨fun d hd => by rw [gs, if_neg (fun h => hd h.symm)], ?_, ?_, fun _ k2 => absurd hm0 k2⟩
          · rw [gs, if_pos rfl]; omega
          · rw [gs, if_pos rfl, hm0]; simp
        · rw [if_neg hc]
          have hm0 : mu n C ≠ 0 := fun h => hc (m2.mp h)
          obtain ⟨m', hm'⟩ : ∃ m', mu n C = m' + 1 := ⟨mu n C - 1, by omega⟩
          have hp : 8 ^ m' ≤ 8 ^ 7 := Nat.pow_le_pow_right (by omega) (by omega)
          have hnb : (n : Int) * ((8 ^ m' : Nat) : Int) ≤ 8 * ((8 ^ m' : Nat) : Int) := Int.mul_le_mul_of_nonneg_right (by omega) (Int.natCast_nonneg _)
          have h87 : (8 : Nat) ^ 7 = 2097152 := by decide
          obtain ⟨r1, r2, r3, r4⟩ := waysIn_spec (c := C) (n := n) (b := 8 ^ m') n 0 W (by omega) hCW (fun j hj hjc => by
            have hlt := (set_facts n (by omega) C (by omega) j hj).1 hjc
            obtain ⟨g1, g2, _⟩ := h (C + 2 ^ j) (by have := Nat.two_pow_pos j; omega) (by omega)
            have := m3 j hj hjc
            rw [show mu n (C + 2 ^ j) = m' by omega] at g2
            exact ⟨g1, g2⟩) (by omega) (by omega)
          refine ⟨r1, by omega, ?_, fun k1 _ => ?_⟩
          · rw [hm', Nat.pow_succ]
            omega
          · obtain ⟨j, j1, j2⟩ := r4 (by omega)
            refine ⟨j, j1, ?_⟩
            unfold okStep at j2 ⊢
            rw [r1 _ (by have := Nat.two_pow_pos j; omega)]
            exact j2
    obtain ⟨k1, k2⟩ := key
    refine waysDown_good safe hn8 hF C _ (by omega) (by rw [waysStep_length]; exact hW) (fun c hc => by rw [k1 c (by omega)]; exact hz c (by omega)) ?_
    intro c hc1 hc2
    by_cases he : c = C
    · rw [he]; exact k2
    · exact goodW_of (W := W) (fun d hd => k1 d (by omega)) (h c (by omega) hc2)

theorem waysW_good {a b o : Int} {ls : List Ld} (hn8 : ls.length ≤ 8) : ∀ c, c < 2 ^ ls.length → goodW ls.length (waysW a b o ls) c :=
  waysDown_good _ hn8 rfl _ _ (Nat.le_refl _) (by simp) (fun c hc => by rw [List.getD_eq_getElem?_getD, List.getElem?_replicate, if_pos hc]; rfl) (fun c h1 h2 => absurd h1 (by omega))

theorem encI_append (a b : List Int) : encI (a ++ b) = encI a ++ encI b := by simp [encI]

/-- one number more -/
theorem append_in {G : List Blk} {j : Nat} {o : List Int} {cap : Option Nat} (hG : G[j]? = some (.cells (encI o) true)) (hcap : cap = some 0 → o = []) (hmb : (o.length + 1) * 8 ≤ maxBytes) (a : Int) :
    appendV (H ++ (G ++ [.cells [.int .i64 a] true])) e false 1 8 (slI (H.length + j) o.length cap) (.slice (some (H.length + G.length, 0)) 1 1 (some 1)) =
      some (slI (H.length + (G.length + 1)) (o.length + 1) none, ⟨H ++ (killIf cap j (G ++ [.cells [.int .i64 a] true]) ++ [.cells (encI o ++ [.int .i64 a]) true]), e⟩) := by
  have hj : j < G.length := (List.getElem?_eq_some_iff.mp hG).1
  rw [appendV_more (k := 1) (cs := encI o) (new := [.int .i64 a]) (by rw [List.getElem?_append_left hj]; exact hG)
    (srcCells_new _ 1 1 _ _ _ (by rw [cellsAt_newk, cellsAt_new0, cellsAt_cons0]) rfl) (by omega) (by simp) rfl hmb (fun h => by rw [hcap h]; rfl)]
  simp

end Go.Proofs.YtdohjcodjjogbaaDoor.Slim

/- Rafts: sets that rise, and the next safe steps; the law. -/
namespace Go.Proofs.YtdohjcodjjogbaaDoor.Slim

open Go

set_option linter.unusedSimpArgs false

set_option linter.unusedVariables false

variable {pr : Prims} {H : List Blk} {e : Option Nat}

/-- does a list rise, above lo and below n? -/
def rises (n : Int) : Int → List Int → Bool
  | _, [] => true
  | lo, x :: xs => (decide (lo < x) && decide (x ≤ n - 1)) && rises n x xs

def bitsF (acc : Int) : List Int → Int
  | [] => acc
  | x :: xs => bitsF (orI .i64 acc (shlI .i64 1 x)) xs

def codeN (m : Nat) : List Int → Nat
  | [] => m
  | x :: xs => codeN (m + 2 ^ x.toNat) xs

/-- what stands before place i -/
def before (os : List Int) (i : Nat) (lo : Int) : Prop := (i = 0 ∧ lo = -1) ∨ ∃ i', i = i' + 1 ∧ os[i']? = some lo ∧ 0 ≤ lo

theorem before_next {os : List Int} {i : Nat} {x : Int} (h : os[i]? = some x) (h0 : 0 ≤ x) : before os (i + 1) x := .inr ⟨i, rfl, h, h0⟩

theorem before_in {os : List Int} {i : Nat} {lo : Int} {x n : Int} (h : before os i lo) (hw : (decide (0 ≤ x) && decide (x ≤ n)) = false) : (decide (lo < x) && decide (x ≤ n)) = false := by
  have : -1 ≤ lo := by
    rcases h with ⟨_, rfl⟩ | ⟨_, _, _, h⟩ <;> omega
  simp only [Bool.and_eq_false_iff, decide_eq_false_iff_not] at *
  omega

theorem low_bits : ∀ m : Nat, m < 256 → ∀ x : Nat, x < 8 → m < 2 ^ x → (m.testBit x = false ∧ m + 2 ^ x < 2 ^ (x + 1)) := by decide +kernel

theorem pow_mono8 : ∀ n : Nat, n < 9 → ∀ x : Nat, x < n → 2 ^ (x + 1) ≤ 2 ^ n := by decide +kernel

theorem bitsF_code {n : Nat} (hn8 : n ≤ 8) : ∀ (os : List Int) (lo : Int) (m : Nat), -1 ≤ lo → lo < n → m < 2 ^ (lo + 1).toNat → rises n lo os = true → bitsF m os = (codeN m os : Nat) ∧ codeN m os < 2 ^ n
  | [], lo, m, h1, h2, h3, _ => by
    refine ⟨rfl, ?_⟩
    rw [codeN]
    have : (2 : Nat) ^ (lo + 1).toNat ≤ 2 ^ n := Nat.pow_le_pow_right (by omega) (by omega)
    omega
  | x :: xs, lo, m, h1, h2, h3, hr => by
    rw [rises, Bool.and_eq_true, Bool.and_eq_true, decide_eq_true_eq, decide_eq_true_eq] at hr
    obtain ⟨⟨r1, r2⟩, r3⟩ := hr
    obtain ⟨y, rfl⟩ : ∃ y : Nat, x = y := ⟨x.toNat, by omega⟩
    have hp : (2 : Nat) ^ (lo + 1).toNat ≤ 2 ^ y := Nat.pow_le_pow_right (by omega) (by omega)
    have hp8 : (2 : Nat) ^ y ≤ 2 ^ 8 := Nat.pow_le_pow_right (by omega) (by omega)
    have h256 : (2 : Nat) ^ 8 = 256 := by decide
    obtain ⟨l1, l2⟩ := low_bits m (by omega) y (by omega) (by omega)
    obtain ⟨_, _, f3⟩ := bits_facts m (by omega) y (by omega)
    obtain ⟨g1, _, _, _⟩ := f3 l1
    rw [bitsF, codeN, g1, Int.toNat_natCast]
    exact bitsF_code hn8 xs y (m + 2 ^ y) (by omega) (by omega) (by rw [show ((y : Int) + 1).toNat = y + 1 by omega]; exact l2) r3

/-- a set of a cargo -/
def setOk (a b o : Int) (ls : List Ld) (os : List Int) : Bool := cargoOk a b o ls && rises ls.length (-1) os

/-- is the set one from which steps are told? -/
def canS (a b o : Int) (ls : List Ld) (os : List Int) : Bool := setOk a b o ls os && safeW a b o ls ((codeN 0 os : Nat) : Int)

def ssW (a b o : Int) (ls : List Ld) (os : List Int) : List Int := stepsW (waysW a b o ls) ls.length (codeN 0 os)

theorem ssW_le (a b o : Int) (ls : List Ld) (os : List Int) : (ssW a b o ls os).length ≤ ls.length := by
  unfold ssW stepsW
  rw [List.length_map]
  have := List.length_filter_le (okStep (waysW a b o ls) (codeN 0 os)) (List.range ls.length)
  simpa using this

end Go.Proofs.YtdohjcodjjogbaaDoor.Slim
