/- The slim functions are the program's. -/
import Derived.Test.YtdohjcodjjogbaaSlimFns
import Derived.Test.YtdohjcodjjogbaaChecked
namespace Go.Proofs.Ytdohjcodjjogbaa.Slim
open Go
theorem ok_gosem_cut_init : compileFn Try.prog [] 1 [] Try.f2 = some a_gosem_cut_init := by kernel_rfl
theorem ok_l_FnExactIsValidRecord : compileFn Try.prog [0, 1, 2, 3, 4, 5, 10, 19] 1 [] Try.f3 = some a_l_FnExactIsValidRecord := by kernel_rfl
theorem ok_l_szLogRecord : compileFn Try.prog [0, 1, 2, 4, 11, 18] 1 [] Try.f4 = some a_l_szLogRecord := by kernel_rfl
theorem ok_s_IsValidRecord : compileFn Try.prog [0, 1, 2] 1 [] Try.f5 = some a_s_IsValidRecord := by kernel_rfl
theorem ok_l_toLogRecord : compileFn Try.prog [0, 1, 2, 3] 1 [] Try.f6 = some a_l_toLogRecord := by kernel_rfl
theorem ok_i_IsValidRecord : compileFn Try.prog [0, 1, 2] 1 [] Try.f7 = some a_i_IsValidRecord := by kernel_rfl
theorem ok_s_l12Record : compileFn Try.prog [0, 1, 2] 1 [] Try.f8 = some a_s_l12Record := by kernel_rfl
theorem ok_i_within : compileFn Try.prog [0, 1, 2, 6] 1 [] Try.f9 = some a_i_within := by kernel_rfl
theorem ok_i_isText : compileFn Try.prog [0, 2, 3, 5, 6, 7, 24] 1 [] Try.f10 = some a_i_isText := by kernel_rfl
theorem ok_s_l12Bytes : compileFn Try.prog [0, 1, 4, 5, 9, 23] 1 [] Try.f12 = some a_s_l12Bytes := by kernel_rfl
theorem ok_s_l1Stands : compileFn Try.prog [0, 1, 4, 5, 9, 16] 1 [] Try.f13 = some a_s_l1Stands := by kernel_rfl
theorem ok_strings_Index : compileFn Try.prog [0, 1, 4] 1 [] Try.f14 = some a_strings_Index := by kernel_rfl
theorem ok_s_l1In : compileFn Try.prog [0, 1, 2, 6] 1 [] Try.f15 = some a_s_l1In := by kernel_rfl
theorem ok_internal_stringslite_IndexByte : compileFn Try.prog [0, 1, 4] 1 [] Try.f17 = some a_internal_stringslite_IndexByte := by kernel_rfl
theorem ok_internal_bytealg_Cutover : compileFn Try.prog [0, 2] 1 [] Try.f19 = some a_internal_bytealg_Cutover := by kernel_rfl
theorem ok_internal_bytealg_IndexRabinKarp_string : compileFn Try.prog [0, 1, 4, 5, 6, 7, 8, 9, 10, 20, 39, 44, 77] 1 [] Try.f20 = some a_internal_bytealg_IndexRabinKarp_string := by kernel_rfl
theorem ok_internal_bytealg_hashStr_string : compileFn Try.prog [0, 2, 3, 4, 5, 6, 7, 8, 12, 25, 30] 1 [] Try.f22 = some a_internal_bytealg_hashStr_string := by kernel_rfl
theorem tabOk : TableOk Try.prog T := tableOk_of (by
  unfold tab
  exact allCons ⟨_, _, _, _, Try.func2, ok_gosem_cut_init⟩ <|
    allCons ⟨_, _, _, _, Try.func3, ok_l_FnExactIsValidRecord⟩ <|
    allCons ⟨_, _, _, _, Try.func4, ok_l_szLogRecord⟩ <|
    allCons ⟨_, _, _, _, Try.func5, ok_s_IsValidRecord⟩ <|
    allCons ⟨_, _, _, _, Try.func6, ok_l_toLogRecord⟩ <|
    allCons ⟨_, _, _, _, Try.func7, ok_i_IsValidRecord⟩ <|
    allCons ⟨_, _, _, _, Try.func8, ok_s_l12Record⟩ <|
    allCons ⟨_, _, _, _, Try.func9, ok_i_within⟩ <|
    allCons ⟨_, _, _, _, Try.func10, ok_i_isText⟩ <|
    allCons ⟨_, _, _, _, Try.func12, ok_s_l12Bytes⟩ <|
    allCons ⟨_, _, _, _, Try.func13, ok_s_l1Stands⟩ <|
    allCons ⟨_, _, _, _, Try.func14, ok_strings_Index⟩ <|
    allCons ⟨_, _, _, _, Try.func15, ok_s_l1In⟩ <|
    allCons ⟨_, _, _, _, Try.func17, ok_internal_stringslite_IndexByte⟩ <|
    allCons ⟨_, _, _, _, Try.func19, ok_internal_bytealg_Cutover⟩ <|
    allCons ⟨_, _, _, _, Try.func20, ok_internal_bytealg_IndexRabinKarp_string⟩ <|
    allCons ⟨_, _, _, _, Try.func22, ok_internal_bytealg_hashStr_string⟩ <|
    allNil)
end Go.Proofs.Ytdohjcodjjogbaa.Slim
