/- Parts of the proof. -/
import Derived.Test.YtemcdiajejekoaaGreatDoorSlimZw19
import Derived.Test.YtemcdiajejekoaaGreatDoorRows
import Derived.Test.YtemcdiajejekoaaGreatDoorCards
import Derived.SevenTiedAt
set_option linter.unusedSimpArgs false
set_option linter.unusedVariables false
namespace Go.Proofs.YtemcdiajejekoaaGreatDoor.fnConsoleWords
theorem ZCt:Rows.fnConsoleWordsRow.wfByText (OpenSpec.ofChange Rows.fnConsoleWordsSpec)=true:=by kernel_rfl
theorem ZAE:Tryz.pinned.checked.prog.mainIs=some (Rows.fnConsoleWordsCard.stood.harness.1,Rows.fnConsoleWordsCard.stood.harness.2.toList):=by kernel_rfl
theorem ZAF:Tryz.pinned.checked.prog.funcNamed Rows.fnConsoleWordsRow.func=some 6:=by kernel_rfl
theorem Zzb:true=Tryz.pinned.checked.prog.looks []:=by kernel_rfl
theorem ZAG:false=Rows.fnConsoleWordsRow.goesBy Tryz.pinned.checked.prog:=by kernel_rfl
theorem Zzc:([47].all fun u => !Tryz.pinned.checked.prog.wantsStandIn u)=true:=by kernel_rfl
end Go.Proofs.YtemcdiajejekoaaGreatDoor.fnConsoleWords
