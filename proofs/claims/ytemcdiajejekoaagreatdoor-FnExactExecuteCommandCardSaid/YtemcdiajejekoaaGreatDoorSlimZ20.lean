/- Parts of the proof. -/
import Derived.Test.YtemcdiajejekoaaGreatDoorSlimZ19
import Derived.Test.YtemcdiajejekoaaGreatDoorRows
import Derived.Test.YtemcdiajejekoaaGreatDoorCards
import Derived.SevenTiedAt
set_option linter.unusedSimpArgs false
set_option linter.unusedVariables false
namespace Go.Proofs.YtemcdiajejekoaaGreatDoor.fnExactExecuteCommand
theorem ZKY:Rows.fnExactExecuteCommandRow.wfByText (OpenSpec.ofChange Rows.fnExactExecuteCommandSpec)=true:=by kernel_rfl
theorem ZJa:Tryz.pinned.checked.prog.mainIs=some (Rows.fnExactExecuteCommandCard.stood.harness.1,Rows.fnExactExecuteCommandCard.stood.harness.2.toList):=by kernel_rfl
theorem ZJb:Tryz.pinned.checked.prog.funcNamed Rows.fnExactExecuteCommandRow.func=some 8:=by kernel_rfl
theorem ZHJ:true=Tryz.pinned.checked.prog.looks []:=by kernel_rfl
theorem ZJc:false=Rows.fnExactExecuteCommandRow.goesBy Tryz.pinned.checked.prog:=by kernel_rfl
theorem ZHK:([29,9].all fun u => !Tryz.pinned.checked.prog.wantsStandIn u)=true:=by kernel_rfl
end Go.Proofs.YtemcdiajejekoaaGreatDoor.fnExactExecuteCommand
