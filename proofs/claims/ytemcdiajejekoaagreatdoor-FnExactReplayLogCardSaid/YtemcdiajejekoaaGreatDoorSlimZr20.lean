/- Parts of the proof. -/
import Derived.Test.YtemcdiajejekoaaGreatDoorSlimZr19
import Derived.Test.YtemcdiajejekoaaGreatDoorRows
import Derived.Test.YtemcdiajejekoaaGreatDoorCards
import Derived.SevenTiedAt
set_option linter.unusedSimpArgs false
set_option linter.unusedVariables false
namespace Go.Proofs.YtemcdiajejekoaaGreatDoor.fnExactReplayLog
theorem ZKw:Rows.fnExactReplayLogRow.wfByText (OpenSpec.ofChange Rows.fnExactReplayLogSpec)=true:=by kernel_rfl
theorem ZIF:Tryz.pinned.checked.prog.mainIs=some (Rows.fnExactReplayLogCard.stood.harness.1,Rows.fnExactReplayLogCard.stood.harness.2.toList):=by kernel_rfl
theorem ZIG:Tryz.pinned.checked.prog.funcNamed Rows.fnExactReplayLogRow.func=some 7:=by kernel_rfl
theorem ZHc:true=Tryz.pinned.checked.prog.looks []:=by kernel_rfl
theorem ZIH:false=Rows.fnExactReplayLogRow.goesBy Tryz.pinned.checked.prog:=by kernel_rfl
theorem ZHd:([25,27].all fun u => !Tryz.pinned.checked.prog.wantsStandIn u)=true:=by kernel_rfl
end Go.Proofs.YtemcdiajejekoaaGreatDoor.fnExactReplayLog
