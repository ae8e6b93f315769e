/- Parts of the proof. -/
import Derived.Test.YtemcdiajejekoaaGreatDoorSlimZ18
import Derived.Test.YtemcdiajejekoaaGreatDoorRows
import Derived.JoinedOf
import Derived.Lay
import Derived.LaidLaws
import Derived.SizedLaws
set_option linter.unusedSimpArgs false
set_option linter.unusedVariables false
namespace Go.Proofs.YtemcdiajejekoaaGreatDoor.fnExactExecuteCommand
theorem ZKM:(Rows.fnExactExecuteCommandRow.wf (OpenSpec.ofChange Rows.fnExactExecuteCommandSpec))=true:=by kernel_rfl
theorem ZKN:(laidOutB Tryz.prog)=true:=by kernel_rfl
theorem ZKO:(mapsRowed Tryz.prog)=true:=by kernel_rfl
theorem ZKP:(Tryz.f8.params.all (Tryz.prog.readableRec ·))=true:=by kernel_rfl
theorem ZKQ:(namedTie Tryz.prog Rows.fnExactExecuteCommandRow.named Rows.fnExactExecuteCommandSpec.vars)=true:=by kernel_rfl
theorem ZKR:((Rows.fnExactExecuteCommandRow.stops==[]))=true:=by kernel_rfl
theorem ZKS:((Tryz.prog.stops==[]))=true:=by kernel_rfl
theorem ZKT:((Rows.fnExactExecuteCommandRow.knobs==[]))=true:=by kernel_rfl
theorem ZKU:((Tryz.prog.stopKnobs==[]))=true:=by kernel_rfl
theorem ZKV:((Rows.fnExactExecuteCommandRow.inPlace==Tryz.prog.inPlace 8))=true:=by kernel_rfl
theorem ZJR:((Rows.fnExactExecuteCommandRow.unfollowed==Tryz.prog.unfollowed 8))=true:=by kernel_rfl
theorem ZJS:((Rows.fnExactExecuteCommandRow.recurses==Tryz.prog.recurses 8))=true:=by kernel_rfl
theorem ZJT:((Rows.fnExactExecuteCommandRow.named==Tryz.prog.varsNamed 8))=true:=by kernel_rfl
theorem ZJU:((Rows.fnExactExecuteCommandRow.maps==(Tryz.f8.params.toList++Rows.fnExactExecuteCommandSpec.plain.varTypes Tryz.prog).any (Tryz.prog.mapsRec ·)))=true:=by kernel_rfl
theorem ZJV:((Rows.fnExactExecuteCommandRow.ifaces==(Tryz.f8.params.toList++Rows.fnExactExecuteCommandSpec.plain.varTypes Tryz.prog).any (Tryz.prog.ifacesRec ·)))=true:=by kernel_rfl
theorem ZJW:((Rows.fnExactExecuteCommandRow.mapsOut==Tryz.prog.mapsAmong Tryz.f8.resultTypes.toList))=true:=by kernel_rfl
theorem ZJX:((Rows.fnExactExecuteCommandRow.loops==(Tryz.f8.params.toList++Rows.fnExactExecuteCommandSpec.plain.varTypes Tryz.prog).any (Tryz.prog.loopsFrom ·)))=true:=by kernel_rfl
theorem ZJY:((Rows.fnExactExecuteCommandRow.wideKeys==(Tryz.f8.params.toList++Rows.fnExactExecuteCommandSpec.plain.varTypes Tryz.prog++Tryz.f8.resultTypes.toList).any (Tryz.prog.wideKeysFrom ·)))=true:=by kernel_rfl
theorem ZJZ:(Rows.fnExactExecuteCommandSpec.vars.all (Tryz.prog.varReadable ·))=true:=by kernel_rfl
theorem ZJ0:(Tryz.f8.resultTypes.all (fun t=>Tryz.prog.readableRec t&&decide (t<Tryz.prog.types.size)))=true:=by kernel_rfl
theorem ZJ1:((Rows.fnExactExecuteCommandRow.ifacesOut==Tryz.f8.resultTypes.toList.any (Tryz.prog.ifacesRec ·)))=true:=by kernel_rfl
theorem ZJ2:((Rows.fnExactExecuteCommandRow.loopsOut==Tryz.f8.resultTypes.toList.any (Tryz.prog.loopsFrom ·)))=true:=by kernel_rfl
theorem ZJ3:((Rows.fnExactExecuteCommandRow.plainKeys==Tryz.prog.plainKeys))=true:=by kernel_rfl
theorem ZJ4:(Rows.fnExactExecuteCommandRow.shortTexts.isNone)=true:=by kernel_rfl
theorem ZJ5:(Tryz.prog.stopsHeard)=true:=by kernel_rfl
theorem ZJ6:(Tryz.prog.mayEnter)=true:=by kernel_rfl
theorem ZJ7:((Rows.fnExactExecuteCommandRow.lifted==Tryz.prog.liftsFinal))=true:=by kernel_rfl
theorem ZJ8:((Tryz.prog.make==some Rows.fnExactExecuteCommandRow.make))=true:=by kernel_rfl
theorem ZJ9:((Rows.fnExactExecuteCommandRow.kinds==(if Rows.fnExactExecuteCommandRow.domain.isEmpty then [] else Tryz.f8.params.toList.map fun t=>match Tryz.prog.underlying t with | some (.int k)=>some k | _=>none)))=true:=by kernel_rfl
theorem ZKa:((Rows.fnExactExecuteCommandRow.pinned==Rows.fnExactExecuteCommandRow.pinnedBy))=true:=by kernel_rfl
theorem ZKb:((Rows.fnExactExecuteCommandRow.veiled==(Tryz.f8.params.toList++Rows.fnExactExecuteCommandSpec.plain.varTypes Tryz.prog++Tryz.f8.resultTypes.toList).any (Tryz.prog.veiledRec ·)))=true:=by kernel_rfl
theorem ZKc:(Rows.fnExactExecuteCommandRow.veiledFits Tryz.prog Tryz.f8.params.toList (Tryz.f8.params.toList++Rows.fnExactExecuteCommandSpec.plain.varTypes Tryz.prog++Tryz.f8.resultTypes.toList))=true:=by kernel_rfl
noncomputable def ZKW (os:Os):World:=World.laidAll Tryz.prog os Rows.fnExactExecuteCommandRow.laid
def ZKd:Array Value := #[.agg #[.slice none 0 0,.int .i64 0,.int .i64 0,.slice none 0 0,.int .i64 0,.int .i64 0,.string ⟨#[]⟩,.string ⟨#[]⟩,.int .i64 0],.string ⟨#[]⟩]
noncomputable def ZI6 (os:Os):World:=(ZKW os).forCall (fun _ _=>0) ⟨#[],ZKd,[]⟩
theorem ZKe (os:Os):(ZI6 os).variablesZipB Tryz.checked.prog=true:=by kernel_rfl
theorem ZI7 (os:Os):((ZI6 os).heap.toList.drop Tryz.checked.prog.globals.size).take ((begin Tryz.checked.prog (fun _ _=>0) default).world.heap.size - Tryz.checked.prog.globals.size)=(begin Tryz.checked.prog (fun _ _=>0) default).world.heap.toList.drop Tryz.checked.prog.globals.size:=by kernel_rfl
theorem ZGr (os:Os):(ZI6 os).Shaped Tryz.checked.prog:=World.shaped_of_ZipB (ZKe os) (ZI7 os)
theorem ZKX (os:Os):Input.okWideB Tryz.checked.prog (ZI6 os) 8 ⟨#[],ZKd,[]⟩=true:=by kernel_rfl
theorem ZKf (os:Os) {H:Type} (enc:TypeId×Value→H):Rows.fnExactExecuteCommandSpec.preB enc Tryz.checked.prog Tryz.f8 [] false (ZI6 os).memory ZKd 8=true:=by kernel_rfl
theorem ZHI (os:Os) {H:Type} (enc:TypeId×Value→H):Rows.fnExactExecuteCommandSpec.sizedB enc Tryz.checked.prog Tryz.f8 false (ZI6 os).memory ZKd 8=true:=by kernel_rfl
theorem ZI8 (os:Os):(World.holding Tryz.prog os ⟨#[],#[],[]⟩).layFits Tryz.prog Rows.fnExactExecuteCommandRow.laid []=true:=by kernel_rfl
theorem ZGs (os:Os):(World.holding Tryz.prog os ⟨#[],#[],[]⟩).layIfaces Tryz.prog Rows.fnExactExecuteCommandRow.laid (ZKW os)=true:=by kernel_rfl
theorem ZI9 (os:Os):laidMet Tryz.prog Rows.fnExactExecuteCommandRow.laid (ZI6 os).memory:=laidMet_laidAll _ (ZI8 os) (ZGs os)
end Go.Proofs.YtemcdiajejekoaaGreatDoor.fnExactExecuteCommand
