/- Parts of the proof. -/
import Derived.Test.YtemcdiajejekoaaGreatDoorSlimZw18
import Derived.Test.YtemcdiajejekoaaGreatDoorRows
import Derived.JoinedOf
import Derived.Lay
import Derived.LaidLaws
import Derived.SizedLaws
set_option linter.unusedSimpArgs false
set_option linter.unusedVariables false
namespace Go.Proofs.YtemcdiajejekoaaGreatDoor.fnConsoleWords
theorem ZCh:(Rows.fnConsoleWordsRow.wf (OpenSpec.ofChange Rows.fnConsoleWordsSpec))=true:=by kernel_rfl
theorem ZCi:(laidOutB Tryz.prog)=true:=by kernel_rfl
theorem ZCj:(mapsRowed Tryz.prog)=true:=by kernel_rfl
theorem ZCk:(Tryz.f6.params.all (Tryz.prog.readableRec ·))=true:=by kernel_rfl
theorem ZCl:(namedTie Tryz.prog Rows.fnConsoleWordsRow.named Rows.fnConsoleWordsSpec.vars)=true:=by kernel_rfl
theorem ZCm:((Rows.fnConsoleWordsRow.stops==[]))=true:=by kernel_rfl
theorem ZCn:((Tryz.prog.stops==[]))=true:=by kernel_rfl
theorem ZCo:((Rows.fnConsoleWordsRow.knobs==[]))=true:=by kernel_rfl
theorem ZCp:((Tryz.prog.stopKnobs==[]))=true:=by kernel_rfl
theorem ZCq:((Rows.fnConsoleWordsRow.inPlace==Tryz.prog.inPlace 6))=true:=by kernel_rfl
theorem ZBj:((Rows.fnConsoleWordsRow.unfollowed==Tryz.prog.unfollowed 6))=true:=by kernel_rfl
theorem ZBk:((Rows.fnConsoleWordsRow.recurses==Tryz.prog.recurses 6))=true:=by kernel_rfl
theorem ZBl:((Rows.fnConsoleWordsRow.named==Tryz.prog.varsNamed 6))=true:=by kernel_rfl
theorem ZBm:((Rows.fnConsoleWordsRow.maps==(Tryz.f6.params.toList++Rows.fnConsoleWordsSpec.plain.varTypes Tryz.prog).any (Tryz.prog.mapsRec ·)))=true:=by kernel_rfl
theorem ZBn:((Rows.fnConsoleWordsRow.ifaces==(Tryz.f6.params.toList++Rows.fnConsoleWordsSpec.plain.varTypes Tryz.prog).any (Tryz.prog.ifacesRec ·)))=true:=by kernel_rfl
theorem ZBo:((Rows.fnConsoleWordsRow.mapsOut==Tryz.prog.mapsAmong Tryz.f6.resultTypes.toList))=true:=by kernel_rfl
theorem ZBp:((Rows.fnConsoleWordsRow.loops==(Tryz.f6.params.toList++Rows.fnConsoleWordsSpec.plain.varTypes Tryz.prog).any (Tryz.prog.loopsFrom ·)))=true:=by kernel_rfl
theorem ZBq:((Rows.fnConsoleWordsRow.wideKeys==(Tryz.f6.params.toList++Rows.fnConsoleWordsSpec.plain.varTypes Tryz.prog++Tryz.f6.resultTypes.toList).any (Tryz.prog.wideKeysFrom ·)))=true:=by kernel_rfl
theorem ZBr:(Rows.fnConsoleWordsSpec.vars.all (Tryz.prog.varReadable ·))=true:=by kernel_rfl
theorem ZBs:(Tryz.f6.resultTypes.all (fun t=>Tryz.prog.readableRec t&&decide (t<Tryz.prog.types.size)))=true:=by kernel_rfl
theorem ZBt:((Rows.fnConsoleWordsRow.ifacesOut==Tryz.f6.resultTypes.toList.any (Tryz.prog.ifacesRec ·)))=true:=by kernel_rfl
theorem ZBu:((Rows.fnConsoleWordsRow.loopsOut==Tryz.f6.resultTypes.toList.any (Tryz.prog.loopsFrom ·)))=true:=by kernel_rfl
theorem ZBv:((Rows.fnConsoleWordsRow.plainKeys==Tryz.prog.plainKeys))=true:=by kernel_rfl
theorem ZBw:(Rows.fnConsoleWordsRow.shortTexts.isNone)=true:=by kernel_rfl
theorem ZBx:(Tryz.prog.stopsHeard)=true:=by kernel_rfl
theorem ZBy:(Tryz.prog.mayEnter)=true:=by kernel_rfl
theorem ZBz:((Rows.fnConsoleWordsRow.lifted==Tryz.prog.liftsFinal))=true:=by kernel_rfl
theorem ZBA:((Tryz.prog.make==some Rows.fnConsoleWordsRow.make))=true:=by kernel_rfl
theorem ZBB:((Rows.fnConsoleWordsRow.kinds==(if Rows.fnConsoleWordsRow.domain.isEmpty then [] else Tryz.f6.params.toList.map fun t=>match Tryz.prog.underlying t with | some (.int k)=>some k | _=>none)))=true:=by kernel_rfl
theorem ZBC:((Rows.fnConsoleWordsRow.pinned==Rows.fnConsoleWordsRow.pinnedBy))=true:=by kernel_rfl
theorem ZBD:((Rows.fnConsoleWordsRow.veiled==(Tryz.f6.params.toList++Rows.fnConsoleWordsSpec.plain.varTypes Tryz.prog++Tryz.f6.resultTypes.toList).any (Tryz.prog.veiledRec ·)))=true:=by kernel_rfl
theorem ZBE:(Rows.fnConsoleWordsRow.veiledFits Tryz.prog Tryz.f6.params.toList (Tryz.f6.params.toList++Rows.fnConsoleWordsSpec.plain.varTypes Tryz.prog++Tryz.f6.resultTypes.toList))=true:=by kernel_rfl
noncomputable def ZCr (os:Os):World:=World.laidAll Tryz.prog os Rows.fnConsoleWordsRow.laid
def ZBF:Array Value := #[.slice none 0 0]
noncomputable def ZAA (os:Os):World:=(ZCr os).forCall (fun _ _=>0) ⟨#[],ZBF,[]⟩
theorem ZBG (os:Os):(ZAA os).variablesZipB Tryz.checked.prog=true:=by kernel_rfl
theorem ZAB (os:Os):((ZAA os).heap.toList.drop Tryz.checked.prog.globals.size).take ((begin Tryz.checked.prog (fun _ _=>0) default).world.heap.size - Tryz.checked.prog.globals.size)=(begin Tryz.checked.prog (fun _ _=>0) default).world.heap.toList.drop Tryz.checked.prog.globals.size:=by kernel_rfl
theorem ZxC (os:Os):(ZAA os).Shaped Tryz.checked.prog:=World.shaped_of_ZipB (ZBG os) (ZAB os)
theorem ZCs (os:Os):Input.okWideB Tryz.checked.prog (ZAA os) 6 ⟨#[],ZBF,[]⟩=true:=by kernel_rfl
theorem ZBH (os:Os) {H:Type} (enc:TypeId×Value→H):Rows.fnConsoleWordsSpec.preB enc Tryz.checked.prog Tryz.f6 [] false (ZAA os).memory ZBF 8=true:=by kernel_rfl
theorem Zza (os:Os) {H:Type} (enc:TypeId×Value→H):Rows.fnConsoleWordsSpec.sizedB enc Tryz.checked.prog Tryz.f6 false (ZAA os).memory ZBF 8=true:=by kernel_rfl
theorem ZAC (os:Os):(World.holding Tryz.prog os ⟨#[],#[],[]⟩).layFits Tryz.prog Rows.fnConsoleWordsRow.laid []=true:=by kernel_rfl
theorem ZxD (os:Os):(World.holding Tryz.prog os ⟨#[],#[],[]⟩).layIfaces Tryz.prog Rows.fnConsoleWordsRow.laid (ZCr os)=true:=by kernel_rfl
theorem ZAD (os:Os):laidMet Tryz.prog Rows.fnConsoleWordsRow.laid (ZAA os).memory:=laidMet_laidAll _ (ZAC os) (ZxD os)
end Go.Proofs.YtemcdiajejekoaaGreatDoor.fnConsoleWords
