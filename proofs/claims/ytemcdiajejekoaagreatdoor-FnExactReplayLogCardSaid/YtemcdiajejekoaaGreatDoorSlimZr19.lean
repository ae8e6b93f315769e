/- Parts of the proof. -/
import Derived.Test.YtemcdiajejekoaaGreatDoorSlimZr18
import Derived.Test.YtemcdiajejekoaaGreatDoorRows
import Derived.JoinedOf
import Derived.Lay
import Derived.LaidLaws
import Derived.SizedLaws
set_option linter.unusedSimpArgs false
set_option linter.unusedVariables false
namespace Go.Proofs.YtemcdiajejekoaaGreatDoor.fnExactReplayLog
theorem ZKk:(Rows.fnExactReplayLogRow.wf (OpenSpec.ofChange Rows.fnExactReplayLogSpec))=true:=by kernel_rfl
theorem ZKl:(laidOutB Tryz.prog)=true:=by kernel_rfl
theorem ZKm:(mapsRowed Tryz.prog)=true:=by kernel_rfl
theorem ZKn:(Tryz.f7.params.all (Tryz.prog.readableRec ·))=true:=by kernel_rfl
theorem ZKo:(namedTie Tryz.prog Rows.fnExactReplayLogRow.named Rows.fnExactReplayLogSpec.vars)=true:=by kernel_rfl
theorem ZKp:((Rows.fnExactReplayLogRow.stops==[]))=true:=by kernel_rfl
theorem ZKq:((Tryz.prog.stops==[]))=true:=by kernel_rfl
theorem ZKr:((Rows.fnExactReplayLogRow.knobs==[]))=true:=by kernel_rfl
theorem ZKs:((Tryz.prog.stopKnobs==[]))=true:=by kernel_rfl
theorem ZKt:((Rows.fnExactReplayLogRow.inPlace==Tryz.prog.inPlace 7))=true:=by kernel_rfl
theorem ZJn:((Rows.fnExactReplayLogRow.unfollowed==Tryz.prog.unfollowed 7))=true:=by kernel_rfl
theorem ZJo:((Rows.fnExactReplayLogRow.recurses==Tryz.prog.recurses 7))=true:=by kernel_rfl
theorem ZJp:((Rows.fnExactReplayLogRow.named==Tryz.prog.varsNamed 7))=true:=by kernel_rfl
theorem ZJq:((Rows.fnExactReplayLogRow.maps==(Tryz.f7.params.toList++Rows.fnExactReplayLogSpec.plain.varTypes Tryz.prog).any (Tryz.prog.mapsRec ·)))=true:=by kernel_rfl
theorem ZJr:((Rows.fnExactReplayLogRow.ifaces==(Tryz.f7.params.toList++Rows.fnExactReplayLogSpec.plain.varTypes Tryz.prog).any (Tryz.prog.ifacesRec ·)))=true:=by kernel_rfl
theorem ZJs:((Rows.fnExactReplayLogRow.mapsOut==Tryz.prog.mapsAmong Tryz.f7.resultTypes.toList))=true:=by kernel_rfl
theorem ZJt:((Rows.fnExactReplayLogRow.loops==(Tryz.f7.params.toList++Rows.fnExactReplayLogSpec.plain.varTypes Tryz.prog).any (Tryz.prog.loopsFrom ·)))=true:=by kernel_rfl
theorem ZJu:((Rows.fnExactReplayLogRow.wideKeys==(Tryz.f7.params.toList++Rows.fnExactReplayLogSpec.plain.varTypes Tryz.prog++Tryz.f7.resultTypes.toList).any (Tryz.prog.wideKeysFrom ·)))=true:=by kernel_rfl
theorem ZJv:(Rows.fnExactReplayLogSpec.vars.all (Tryz.prog.varReadable ·))=true:=by kernel_rfl
theorem ZJw:(Tryz.f7.resultTypes.all (fun t=>Tryz.prog.readableRec t&&decide (t<Tryz.prog.types.size)))=true:=by kernel_rfl
theorem ZJx:((Rows.fnExactReplayLogRow.ifacesOut==Tryz.f7.resultTypes.toList.any (Tryz.prog.ifacesRec ·)))=true:=by kernel_rfl
theorem ZJy:((Rows.fnExactReplayLogRow.loopsOut==Tryz.f7.resultTypes.toList.any (Tryz.prog.loopsFrom ·)))=true:=by kernel_rfl
theorem ZJz:((Rows.fnExactReplayLogRow.plainKeys==Tryz.prog.plainKeys))=true:=by kernel_rfl
theorem ZJA:(Rows.fnExactReplayLogRow.shortTexts.isNone)=true:=by kernel_rfl
theorem ZJB:(Tryz.prog.stopsHeard)=true:=by kernel_rfl
theorem ZJC:(Tryz.prog.mayEnter)=true:=by kernel_rfl
theorem ZJD:((Rows.fnExactReplayLogRow.lifted==Tryz.prog.liftsFinal))=true:=by kernel_rfl
theorem ZJE:((Tryz.prog.make==some Rows.fnExactReplayLogRow.make))=true:=by kernel_rfl
theorem ZJF:((Rows.fnExactReplayLogRow.kinds==(if Rows.fnExactReplayLogRow.domain.isEmpty then [] else Tryz.f7.params.toList.map fun t=>match Tryz.prog.underlying t with | some (.int k)=>some k | _=>none)))=true:=by kernel_rfl
theorem ZJG:((Rows.fnExactReplayLogRow.pinned==Rows.fnExactReplayLogRow.pinnedBy))=true:=by kernel_rfl
theorem ZJH:((Rows.fnExactReplayLogRow.veiled==(Tryz.f7.params.toList++Rows.fnExactReplayLogSpec.plain.varTypes Tryz.prog++Tryz.f7.resultTypes.toList).any (Tryz.prog.veiledRec ·)))=true:=by kernel_rfl
theorem ZJI:(Rows.fnExactReplayLogRow.veiledFits Tryz.prog Tryz.f7.params.toList (Tryz.f7.params.toList++Rows.fnExactReplayLogSpec.plain.varTypes Tryz.prog++Tryz.f7.resultTypes.toList))=true:=by kernel_rfl
noncomputable def ZKu (os:Os):World:=World.laidAll Tryz.prog os Rows.fnExactReplayLogRow.laid
def ZJJ:Array Value := #[.agg #[.slice none 0 0,.int .i64 0,.int .i64 0,.slice none 0 0,.int .i64 0,.int .i64 0],.agg #[.string ⟨#[]⟩,.string ⟨#[]⟩,.int .i64 0]]
noncomputable def ZIB (os:Os):World:=(ZKu os).forCall (fun _ _=>0) ⟨#[],ZJJ,[]⟩
theorem ZJK (os:Os):(ZIB os).variablesZipB Tryz.checked.prog=true:=by kernel_rfl
theorem ZIC (os:Os):((ZIB os).heap.toList.drop Tryz.checked.prog.globals.size).take ((begin Tryz.checked.prog (fun _ _=>0) default).world.heap.size - Tryz.checked.prog.globals.size)=(begin Tryz.checked.prog (fun _ _=>0) default).world.heap.toList.drop Tryz.checked.prog.globals.size:=by kernel_rfl
theorem ZFQ (os:Os):(ZIB os).Shaped Tryz.checked.prog:=World.shaped_of_ZipB (ZJK os) (ZIC os)
theorem ZKv (os:Os):Input.okWideB Tryz.checked.prog (ZIB os) 7 ⟨#[],ZJJ,[]⟩=true:=by kernel_rfl
theorem ZJL (os:Os) {H:Type} (enc:TypeId×Value→H):Rows.fnExactReplayLogSpec.preB enc Tryz.checked.prog Tryz.f7 [] false (ZIB os).memory ZJJ 8=true:=by kernel_rfl
theorem ZHb (os:Os) {H:Type} (enc:TypeId×Value→H):Rows.fnExactReplayLogSpec.sizedB enc Tryz.checked.prog Tryz.f7 false (ZIB os).memory ZJJ 8=true:=by kernel_rfl
theorem ZID (os:Os):(World.holding Tryz.prog os ⟨#[],#[],[]⟩).layFits Tryz.prog Rows.fnExactReplayLogRow.laid []=true:=by kernel_rfl
theorem ZFR (os:Os):(World.holding Tryz.prog os ⟨#[],#[],[]⟩).layIfaces Tryz.prog Rows.fnExactReplayLogRow.laid (ZKu os)=true:=by kernel_rfl
theorem ZIE (os:Os):laidMet Tryz.prog Rows.fnExactReplayLogRow.laid (ZIB os).memory:=laidMet_laidAll _ (ZID os) (ZFR os)
end Go.Proofs.YtemcdiajejekoaaGreatDoor.fnExactReplayLog
