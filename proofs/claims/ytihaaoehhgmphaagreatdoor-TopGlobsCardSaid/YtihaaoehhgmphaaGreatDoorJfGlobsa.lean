/- Closed facts of a given row. Conditions: none. -/
import Derived.Test.YtihaaoehhgmphaaGreatDoorRows
import Derived.JoinedCond
namespace Go.Proofs.YtihaaoehhgmphaaGreatDoor
set_option maxRecDepth 100000
theorem atL:(Rows.topGlobsRow.wf (OpenSpec.ofChange Rows.topGlobsSpec))=true:=by kernel_rfl
theorem atM:(laidOutB Tryz.pinned.checked.prog)=true:=by kernel_rfl
theorem atN:(mapsRowed Tryz.pinned.checked.prog)=true:=by kernel_rfl
theorem atO:(Tryz.f5.params.all (Tryz.pinned.checked.prog.readableRec ·))=true:=by kernel_rfl
theorem atP:(namedTie Tryz.pinned.checked.prog Rows.topGlobsRow.named Rows.topGlobsSpec.vars)=true:=by kernel_rfl
theorem atQ:((Rows.topGlobsRow.stops==[]))=true:=by kernel_rfl
theorem atS:((Tryz.pinned.checked.prog.stops==[]))=true:=by kernel_rfl
theorem atU:((Tryz.pinned.checked.prog.stopKnobs==[]))=true:=by kernel_rfl
theorem arO:((Rows.topGlobsRow.maps==(Tryz.f5.params.toList++Rows.topGlobsSpec.plain.varTypes Tryz.pinned.checked.prog).any (Tryz.pinned.checked.prog.mapsRec ·)))=true:=by kernel_rfl
theorem arP:((Rows.topGlobsRow.ifaces==(Tryz.f5.params.toList++Rows.topGlobsSpec.plain.varTypes Tryz.pinned.checked.prog).any (Tryz.pinned.checked.prog.ifacesRec ·)))=true:=by kernel_rfl
theorem arQ:((Rows.topGlobsRow.mapsOut==Tryz.pinned.checked.prog.mapsAmong Tryz.f5.resultTypes.toList))=true:=by kernel_rfl
theorem arR:((Rows.topGlobsRow.loops==(Tryz.f5.params.toList++Rows.topGlobsSpec.plain.varTypes Tryz.pinned.checked.prog).any (Tryz.pinned.checked.prog.loopsFrom ·)))=true:=by kernel_rfl
theorem arS:((Rows.topGlobsRow.wideKeys==(Tryz.f5.params.toList++Rows.topGlobsSpec.plain.varTypes Tryz.pinned.checked.prog++Tryz.f5.resultTypes.toList).any (Tryz.pinned.checked.prog.wideKeysFrom ·)))=true:=by kernel_rfl
theorem arT:(Rows.topGlobsSpec.vars.all (Tryz.pinned.checked.prog.varReadable ·))=true:=by kernel_rfl
theorem arU:(Tryz.f5.resultTypes.all (λt=>Tryz.pinned.checked.prog.readableRec t&&decide (t<Tryz.pinned.checked.prog.types.size)))=true:=by kernel_rfl
theorem arV:((Rows.topGlobsRow.ifacesOut==Tryz.f5.resultTypes.toList.any (Tryz.pinned.checked.prog.ifacesRec ·)))=true:=by kernel_rfl
theorem arW:((Rows.topGlobsRow.loopsOut==Tryz.f5.resultTypes.toList.any (Tryz.pinned.checked.prog.loopsFrom ·)))=true:=by kernel_rfl
theorem arX:((Rows.topGlobsRow.plainKeys==Tryz.pinned.checked.prog.plainKeys))=true:=by kernel_rfl
theorem arY:(Rows.topGlobsRow.shortTexts.isNone)=true:=by kernel_rfl
theorem ar3:((Rows.topGlobsRow.kinds==(if Rows.topGlobsRow.domain.isEmpty then[]else Tryz.f5.params.toList.map λt=>match Tryz.pinned.checked.prog.underlying t with|some (.int k)=>some k|_=>none)))=true:=by kernel_rfl
theorem ar4:((Rows.topGlobsRow.pinned==Rows.topGlobsRow.pinnedBy))=true:=by kernel_rfl
theorem ar5:((Rows.topGlobsRow.veiled==(Tryz.f5.params.toList++Rows.topGlobsSpec.plain.varTypes Tryz.pinned.checked.prog++Tryz.f5.resultTypes.toList).any (Tryz.pinned.checked.prog.veiledRec ·)))=true:=by kernel_rfl
theorem ar6:(Rows.topGlobsRow.veiledFits Tryz.pinned.checked.prog Tryz.f5.params.toList (Tryz.f5.params.toList++Rows.topGlobsSpec.plain.varTypes Tryz.pinned.checked.prog++Tryz.f5.resultTypes.toList))=true:=by kernel_rfl
end Go.Proofs.YtihaaoehhgmphaaGreatDoor
