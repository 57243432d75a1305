/- Closed facts of a given row. Conditions: none. -/
import Derived.Test.YtihaaoehhgmphaaGreatDoorRows
import Derived.JoinedCond
namespace Go.Proofs.YtihaaoehhgmphaaGreatDoor
set_option maxRecDepth 100000
theorem atD:(Rows.topArithRow.wf (OpenSpec.ofChange Rows.topArithSpec))=true:=by kernel_rfl
theorem atE:(laidOutB Tryz.pinned.checked.prog)=true:=by kernel_rfl
theorem atF:(mapsRowed Tryz.pinned.checked.prog)=true:=by kernel_rfl
theorem atG:(Tryz.f3.params.all (Tryz.pinned.checked.prog.readableRec ·))=true:=by kernel_rfl
theorem atH:(namedTie Tryz.pinned.checked.prog Rows.topArithRow.named Rows.topArithSpec.vars)=true:=by kernel_rfl
theorem atI:((Rows.topArithRow.stops==[]))=true:=by kernel_rfl
theorem atJ:((Tryz.pinned.checked.prog.stops==[]))=true:=by kernel_rfl
theorem atL:((Tryz.pinned.checked.prog.stopKnobs==[]))=true:=by kernel_rfl
theorem arX:((Rows.topArithRow.maps==(Tryz.f3.params.toList++Rows.topArithSpec.plain.varTypes Tryz.pinned.checked.prog).any (Tryz.pinned.checked.prog.mapsRec ·)))=true:=by kernel_rfl
theorem arY:((Rows.topArithRow.ifaces==(Tryz.f3.params.toList++Rows.topArithSpec.plain.varTypes Tryz.pinned.checked.prog).any (Tryz.pinned.checked.prog.ifacesRec ·)))=true:=by kernel_rfl
theorem arZ:((Rows.topArithRow.mapsOut==Tryz.pinned.checked.prog.mapsAmong Tryz.f3.resultTypes.toList))=true:=by kernel_rfl
theorem ar0:((Rows.topArithRow.loops==(Tryz.f3.params.toList++Rows.topArithSpec.plain.varTypes Tryz.pinned.checked.prog).any (Tryz.pinned.checked.prog.loopsFrom ·)))=true:=by kernel_rfl
theorem ar1:((Rows.topArithRow.wideKeys==(Tryz.f3.params.toList++Rows.topArithSpec.plain.varTypes Tryz.pinned.checked.prog++Tryz.f3.resultTypes.toList).any (Tryz.pinned.checked.prog.wideKeysFrom ·)))=true:=by kernel_rfl
theorem ar2:(Rows.topArithSpec.vars.all (Tryz.pinned.checked.prog.varReadable ·))=true:=by kernel_rfl
theorem ar3:(Tryz.f3.resultTypes.all (λt=>Tryz.pinned.checked.prog.readableRec t&&decide (t<Tryz.pinned.checked.prog.types.size)))=true:=by kernel_rfl
theorem ar4:((Rows.topArithRow.ifacesOut==Tryz.f3.resultTypes.toList.any (Tryz.pinned.checked.prog.ifacesRec ·)))=true:=by kernel_rfl
theorem ar5:((Rows.topArithRow.loopsOut==Tryz.f3.resultTypes.toList.any (Tryz.pinned.checked.prog.loopsFrom ·)))=true:=by kernel_rfl
theorem ar6:((Rows.topArithRow.plainKeys==Tryz.pinned.checked.prog.plainKeys))=true:=by kernel_rfl
theorem ar7:(Rows.topArithRow.shortTexts.isNone)=true:=by kernel_rfl
theorem asb:((Rows.topArithRow.kinds==(if Rows.topArithRow.domain.isEmpty then[]else Tryz.f3.params.toList.map λt=>match Tryz.pinned.checked.prog.underlying t with|some (.int k)=>some k|_=>none)))=true:=by kernel_rfl
theorem asc:((Rows.topArithRow.pinned==Rows.topArithRow.pinnedBy))=true:=by kernel_rfl
theorem asd:((Rows.topArithRow.veiled==(Tryz.f3.params.toList++Rows.topArithSpec.plain.varTypes Tryz.pinned.checked.prog++Tryz.f3.resultTypes.toList).any (Tryz.pinned.checked.prog.veiledRec ·)))=true:=by kernel_rfl
theorem ase:(Rows.topArithRow.veiledFits Tryz.pinned.checked.prog Tryz.f3.params.toList (Tryz.f3.params.toList++Rows.topArithSpec.plain.varTypes Tryz.pinned.checked.prog++Tryz.f3.resultTypes.toList))=true:=by kernel_rfl
end Go.Proofs.YtihaaoehhgmphaaGreatDoor
