/- Closed facts of a given row. Conditions: none. -/
import Derived.Test.YtihaaoehhgmphaaGreatDoorRows
import Derived.JoinedCond
namespace Go.Proofs.YtihaaoehhgmphaaGreatDoor
set_option maxRecDepth 100000
theorem atF:(Rows.topPipesRow.wf (OpenSpec.ofChange Rows.topPipesSpec))=true:=by kernel_rfl
theorem atG:(laidOutB Tryz.pinned.checked.prog)=true:=by kernel_rfl
theorem atH:(mapsRowed Tryz.pinned.checked.prog)=true:=by kernel_rfl
theorem atI:(Tryz.f4.params.all (Tryz.pinned.checked.prog.readableRec ·))=true:=by kernel_rfl
theorem atJ:(namedTie Tryz.pinned.checked.prog Rows.topPipesRow.named Rows.topPipesSpec.vars)=true:=by kernel_rfl
theorem atK:((Rows.topPipesRow.stops==[]))=true:=by kernel_rfl
theorem atL:((Tryz.pinned.checked.prog.stops==[]))=true:=by kernel_rfl
theorem atN:((Tryz.pinned.checked.prog.stopKnobs==[]))=true:=by kernel_rfl
theorem arR:((Rows.topPipesRow.maps==(Tryz.f4.params.toList++Rows.topPipesSpec.plain.varTypes Tryz.pinned.checked.prog).any (Tryz.pinned.checked.prog.mapsRec ·)))=true:=by kernel_rfl
theorem arS:((Rows.topPipesRow.ifaces==(Tryz.f4.params.toList++Rows.topPipesSpec.plain.varTypes Tryz.pinned.checked.prog).any (Tryz.pinned.checked.prog.ifacesRec ·)))=true:=by kernel_rfl
theorem arT:((Rows.topPipesRow.mapsOut==Tryz.pinned.checked.prog.mapsAmong Tryz.f4.resultTypes.toList))=true:=by kernel_rfl
theorem arU:((Rows.topPipesRow.loops==(Tryz.f4.params.toList++Rows.topPipesSpec.plain.varTypes Tryz.pinned.checked.prog).any (Tryz.pinned.checked.prog.loopsFrom ·)))=true:=by kernel_rfl
theorem arV:((Rows.topPipesRow.wideKeys==(Tryz.f4.params.toList++Rows.topPipesSpec.plain.varTypes Tryz.pinned.checked.prog++Tryz.f4.resultTypes.toList).any (Tryz.pinned.checked.prog.wideKeysFrom ·)))=true:=by kernel_rfl
theorem arW:(Rows.topPipesSpec.vars.all (Tryz.pinned.checked.prog.varReadable ·))=true:=by kernel_rfl
theorem arX:(Tryz.f4.resultTypes.all (λt=>Tryz.pinned.checked.prog.readableRec t&&decide (t<Tryz.pinned.checked.prog.types.size)))=true:=by kernel_rfl
theorem arY:((Rows.topPipesRow.ifacesOut==Tryz.f4.resultTypes.toList.any (Tryz.pinned.checked.prog.ifacesRec ·)))=true:=by kernel_rfl
theorem arZ:((Rows.topPipesRow.loopsOut==Tryz.f4.resultTypes.toList.any (Tryz.pinned.checked.prog.loopsFrom ·)))=true:=by kernel_rfl
theorem ar0:((Rows.topPipesRow.plainKeys==Tryz.pinned.checked.prog.plainKeys))=true:=by kernel_rfl
theorem ar1:(Rows.topPipesRow.shortTexts.isNone)=true:=by kernel_rfl
theorem ar6:((Rows.topPipesRow.kinds==(if Rows.topPipesRow.domain.isEmpty then[]else Tryz.f4.params.toList.map λt=>match Tryz.pinned.checked.prog.underlying t with|some (.int k)=>some k|_=>none)))=true:=by kernel_rfl
theorem ar7:((Rows.topPipesRow.pinned==Rows.topPipesRow.pinnedBy))=true:=by kernel_rfl
theorem ar8:((Rows.topPipesRow.veiled==(Tryz.f4.params.toList++Rows.topPipesSpec.plain.varTypes Tryz.pinned.checked.prog++Tryz.f4.resultTypes.toList).any (Tryz.pinned.checked.prog.veiledRec ·)))=true:=by kernel_rfl
theorem ar9:(Rows.topPipesRow.veiledFits Tryz.pinned.checked.prog Tryz.f4.params.toList (Tryz.f4.params.toList++Rows.topPipesSpec.plain.varTypes Tryz.pinned.checked.prog++Tryz.f4.resultTypes.toList))=true:=by kernel_rfl
end Go.Proofs.YtihaaoehhgmphaaGreatDoor
