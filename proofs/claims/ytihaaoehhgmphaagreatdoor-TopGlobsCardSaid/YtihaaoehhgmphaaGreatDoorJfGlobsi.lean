/- Closed facts of a given row. Conditions: none. -/
import Derived.Test.YtihaaoehhgmphaaGreatDoorRows
import Derived.JoinedCond
namespace Go.Proofs.YtihaaoehhgmphaaGreatDoor
set_option maxRecDepth 100000
theorem ar1:((Rows.topGlobsRow.lifted==Tryz.pinned.checked.prog.liftsFinal))=true:=by kernel_rfl
end Go.Proofs.YtihaaoehhgmphaaGreatDoor
