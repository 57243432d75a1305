/- Closed facts of a given row. Conditions: none. -/
import Derived.Test.YtihaaoehhgmphaaGreatDoorRows
import Derived.JoinedCond
namespace Go.Proofs.YtihaaoehhgmphaaGreatDoor
set_option maxRecDepth 100000
theorem atT:((Rows.topGlobsRow.knobs==[]))=true:=by kernel_rfl
end Go.Proofs.YtihaaoehhgmphaaGreatDoor
