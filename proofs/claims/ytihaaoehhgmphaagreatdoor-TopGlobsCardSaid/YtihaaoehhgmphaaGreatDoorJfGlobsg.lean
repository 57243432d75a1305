/- Closed facts of a given row. Conditions: none. -/
import Derived.Test.YtihaaoehhgmphaaGreatDoorRows
import Derived.JoinedCond
namespace Go.Proofs.YtihaaoehhgmphaaGreatDoor
set_option maxRecDepth 100000
theorem arZ:(Tryz.pinned.checked.prog.stopsHeard)=true:=by kernel_rfl
end Go.Proofs.YtihaaoehhgmphaaGreatDoor
