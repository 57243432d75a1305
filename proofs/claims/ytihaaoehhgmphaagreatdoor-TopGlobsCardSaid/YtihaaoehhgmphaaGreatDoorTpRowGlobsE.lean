/- A part of a row's last text. Conditions: none but the given rows' own. -/
import Derived.Test.YtihaaoehhgmphaaGreatDoorCards
import Derived.SevenTiedAt
namespace Go.Proofs.YtihaaoehhgmphaaGreatDoor
open Go
set_option maxRecDepth 100000
theorem aqb:Rows.topGlobsRow.wfByText (OpenSpec.ofChange Rows.topGlobsSpec)=true:=by kernel_rfl
end Go.Proofs.YtihaaoehhgmphaaGreatDoor
