/- A part of a row's last text. Conditions: none but the given rows' own. -/
import Derived.Test.YtihaaoehhgmphaaGreatDoorCards
import Derived.Test.YtihaaoehhgmphaaGreatDoorGoZ
namespace Go.Proofs.YtihaaoehhgmphaaGreatDoor
open Go
set_option maxRecDepth 100000
theorem aoK:false=Rows.topArithRow.goesBy Tryz.pinned.checked.prog:=arT rfl atC
end Go.Proofs.YtihaaoehhgmphaaGreatDoor
