/- A part of a row's last text. Conditions: none but the given rows' own. -/
import Derived.Test.YtihaaoehhgmphaaGreatDoorCards
import Derived.SevenTiedAt
namespace Go.Proofs.YtihaaoehhgmphaaGreatDoor
open Go
set_option maxRecDepth 100000
theorem aou:Tryz.pinned.checked.prog.mainIs=some (true, "2698bfb0c665e926bfb03521c23883f72f326f2bc20ec112200e5a998813a543".toList):=by kernel_rfl
end Go.Proofs.YtihaaoehhgmphaaGreatDoor
