/- The closed facts of a given row, joined. Conditions: none. -/
import Derived.Test.YtihaaoehhgmphaaGreatDoorJfGlobsa
import Derived.Test.YtihaaoehhgmphaaGreatDoorJfGlobsb
import Derived.Test.YtihaaoehhgmphaaGreatDoorJfGlobsc
import Derived.Test.YtihaaoehhgmphaaGreatDoorJfGlobsd
import Derived.Test.YtihaaoehhgmphaaGreatDoorJfGlobse
import Derived.Test.YtihaaoehhgmphaaGreatDoorJfGlobsf
import Derived.Test.YtihaaoehhgmphaaGreatDoorJfGlobsg
import Derived.Test.YtihaaoehhgmphaaGreatDoorJfGlobsh
import Derived.Test.YtihaaoehhgmphaaGreatDoorJfGlobsi
import Derived.Test.YtihaaoehhgmphaaGreatDoorJfGlobsj
namespace Go.Proofs.YtihaaoehhgmphaaGreatDoor
set_option maxRecDepth 100000
theorem gO{a b:Bool}(ha:a=true)(hb:b=true):(a&&b)=true:=by rw[ha,hb];rfl
theorem avY:joinedFacts Tryz.pinned.checked.prog 5 Tryz.f5 Rows.topGlobsSpec Rows.topGlobsRow=true:=(gO (gO (gO (gO (gO (gO (gO (gO (gO (gO (gO (gO (gO (gO (gO (gO (gO (gO (gO (gO (gO (gO (gO (gO (gO (gO (gO (gO (gO (gO (gO atL atM) atN) atO) atP) atQ) atS) atT) atU) atV) arL) arM) arN) arO) arP) arQ) arR) arS) arT) arU) arV) arW) arX) arY) arZ) ar0) ar1) ar2) ar3) ar4) ar5) ar6)
end Go.Proofs.YtihaaoehhgmphaaGreatDoor
