/- The closed facts of a given row, joined. Conditions: none. -/
import Derived.Test.YtihaaoehhgmphaaGreatDoorJfPipesa
import Derived.Test.YtihaaoehhgmphaaGreatDoorJfPipesb
import Derived.Test.YtihaaoehhgmphaaGreatDoorJfPipesc
import Derived.Test.YtihaaoehhgmphaaGreatDoorJfPipesd
import Derived.Test.YtihaaoehhgmphaaGreatDoorJfPipese
import Derived.Test.YtihaaoehhgmphaaGreatDoorJfPipesf
import Derived.Test.YtihaaoehhgmphaaGreatDoorJfPipesg
import Derived.Test.YtihaaoehhgmphaaGreatDoorJfPipesh
import Derived.Test.YtihaaoehhgmphaaGreatDoorJfPipesi
import Derived.Test.YtihaaoehhgmphaaGreatDoorJfPipesj
namespace Go.Proofs.YtihaaoehhgmphaaGreatDoor
set_option maxRecDepth 100000
theorem gX{a b:Bool}(ha:a=true)(hb:b=true):(a&&b)=true:=by rw[ha,hb];rfl
theorem avv:joinedFacts Tryz.pinned.checked.prog 4 Tryz.f4 Rows.topPipesSpec Rows.topPipesRow=true:=(gX (gX (gX (gX (gX (gX (gX (gX (gX (gX (gX (gX (gX (gX (gX (gX (gX (gX (gX (gX (gX (gX (gX (gX (gX (gX (gX (gX (gX (gX (gX atF atG) atH) atI) atJ) atK) atL) atM) atN) atO) arO) arP) arQ) arR) arS) arT) arU) arV) arW) arX) arY) arZ) ar0) ar1) ar2) ar3) ar4) ar5) ar6) ar7) ar8) ar9)
end Go.Proofs.YtihaaoehhgmphaaGreatDoor
