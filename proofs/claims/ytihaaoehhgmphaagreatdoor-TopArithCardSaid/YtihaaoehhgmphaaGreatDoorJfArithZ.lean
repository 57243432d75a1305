/- The closed facts of a given row, joined. Conditions: none. -/
import Derived.Test.YtihaaoehhgmphaaGreatDoorJfAritha
import Derived.Test.YtihaaoehhgmphaaGreatDoorJfArithb
import Derived.Test.YtihaaoehhgmphaaGreatDoorJfArithc
import Derived.Test.YtihaaoehhgmphaaGreatDoorJfArithd
import Derived.Test.YtihaaoehhgmphaaGreatDoorJfArithe
import Derived.Test.YtihaaoehhgmphaaGreatDoorJfArithf
import Derived.Test.YtihaaoehhgmphaaGreatDoorJfArithg
import Derived.Test.YtihaaoehhgmphaaGreatDoorJfArithh
import Derived.Test.YtihaaoehhgmphaaGreatDoorJfArithi
import Derived.Test.YtihaaoehhgmphaaGreatDoorJfArithj
namespace Go.Proofs.YtihaaoehhgmphaaGreatDoor
set_option maxRecDepth 100000
theorem gM{a b:Bool}(ha:a=true)(hb:b=true):(a&&b)=true:=by rw[ha,hb];rfl
theorem avz:joinedFacts Tryz.pinned.checked.prog 3 Tryz.f3 Rows.topArithSpec Rows.topArithRow=true:=(gM (gM (gM (gM (gM (gM (gM (gM (gM (gM (gM (gM (gM (gM (gM (gM (gM (gM (gM (gM (gM (gM (gM (gM (gM (gM (gM (gM (gM (gM (gM atD atE) atF) atG) atH) atI) atJ) atK) atL) atM) arU) arV) arW) arX) arY) arZ) ar0) ar1) ar2) ar3) ar4) ar5) ar6) ar7) ar8) ar9) ar_) asa) asb) asc) asd) ase)
end Go.Proofs.YtihaaoehhgmphaaGreatDoor
