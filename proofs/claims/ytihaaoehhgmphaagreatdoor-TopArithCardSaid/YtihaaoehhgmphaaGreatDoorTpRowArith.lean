/- The law of expressions in a script: whatever the input, it returns true, and its arguments read as they did; the listed variables as the program's text lays them. Conditions: none but the given rows' own. -/
import Derived.Test.YtihaaoehhgmphaaGreatDoorTieZ
import Derived.Test.YtihaaoehhgmphaaGreatDoorTpRowArithD
import Derived.Test.YtihaaoehhgmphaaGreatDoorTpRowArithE
import Derived.Test.YtihaaoehhgmphaaGreatDoorTpRowArithF
import Derived.Test.YtihaaoehhgmphaaGreatDoorTpRowArithG
import Derived.Test.YtihaaoehhgmphaaGreatDoorTpRowArithH
namespace Go.Proofs.YtihaaoehhgmphaaGreatDoor
open Go.ChangeShapes Go.WideShapes Go.ChangeAt Go.RowKit Vc
theorem topArith_holds:Rows.TopArithCardSaid:=
 Claim7.holds_tied_plain_at .later [] _ _ _ _ aoI (λ_ h=>by cases h) aqm (λ_ h=>by cases h) anE rfl ⟨rfl,rfl⟩ aoJ rfl aom aoK

end Go.Proofs.YtihaaoehhgmphaaGreatDoor
