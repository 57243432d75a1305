/- The law of names that a star tells: whatever the input, it returns true, and its arguments read as they did; the listed variables as the program's text lays them. Conditions: none but the given rows' own. -/
import Derived.Test.YtihaaoehhgmphaaGreatDoorTieZ
import Derived.Test.YtihaaoehhgmphaaGreatDoorTpRowGlobsD
import Derived.Test.YtihaaoehhgmphaaGreatDoorTpRowGlobsE
import Derived.Test.YtihaaoehhgmphaaGreatDoorTpRowGlobsF
import Derived.Test.YtihaaoehhgmphaaGreatDoorTpRowGlobsG
import Derived.Test.YtihaaoehhgmphaaGreatDoorTpRowGlobsH
namespace Go.Proofs.YtihaaoehhgmphaaGreatDoor
open Go.ChangeShapes Go.WideShapes Go.ChangeAt Go.RowKit Vc
theorem topGlobs_holds:Rows.TopGlobsCardSaid:=
 Claim7.holds_tied_plain_at .later [] _ _ _ _ aot (λ_ h=>by cases h) aqb (λ_ h=>by cases h) anq rfl ⟨rfl,rfl⟩ aou rfl an9 aov

end Go.Proofs.YtihaaoehhgmphaaGreatDoor
