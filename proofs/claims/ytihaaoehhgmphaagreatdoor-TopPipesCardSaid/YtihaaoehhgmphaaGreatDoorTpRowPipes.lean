/- The law of pipes of utilities: whatever the input, it returns true, and its arguments read as they did; the listed variables as the program's text lays them. Conditions: none but the given rows' own. -/
import Derived.Test.YtihaaoehhgmphaaGreatDoorTieZ
import Derived.Test.YtihaaoehhgmphaaGreatDoorTpRowPipesD
import Derived.Test.YtihaaoehhgmphaaGreatDoorTpRowPipesE
import Derived.Test.YtihaaoehhgmphaaGreatDoorTpRowPipesF
import Derived.Test.YtihaaoehhgmphaaGreatDoorTpRowPipesG
import Derived.Test.YtihaaoehhgmphaaGreatDoorTpRowPipesH
namespace Go.Proofs.YtihaaoehhgmphaaGreatDoor
open Go.ChangeShapes Go.WideShapes Go.ChangeAt Go.RowKit Vc
theorem topPipes_holds:Rows.TopPipesCardSaid:=
 Claim7.holds_tied_plain_at .later [] _ _ _ _ aoL (λ_ h=>by cases h) aqt (λ_ h=>by cases h) anC rfl ⟨rfl,rfl⟩ aoM rfl aoo aoN

end Go.Proofs.YtihaaoehhgmphaaGreatDoor
