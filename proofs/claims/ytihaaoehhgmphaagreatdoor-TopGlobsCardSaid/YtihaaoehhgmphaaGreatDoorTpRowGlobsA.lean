/- A part of a row's last text. Conditions: none but the given rows' own. -/
import Derived.Test.YtihaaoehhgmphaaGreatDoorCards
import Derived.Test.YtihaaoehhgmphaaGreatDoorQ10
import Derived.Lay
import Derived.Deep.DeepWitnessRowRef
namespace Go.Proofs.YtihaaoehhgmphaaGreatDoor
open Go.ChangeShapes Go.WideShapes Go.ChangeAt Go.RowKit Vc
set_option maxRecDepth 100000
theorem ao_(os:Os):laidMet Tryz.prog Rows.topGlobsRow.laid ((World.laidAll Tryz.prog os Rows.topGlobsRow.laid).forCall (λ_ _=>0) ⟨#[],#[.slice none 0 0],[]⟩).memory:=
 laidMet_laidAll _ (by kernel_rfl) (by kernel_rfl)
end Go.Proofs.YtihaaoehhgmphaaGreatDoor
