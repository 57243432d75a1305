/- A part of a row's last text. Conditions: none but the given rows' own. -/
import Derived.Test.YtihaaoehhgmphaaGreatDoorCards
import Derived.Test.YtihaaoehhgmphaaGreatDoorQ10
import Derived.Lay
import Derived.Deep.DeepWitnessRowRef
namespace Go.Proofs.YtihaaoehhgmphaaGreatDoor
open Go.ChangeShapes Go.WideShapes Go.ChangeAt Go.RowKit Vc
set_option maxRecDepth 100000
theorem an_(os:Os){H:Type}(enc:TypeId×Value->H):∃places,DataW.whole enc Tryz.prog ((World.laidAll Tryz.prog os Rows.topGlobsRow.laid).forCall (λ_ _=>0) ⟨#[],#[.slice none 0 0],[]⟩).memory Tryz.f5.params.toList Rows.topGlobsSpec.vars false (#[.slice none 0 0]:Array Value).toList 8=some ([.nil],[],places):=
 ⟨[],by kernel_rfl⟩
end Go.Proofs.YtihaaoehhgmphaaGreatDoor
