/- A part of a row's last text. Conditions: none but the given rows' own. -/
import Derived.Test.YtihaaoehhgmphaaGreatDoorCards
import Derived.Test.YtihaaoehhgmphaaGreatDoorQ10
import Derived.Lay
import Derived.Deep.DeepWitnessRowRef
namespace Go.Proofs.YtihaaoehhgmphaaGreatDoor
open Go.ChangeShapes Go.WideShapes Go.ChangeAt Go.RowKit Vc
set_option maxRecDepth 100000
theorem aop(os:Os){H:Type}(enc:TypeId×Value->H):∃places,DataW.whole enc Tryz.prog ((World.laidAll Tryz.prog os Rows.topPipesRow.laid).forCall (λ_ _=>0) ⟨#[],#[.string ⟨#[]⟩,.int .u8 0,.int .u8 0],[]⟩).memory Tryz.f4.params.toList Rows.topPipesSpec.vars false (#[.string ⟨#[]⟩,.int .u8 0,.int .u8 0]:Array Value).toList 8=some ([.lit (.string []),.lit (.int .u8 0),.lit (.int .u8 0)],[],places):=
 ⟨[],by kernel_rfl⟩
end Go.Proofs.YtihaaoehhgmphaaGreatDoor
