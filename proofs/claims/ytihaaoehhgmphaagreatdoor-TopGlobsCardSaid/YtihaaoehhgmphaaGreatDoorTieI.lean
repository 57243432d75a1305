/- One closed fact of the tie of the listed variables to the program's text. Conditions: none. -/
import Derived.Test.YtihaaoehhgmphaaGreatDoorTie0
namespace Go.Proofs.YtihaaoehhgmphaaGreatDoor
open Go
theorem aBN:∀os tape,(DataW.laidRun Tryz.prog (varsWorld Tryz.prog 400 (varsId Tryz.prog) os tape).memory 8 (EF.map (·.1))).map (λx=>decide x.2.Nodup&&laidRowsB Tryz.prog (varsWorld Tryz.prog 400 (varsId Tryz.prog) os tape).memory x.2)=some true:=λ_ _=>by kernel_rfl
end Go.Proofs.YtihaaoehhgmphaaGreatDoor
