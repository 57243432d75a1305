/- One closed fact of the tie of the listed variables to the program's text. Conditions: none. -/
import Derived.Test.YtihaaoehhgmphaaGreatDoorTie0
namespace Go.Proofs.YtihaaoehhgmphaaGreatDoor
open Go
theorem aBL:∀os tape,varsDone Tryz.prog 400 (varsId Tryz.prog) os tape=true:=λ_ _=>by kernel_rfl
end Go.Proofs.YtihaaoehhgmphaaGreatDoor
