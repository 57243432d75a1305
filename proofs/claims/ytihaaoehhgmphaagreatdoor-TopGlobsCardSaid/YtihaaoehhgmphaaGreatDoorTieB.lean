/- One closed fact of the tie of the listed variables to the program's text. Conditions: none. -/
import Derived.Test.YtihaaoehhgmphaaGreatDoorTie0
namespace Go.Proofs.YtihaaoehhgmphaaGreatDoor
open Go
theorem aBG:Tryz.prog.worded (varsWordLater !true)=false:=by kernel_rfl
end Go.Proofs.YtihaaoehhgmphaaGreatDoor
