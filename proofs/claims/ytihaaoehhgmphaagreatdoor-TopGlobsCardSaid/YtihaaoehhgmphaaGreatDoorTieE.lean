/- One closed fact of the tie of the listed variables to the program's text. Conditions: none. -/
import Derived.Test.YtihaaoehhgmphaaGreatDoorTie0
namespace Go.Proofs.YtihaaoehhgmphaaGreatDoor
open Go
theorem aBJ:(Tryz.prog.funcNamed "gosem.cut.vars").isSome=true:=by kernel_rfl
end Go.Proofs.YtihaaoehhgmphaaGreatDoor
