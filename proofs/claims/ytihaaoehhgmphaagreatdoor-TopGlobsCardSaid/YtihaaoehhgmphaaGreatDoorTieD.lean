/- One closed fact of the tie of the listed variables to the program's text. Conditions: none. -/
import Derived.Test.YtihaaoehhgmphaaGreatDoorTie0
namespace Go.Proofs.YtihaaoehhgmphaaGreatDoor
open Go
theorem aBI:EF.map (λx=>Tryz.prog.kindOfLater x.1)=([.data,.data,.data,.data,.sentinel,.sentinel]:List LaidKind).map some:=by kernel_rfl
end Go.Proofs.YtihaaoehhgmphaaGreatDoor
