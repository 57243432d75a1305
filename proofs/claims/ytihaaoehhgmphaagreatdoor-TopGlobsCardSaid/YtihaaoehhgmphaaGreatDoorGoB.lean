/- No function of this part of the program starts a goroutine. Conditions: none. -/
import Derived.Test.YtihaaoehhgmphaaGreatDoorProg
import Derived.KernelRfl
import GoSem.ClaimGoes
namespace Go.Proofs.YtihaaoehhgmphaaGreatDoor
set_option maxRecDepth 100000
theorem go1:((List.range 140).all λg=>!((Tryz.prog.funcs[140+g]?).any Func.goes))=true:=by kernel_rfl
end Go.Proofs.YtihaaoehhgmphaaGreatDoor
