/- What a reading of the laws' arguments tells. Conditions: as each theorem names them. -/
import Derived.Test.YtcoeiiihmpnagaaDoorSyLaw
import Derived.Test.YtcoeiiihmpnagaaDoorOpenK
namespace Go.Proofs.YtcoeiiihmpnagaaDoor
open Go.ChangeShapes Go.WideShapes Go.ChangeAt Go.RowKit Vc
section
variable {H : Type} {enc : TypeId × Value → H} {W : World} {base b0 : Nat} {spare : Nat → Bool} {held : Bool} {r : Reach} {v : Value} {d : DataW H} {ps : List MemPlace}
set_option maxRecDepth 100000 in
theorem open_u8l (hval : Value.okWide Tryd.prog W r b0 22 v) (h : DataW.Trod enc Tryd.prog W base spare held 22 v d ps) (_ : Sized Tryd.prog 22 d) : ∃ p L C vs, v = .slice p L C ∧ U8At W p L vs := open_u8s hval h
end
end Go.Proofs.YtcoeiiihmpnagaaDoor
