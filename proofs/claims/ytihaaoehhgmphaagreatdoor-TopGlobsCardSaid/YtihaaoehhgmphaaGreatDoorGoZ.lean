/- The program starts no goroutine. Conditions: none. -/
import Derived.Test.YtihaaoehhgmphaaGreatDoorGoA
import Derived.Test.YtihaaoehhgmphaaGreatDoorGoB
import Derived.Test.YtihaaoehhgmphaaGreatDoorGoC
import Derived.Test.YtihaaoehhgmphaaGreatDoorGoD
namespace Go.Proofs.YtihaaoehhgmphaaGreatDoor
set_option maxRecDepth 100000
theorem aKH{P:Program}{a n:Nat}(h:((List.range n).all λg=>!((P.funcs[a+g]?).any Func.goes))=true):∀g,a<=g->g<a+n->(P.funcs[g]?).any Func.goes=false:=by
 intro g h1 h2
 have:=List.all_eq_true.1 h (g-a) (List.mem_range.2 (by omega))
 rw[show a+(g-a)=g by omega]at this
 simpa using this
theorem axk{P:Program}(h:∀g,g<P.funcs.size->(P.funcs[g]?).any Func.goes=false)(f:FuncId):P.goes f=false:=by
 have h1:∀g,(P.funcs[g]?).any Func.goes=false:=λg=>by
  by_cases hg:g<P.funcs.size
  .exact h g hg
  .rw[Array.getElem?_eq_none (by omega)]
   rfl
 have h2:P.funcs.any Func.goes=false:=by
  cases hc:P.funcs.any Func.goes with
  |false=>rfl
  |true=>
   rw[Array.any_eq_true]at hc
   obtain⟨i,hi,hx⟩:=hc
   have:=h1 i
   rw[Array.getElem?_eq_getElem hi]at this
   simp[hx]at this
 unfold Program.goes
 rw[h2,Bool.and_false,Bool.or_false]
 cases hc:(P.closure f).any λg=>(P.funcs[g]?).any Func.goes with
 |false=>rfl
 |true=>
  rw[List.any_eq_true]at hc
  obtain⟨g,_,hx⟩:=hc
  rw[h1 g]at hx
  cases hx
theorem atJ:Tryz.prog.funcs.size=558:=by kernel_rfl
theorem atK(f:FuncId):Tryz.prog.goes f=false:=axk (λg hg=>by
 rw[atJ]at hg
 by_cases h0:g<140
 .exact aKH go0 g (by omega) (by omega)
 by_cases h1:g<280
 .exact aKH go1 g (by omega) (by omega)
 by_cases h2:g<420
 .exact aKH go2 g (by omega) (by omega)
 exact aKH go3 g (by omega) (by omega)) f
theorem arK{P:Program}{c:OpenClaim}(hs:c.start=.entering)(h:∀f,P.goes f=false):false=c.goesBy P:=by
 unfold OpenClaim.goesBy Program.goesAt Program.goesFrom
 rw[hs]
 cases hf:P.funcNamed c.func with
 |none=>rfl
 |some f=>simp[h f]
end Go.Proofs.YtihaaoehhgmphaaGreatDoor
