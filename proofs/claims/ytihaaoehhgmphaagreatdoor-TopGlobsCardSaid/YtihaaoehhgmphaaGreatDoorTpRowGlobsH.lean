/- A part of a row's last text. Conditions: none but the given rows' own. -/
import Derived.Test.YtihaaoehhgmphaaGreatDoorCards
import Derived.SevenTiedAt
namespace Go.Proofs.YtihaaoehhgmphaaGreatDoor
open Go
set_option maxRecDepth 100000
theorem an9(f:FuncId)(fn:Func)(hf:Tryz.pinned.checked.prog.funcNamed "scullion/sculliontop.TopGlobs" =some f)(hfn:Tryz.pinned.checked.prog.funcs[f]?=some fn):
  true=Tryz.pinned.checked.prog.looks []/\∀(j:Nat) t,fn.params[j]?=some t->Tryz.pinned.checked.prog.wantsStandIn t=false:=by
 obtain rfl:f=5:=Option.some.inj ((show Tryz.prog.funcNamed "scullion/sculliontop.TopGlobs" =some 5 by kernel_rfl).symm.trans hf)|>.symm
 obtain rfl:fn=Tryz.f5:=(Option.some.inj (Tryz.func5.symm.trans hfn)).symm
 refine⟨by kernel_rfl,λj t ht=>?_⟩
 have h:(Tryz.f5.params.toList.all λt=>!Tryz.prog.wantsStandIn t)=true:=by kernel_rfl
 show Tryz.prog.wantsStandIn t=false
 simpa using List.all_eq_true.1 h t (Array.mem_toList_iff.2 (Array.mem_of_getElem? ht))
end Go.Proofs.YtihaaoehhgmphaaGreatDoor
