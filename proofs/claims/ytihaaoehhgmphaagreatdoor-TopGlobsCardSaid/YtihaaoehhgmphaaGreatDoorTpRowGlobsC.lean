/- A part of a row's last text. Conditions: none but the given rows' own. -/
import Derived.Test.YtihaaoehhgmphaaGreatDoorTpRowGlobsA
import Derived.Test.YtihaaoehhgmphaaGreatDoorTpRowGlobsB
import Derived.Test.YtihaaoehhgmphaaGreatDoorQ10
namespace Go.Proofs.YtihaaoehhgmphaaGreatDoor
open Go.ChangeShapes Go.WideShapes Go.ChangeAt Go.RowKit Vc
set_option maxRecDepth 100000
theorem anJ(os:Os)(started:os.Started)(H:Type)(enc:TypeId×Value->H)(F:Stop.Interp):
  ReturnsInHanded {} Tryz.checked os 5 .any ((OpenSpec.ofChange Rows.topGlobsSpec).preRow enc Tryz.prog Tryz.f5 Rows.topGlobsRow.domain false Rows.topGlobsRow.laid) (((OpenSpec.ofChange Rows.topGlobsSpec).at F).post enc Tryz.prog Tryz.f5 false true false false):=by
 obtain⟨places,hx⟩:=an_ os enc
 refine amD (C:=Tryz.checked) (s:=Rows.topGlobsSpec) Tryz.own Tryz.laidOut started (by kernel_rfl) Tryz.func5 (by kernel_rfl) (tb:=4) (by kernel_rfl) Tryz.underlying4 rfl ?_
  (witness_row_atRef (enc:=enc) (C:=Tryz.checked) false (World.laidAll Tryz.prog os Rows.topGlobsRow.laid) #[.slice none 0 0] (World.laidAll_os _ _ _) (by kernel_rfl) (by kernel_rfl) (by kernel_rfl)
   (OpenSpec.preRow_of_cond 8 hx (by kernel_rfl) (λk hk=>by cases hk) (by kernel_rfl) (ao_ os))) ?_
 .intro ds hl
  rw[Tryz.params5]at hl
  match ds,hl with
  |[d0],_=>rfl
 .intro W base args ds ps afW hA hz0 hL hS
  have hval:∀(j:Nat) t v,Tryz.f5.params[j]?=some t->args[j]?=some v->Value.okWide Tryz.prog W .any base t v:=afW
  have hA:DataW.TrodAll enc Tryz.prog W 0 (λ_=>true) true Tryz.f5.params.toList args.toList ds ps:=hA
  have hz:∀(j:Nat) t d,Tryz.f5.params.toList[j]?=some t->ds[j]?=some d->tq Tryz.prog t d:=hz0
  clear afW hz0
  rw[Tryz.params5]at hA hval hz
  obtain⟨v0,vs0,d0,ds0,p0,q0,hargs,rfl,rfl,h0,r0⟩:=trodAll_cons hA
  obtain⟨rfl,rfl,rfl⟩:=trodAll_nil r0
  obtain rfl:args=#[v0]:=Array.ext' hargs
  rw[MakeChecks.laidMetH_plain _ _ _ (by kernel_rfl)]at hL
  have he:=av2 (laidMet.tail (laidMet.tail hL)) hS
  obtain⟨p0,L0,C0,rfl,u0⟩:=aug (hval 0 _ v0 rfl rfl) h0 (hz 0 _ d0 rfl rfl)
  exact(aos he u0).mono λe W' h=>⟨h.1,h.2.toBelow⟩
end Go.Proofs.YtihaaoehhgmphaaGreatDoor
