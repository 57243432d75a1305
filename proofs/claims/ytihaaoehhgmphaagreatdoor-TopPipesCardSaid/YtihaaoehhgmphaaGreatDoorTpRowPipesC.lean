/- A part of a row's last text. Conditions: none but the given rows' own. -/
import Derived.Test.YtihaaoehhgmphaaGreatDoorTpRowPipesA
import Derived.Test.YtihaaoehhgmphaaGreatDoorTpRowPipesB
import Derived.Test.YtihaaoehhgmphaaGreatDoorQ10
namespace Go.Proofs.YtihaaoehhgmphaaGreatDoor
open Go.ChangeShapes Go.WideShapes Go.ChangeAt Go.RowKit Vc
set_option maxRecDepth 100000
theorem anW(os:Os)(started:os.Started)(H:Type)(enc:TypeId×Value->H)(F:Stop.Interp):
  ReturnsInHanded {} Tryz.checked os 4 .any ((OpenSpec.ofChange Rows.topPipesSpec).preRow enc Tryz.prog Tryz.f4 Rows.topPipesRow.domain false Rows.topPipesRow.laid) (((OpenSpec.ofChange Rows.topPipesSpec).at F).post enc Tryz.prog Tryz.f4 false true false false):=by
 obtain⟨places,hx⟩:=aop os enc
 refine amL (C:=Tryz.checked) (s:=Rows.topPipesSpec) Tryz.own Tryz.laidOut started (by kernel_rfl) Tryz.func4 (by kernel_rfl) (tb:=4) (by kernel_rfl) Tryz.underlying4 rfl ?_
  (witness_row_atRef (enc:=enc) (C:=Tryz.checked) false (World.laidAll Tryz.prog os Rows.topPipesRow.laid) #[.string ⟨#[]⟩,.int .u8 0,.int .u8 0] (World.laidAll_os _ _ _) (by kernel_rfl) (by kernel_rfl) (by kernel_rfl)
   (OpenSpec.preRow_of_cond 8 hx (by kernel_rfl) (λk hk=>by cases hk) (by kernel_rfl) (apr os))) ?_
 .intro ds hl
  rw[Tryz.params4]at hl
  match ds,hl with
  |[d0,d1,d2],_=>rfl
 .intro W base args ds ps af4 hA hz0 hL hS
  have hval:∀(j:Nat) t v,Tryz.f4.params[j]?=some t->args[j]?=some v->Value.okWide Tryz.prog W .any base t v:=af4
  have hA:DataW.TrodAll enc Tryz.prog W 0 (λ_=>true) true Tryz.f4.params.toList args.toList ds ps:=hA
  have hz:∀(j:Nat) t d,Tryz.f4.params.toList[j]?=some t->ds[j]?=some d->sx Tryz.prog t d:=hz0
  clear af4 hz0
  rw[Tryz.params4]at hA hval hz
  obtain⟨v0,vs0,d0,ds0,p0,q0,hargs,rfl,rfl,h0,r0⟩:=trodAll_cons hA
  obtain⟨v1,vs1,d1,ds1,p1,q1,rfl,rfl,rfl,h1,r1⟩:=trodAll_cons r0
  obtain⟨v2,vs2,d2,ds2,p2,q2,rfl,rfl,rfl,h2,r2⟩:=trodAll_cons r1
  obtain⟨rfl,rfl,rfl⟩:=trodAll_nil r2
  obtain rfl:args=#[v0,v1,v2]:=Array.ext' hargs
  rw[MakeChecks.laidMetH_plain _ _ _ (by kernel_rfl)]at hL
  have he:=avA (laidMet.tail (laidMet.tail hL)) hS
  obtain⟨x0,rfl,l0⟩:=aso Tryz.underlying9 (hval 0 _ v0 rfl rfl) h0 (hz 0 _ d0 rfl rfl)
  obtain⟨x1,rfl,_,_,w1⟩:=open_int Tryz.underlying5 (hval 1 _ v1 rfl rfl) h1
  obtain⟨x2,rfl,_,_,w2⟩:=open_int Tryz.underlying5 (hval 2 _ v2 rfl rfl) h2
  exact(aoK he x0 x1 (wf_u8 w1).1 (wf_u8 w1).2 x2 (wf_u8 w2).1 (wf_u8 w2).2).mono λe W' h=>⟨h.1,h.2.toBelow⟩
end Go.Proofs.YtihaaoehhgmphaaGreatDoor
