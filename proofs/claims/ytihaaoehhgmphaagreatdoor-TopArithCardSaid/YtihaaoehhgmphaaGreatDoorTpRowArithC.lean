/- A part of a row's last text. Conditions: none but the given rows' own. -/
import Derived.Test.YtihaaoehhgmphaaGreatDoorTpRowArithA
import Derived.Test.YtihaaoehhgmphaaGreatDoorTpRowArithB
import Derived.Test.YtihaaoehhgmphaaGreatDoorQ10
namespace Go.Proofs.YtihaaoehhgmphaaGreatDoor
open Go.ChangeShapes Go.WideShapes Go.ChangeAt Go.RowKit Vc
set_option maxRecDepth 100000
theorem anX(os:Os)(started:os.Started)(H:Type)(enc:TypeId×Value->H)(F:Stop.Interp):
  ReturnsInHanded {} Tryz.checked os 3 .any ((OpenSpec.ofChange Rows.topArithSpec).preRow enc Tryz.prog Tryz.f3 Rows.topArithRow.domain false Rows.topArithRow.laid) (((OpenSpec.ofChange Rows.topArithSpec).at F).post enc Tryz.prog Tryz.f3 false true false false):=by
 obtain⟨places,hx⟩:=aon os enc
 refine amN (C:=Tryz.checked) (s:=Rows.topArithSpec) Tryz.own Tryz.laidOut started (by kernel_rfl) Tryz.func3 (by kernel_rfl) (tb:=4) (by kernel_rfl) Tryz.underlying4 rfl ?_
  (witness_row_atRef (enc:=enc) (C:=Tryz.checked) false (World.laidAll Tryz.prog os Rows.topArithRow.laid) #[.slice none 0 0,.int .i64 0] (World.laidAll_os _ _ _) (by kernel_rfl) (by kernel_rfl) (by kernel_rfl)
   (OpenSpec.preRow_of_cond 8 hx (by kernel_rfl) (λk hk=>by cases hk) (by kernel_rfl) (apr os))) ?_
 .intro ds hl
  rw[Tryz.params3]at hl
  match ds,hl with
  |[d0,d1],_=>rfl
 .intro W base args ds ps ago hA hz0 hL hS
  have hval:∀(j:Nat) t v,Tryz.f3.params[j]?=some t->args[j]?=some v->Value.okWide Tryz.prog W .any base t v:=ago
  have hA:DataW.TrodAll enc Tryz.prog W 0 (λ_=>true) true Tryz.f3.params.toList args.toList ds ps:=hA
  have hz:∀(j:Nat) t d,Tryz.f3.params.toList[j]?=some t->ds[j]?=some d->aIx Tryz.prog t d:=hz0
  clear ago hz0
  rw[Tryz.params3]at hA hval hz
  obtain⟨v0,vs0,d0,ds0,p0,q0,hargs,rfl,rfl,h0,r0⟩:=trodAll_cons hA
  obtain⟨v1,vs1,d1,ds1,p1,q1,rfl,rfl,rfl,h1,r1⟩:=trodAll_cons r0
  obtain⟨rfl,rfl,rfl⟩:=trodAll_nil r1
  obtain rfl:args=#[v0,v1]:=Array.ext' hargs
  rw[MakeChecks.laidMetH_plain _ _ _ (by kernel_rfl)]at hL
  have he:=avD (laidMet.tail (laidMet.tail hL)) hS
  obtain⟨p0,L0,C0,rfl,u0⟩:=at5 (hval 0 _ v0 rfl rfl) h0 (hz 0 _ d0 rfl rfl)
  obtain⟨k1,rfl,i1⟩:=at6 (hval 1 _ v1 rfl rfl) h1 (hz 1 _ d1 rfl rfl)
  exact(aoH he u0 i1).mono λe W' h=>⟨h.1,h.2.toBelow⟩
end Go.Proofs.YtihaaoehhgmphaaGreatDoor
