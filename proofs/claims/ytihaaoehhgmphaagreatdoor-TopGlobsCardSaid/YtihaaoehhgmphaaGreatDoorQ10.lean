/- Texts of one proof, one behind the other. Conditions: as each theorem names them. -/
import Derived.Test.YtihaaoehhgmphaaGreatDoorQ9
import Derived.Test.YtihaaoehhgmphaaGreatDoorRows
import Derived.ProofKit
import Derived.Deep.Slices
import Derived.Deep.Fields
import Derived.ChangeSame
import Derived.Lib.SmallJoins
import Derived.SizedLaws
import Derived.Deep.DeepHandedRow
import Derived.ChangeSlices
import Derived.Stop.LaidErr
import Derived.Lib.LaidTab
import Derived.MakeChecks
import Derived.Shelf.Vars
set_option linter.all false
namespace Go.Proofs.YtihaaoehhgmphaaGreatDoor
open IntKind Go.ChangeShapes Go.WideShapes Go.ChangeAt Go.RowKit
def Tryz.own:ownKnob Tryz.prog.godebug=none:=by kernel_rfl
def Tryz.laidOut:laidOutB aL=true:=by kernel_rfl
section
variable{H:Type}{enc:TypeId×Value->H}{P:Program}
def aoa{f:Func}{s:ChangeSpec}{apart fresh handsOn again:Bool}{W W':World}{args:Array Value}{v:Value}{ds gs:List (DataW H)}{before pa pv:List MemPlace}
  (hW:DataW.Whole enc P f.params.toList s.vars apart W args.toList ds gs before)
  (hres:∀(b:Nat) (sp:Nat->Bool) (hd:Bool),DataW.TrodAll enc P W' b sp hd f.resultTypes.toList (v.resultList f.resultTypes.size) (s.fn H (ds++gs)).results [])
  (hargs:∀sp:Nat->Bool,(∀p∈before,sp p.block=true)->DataW.TrodAll enc P W' 0 sp true f.params.toList args.toList (s.fn H (ds++gs)).args pa)
  (hvars:∀sp:Nat->Bool,(∀p∈before,sp p.block=true)->DataW.TrodVars enc P W' sp s.vars (s.fn H (ds++gs)).vars pv)
  (hps:before=pa++pv)(hb:Below W.heap.size W W')
  (hok:∀(j:Nat) (t:TypeId) (r:Value),f.resultTypes[j]?=some t->(v.resultList f.resultTypes.size)[j]?=some r->Value.okWide P W' .any 0 t r):
  s.post enc P f apart fresh handsOn again W args v W':=by
 have hlt:∀p∈before,p.block<W.heap.size:=λp hp=>hW.lt p hp;have hold:∀p∈before,(λb=>decide (b<W.heap.size)) p.block=true:=λp hp=>by simpa using hlt p hp
 refine⟨ds,gs,before,[],pa,pv,hW,hres _ _ _,hargs _ hold,hvars _ hold,World.keptBut_mono (λp hp=>⟨hp,?_⟩) (hb.frame (·∈before)),λ_=>?_⟩
 .rw[hps,mE]at hp
  exact Or.inr hp
 .obtain⟨_,_,_,_,_,hz,hn⟩:=hW
  refine⟨hok,_,_,([]++pa)++pv,⟨[]++pa,pv,trodAll_append (hargs _ (λ_ _=>rfl)) (hres _ _ _),hvars _ (λ_ _=>rfl),rfl,?_,?_⟩,?_⟩
  .intro b off hp
   have hin:MemPlace.cell b off∈before:=by rw[hps];simpa using hp
   rw[hb.frozen (hlt _ hin)];exact hz b off hin
  .intro ha
   have:=hn ha;rw[hps]at this;simpa using this
  .intro p hp _
   rw[hps];simpa using hp
def aob{W W':World}(hl:laidOutB P=true)(hb:Below W.heap.size W W'){sp:Nat->Bool}:∀{ts:List TypeId} {vs:List Value} {ds:List (DataW H)} {ps:List MemPlace},
  ts.all (λt=>P.readableRec t&&decide (t<P.types.size))=true->DataW.TrodAll enc P W 0 (λ_=>true) true ts vs ds ps->(∀x∈ps,x.block<W.heap.size)->(∀x∈ps,sp x.block=true)->
  DataW.TrodAll enc P W' 0 sp true ts vs ds ps:=by
 intro ts
 induction ts with
 |nil=>intro vs ds ps _ h _ _;obtain⟨rfl,rfl,rfl⟩:=trodAll_nil h;exact trodAll_mk0
 |cons t ts ih=>
  intro vs ds ps hts h hlt hsp;obtain⟨v,vs,d,ds,p,q,rfl,rfl,rfl,h0,h1⟩:=trodAll_cons h;simp only[FY,e_,nk]at hts;exact⟨p,q,(WideElems.Trod_stays hl hts.1.1 hts.1.2 h0 (λx hx=>hb.same (hlt x (rO _ hx))) (λx hx=>hsp x (rO _ hx))),
   (ih hts.2 h1 (λx hx=>hlt x (ue _ hx)) (λx hx=>hsp x (ue _ hx))),rfl⟩
def anO{W:World}{b:Nat}{sp:Nat->Bool}{hd:Bool}:∀{ts:List TypeId} {vs:List Value} {ds:List (DataW H)} {ps:List MemPlace},DataW.TrodAll enc P W b sp hd ts vs ds ps->ds.length=ts.length:=by
 intro ts
 induction ts with
 |nil=>intro vs ds ps h;obtain⟨rfl,rfl,rfl⟩:=trodAll_nil h;rfl
 |cons t ts ih=>intro vs ds ps h;obtain⟨v,vs,d,ds,p,q,rfl,rfl,rfl,h0,h1⟩:=trodAll_cons h;simp[ih h1]
end
end Go.Proofs.YtihaaoehhgmphaaGreatDoor
namespace Go.Proofs.YtihaaoehhgmphaaGreatDoor
open IntKind Go.ChangeShapes Go.WideShapes Go.Deep Go.RowKit
section
variable{H:Type}{enc:TypeId×Value->H}{P:Program}{w:World}{base:Nat}{spare:Nat->Bool}{held:Bool}
def wf_u8{n:Int}(h:(Lit.int .u8 n).wf=true):0<=n/\n<256:=by simp[Lit.wf,IntKind.min,IntKind.max,IntKind.signed,IntKind.bits]at h;omega
end
end Go.Proofs.YtihaaoehhgmphaaGreatDoor
namespace Go.Proofs.YtihaaoehhgmphaaGreatDoor
open IntKind Go.ChangeShapes Go.WideShapes Go.ChangeAt Go.RowKit Go.Deep
section
variable{H:Type}{enc:TypeId×Value->H}{P:Program}
def tq(P:Program)(t:TypeId)(d:DataW H):Prop:=∀n∈d.weights P t,n<=reachBytes
def tq.str{t:TypeId}{l:List UInt8}(h:tq P t (.lit (.string l):DataW H)):l.length<=140737488355328:=by have:=h l.length (by simp[DataW.weights]);have e:reachBytes=140737488351232:=rfl;omega
def tq.field{t:TypeId}{fs:Array Field}{parts:List (DataW H)}(h:tq P t (.agg parts:DataW H))(hu:P.underlying t=some (.struct fs)){j:Nat}{f:Field}{d:DataW H}(hf:fs[j]?=some f)(hd:parts[j]?=some d):tq P f.type d:=by intro n hn;refine h n ?_;simp only[DataW.weights,hu];exact DataW.weights_mem_each (j:=j) (t:=f.type) (by simp[hf]) hd n hn
def tq.slice{t e:TypeId}{elems spare:List (DataW H)}(h:tq P t (.slice elems spare:DataW H))(hu:P.underlying t=some (.slice e)):(elems.length+spare.length)*P.bytesOf e<=reachBytes:=by refine h _ ?_;simp only[DataW.weights,hu,gE];exact .inl trivial
def aoB{C:Checked}{f:FuncId}{fn:Func}{s:ChangeSpec}{apart fresh handsOn again:Bool}(laid:laidOutB C.prog=true)
  (hp:fn.params.toList.all (λt=>C.prog.readableRec t&&decide (t<C.prog.types.size))=true){tb:TypeId}(hres:fn.resultTypes=#[tb])(Mo:C.prog.underlying tb=some .bool)(hvars:s.vars=[])
  (hspec:∀ds:List (DataW H),ds.length=fn.params.toList.length->s.fn H ds={results:=[.lit (.bool true)],args:=ds})
  {W:World}{base:Nat}{args:Array Value}{ds gs:List (DataW H)}{before:List MemPlace}{vs:List TypeId}
  (hval:∀(j:Nat) t v,fn.params[j]?=some t->args[j]?=some v->Value.okWide C.prog W .any base t v)
  (hW:DataW.Whole enc C.prog fn.params.toList s.vars apart W args.toList ds gs before)
  (hsz:(DataW.weightsEach C.prog (fn.params.toList++vs) (ds++gs)).all (·<=reachBytes)=true)
  (walk:∀ps:List MemPlace,(∀(j:Nat) t v,fn.params[j]?=some t->args[j]?=some v->Value.okWide C.prog W .any base t v)->
   DataW.TrodAll enc C.prog W 0 (λ_=>true) true fn.params.toList args.toList ds ps->(∀(j:Nat) t d,fn.params.toList[j]?=some t->ds[j]?=some d->tq C.prog t d)->Calls C.prog f args W λe W'=>e=.returned (.bool true)/\Below W.heap.size W W'):
  Calls C.prog f args W λe W'=>∃v,e=.returned v/\s.post enc C.prog fn apart fresh handsOn again W args v W':=by
 have hW':=hW;obtain⟨p,q,hA,hV,rfl,_,_⟩:=hW;rw[hvars]at hV;obtain⟨rfl,rfl⟩:=trodVars_none hV;have hsize:∀(j:Nat) t d,fn.params.toList[j]?=some t->ds[j]?=some d->tq C.prog t d:=by intro j t d ht hd n hn;have hlt:j<fn.params.toList.length:=(iw.1 ht).1;have hlt':j<ds.length:=(iw.1 hd).1;have:=nO.1 hsz n (DataW.weights_mem_each (j:=j) (t:=t) (d:=d) (by rw[wX hlt];exact ht) (by rw[wX hlt'];exact hd) n hn);simpa using this
 refine(walk p hval hA hsize).mono λe W' ⟨he,hb⟩=>?_;subst he;have hlt:∀x∈p,x.block<W.heap.size:=λx hx=>hW'.lt x (by simpa using hx);have hs:s.fn H (ds++[])={results:=[.lit (.bool true)],args:=ds}:=by rw[aIk];exact hspec ds (anO hA)
 refine⟨_,rfl,aoa (pa:=p) (pv:=[]) hW' (λb sp hd=>?_) (λsp h=>?_) (λsp h=>?_) rfl hb ?_⟩
 .rw[hs,hres]
  exact trodAll_mk1 ⟨1,by simp[DataW.trod,Value.cells,Mo]⟩
 .rw[hs]
  exact aob laid hb hp hA hlt (λx hx=>h x (by simpa using hx))
 .rw[hs,hvars]
  rfl
 .intro j t r hj hr
  rw[hres]at hj hr
  match j,hj,hr with
  |0,hj,hr=>simp[Value.resultList]at hj hr;subst hj;subst hr;simp[Value.okWide,Mo,Cell.okWide,Cell.ok]
end
section
variable{H:Type}{enc:TypeId×Value->H}{P:Program}{w:World}{base:Nat}{spare:Nat->Bool}{held:Bool}
end
end Go.Proofs.YtihaaoehhgmphaaGreatDoor
namespace Go.Proofs.YtihaaoehhgmphaaGreatDoor
open IntKind Go.ChangeShapes Go.WideShapes Go.ChangeAt Go.RowKit Go.Deep
section
variable{H:Type}{enc:TypeId×Value->H}
def amD{C:Checked}{os:Os}{f:FuncId}{fn:Func}{s:ChangeSpec}{F:Stop.Interp}{conds:List PathCond}{apart fresh handsOn again:Bool}{lay:List (String×DataW Unit)}
  (own:ownKnob C.prog.godebug=none)(laid:laidOutB C.prog=true)(started:os.Started)(noInit:C.prog.inits.idxOf? f=none)(hfn:C.prog.funcs[f]?=some fn)
  (hp:fn.params.toList.all (λt=>C.prog.readableRec t&&decide (t<C.prog.types.size))=true){tb:TypeId}(hres:fn.resultTypes=#[tb])(Mo:C.prog.underlying tb=some .bool)(hvars:s.vars=[])
  (hspec:∀ds:List (DataW H),ds.length=fn.params.toList.length->s.fn H ds={results:=[.lit (.bool true)],args:=ds})
  (witness:∃(w:World) (tape:Tape) (i:Input),w.os=os/\(w.forCall tape i).Shaped C.prog/\i.vars=[]/\Input.okWide C.prog (w.forCall tape i) .any w.heap.size f i/\
   (OpenSpec.ofChange s).preRow enc C.prog fn conds apart lay (w.forCall tape i).memory i.args/\({}:Assume).holds C.prog (lone (Frame.enter C.prog f i.args .normal) [] (w.forCall tape i)))
  (walk:∀(W:World) (base:Nat) (args:Array Value) (ds:List (DataW H)) (ps:List MemPlace),(∀(j:Nat) t v,fn.params[j]?=some t->args[j]?=some v->Value.okWide C.prog W .any base t v)->
   DataW.TrodAll enc C.prog W 0 (λ_=>true) true fn.params.toList args.toList ds ps->(∀(j:Nat) t d,fn.params.toList[j]?=some t->ds[j]?=some d->tq C.prog t d)->laidMetH C.prog lay W->W.ShapedOpen C.prog->Calls C.prog f args W λe W'=>e=.returned (.bool true)/\Below W.heap.size W W'):
  ReturnsInHanded {} C os f .any ((OpenSpec.ofChange s).preRow enc C.prog fn conds apart lay) (((OpenSpec.ofChange s).at F).post enc C.prog fn apart fresh handsOn again):=by
 refine returnsInHanded_of_row (C:=C) (s:=OpenSpec.ofChange s) own started noInit hfn witness ?_;intro W base args ds gs before hval hW _ _ hsz hL hS _;exact aoB (s:=s) laid hp hres Mo hvars hspec hval hW hsz (λps h1 h2 h3=>walk W base args ds ps h1 h2 h3 hL hS)
end
def putObj(cs:List Value):Obj->Obj
 |.cells _ t fr=>.cells ⟨cs⟩ t fr
 |o=>o
end Go.Proofs.YtihaaoehhgmphaaGreatDoor
namespace Go.Proofs.YtihaaoehhgmphaaGreatDoor
open IntKind Go.ChangeShapes Go.WideShapes Go.ChangeAt Go.RowKit Vc
def Mod.toBelow{W W':World}(h:Still W W'):Below W.heap.size W W':=h.below (aR _) (λ_ h=>h.elim)
section
variable{H:Type}{enc:TypeId×Value->H}{W:World}{base b0:Nat}{spare:Nat->Bool}{held:Bool}{r:Reach}{v:Value}{d:DataW H}{ps:List MemPlace}
def aue{n:Nat}{y:DataW H×List MemPlace}(h:DataW.trod enc aL W base spare held n 22 [v]=some y):∃p L C vs,v=.slice p L C/\Ce W p L vs:=by
 rcases open_ints Tryz.underlying22 Tryz.underlying5 (by kernel_rfl) h with⟨hc,_⟩|⟨a,len,cap,zs,hc,_,hl,_,hz,_,hcell,hwf⟩
 .simp at hc
  exact⟨none,0,0,[],hc,rfl,by simp,λh=>absurd h (Bq _)⟩
 .simp at hc
  have hlz:len<=zs.length:=by rw[hz];split<;>omega
  have hw:∀z∈zs,0<=z/\z<256:=λz hz=>wf_u8 (hwf _ hz);refine⟨some a,len,cap,(zs.take len).map (·.toNat),hc,by simp;omega,?_,λ_=>⟨a,rfl,λj u hu=>?_⟩⟩
  .intro v hv
   obtain⟨z,hz,rfl⟩:=dM.1 hv;have:=hw z (Pw hz);omega
  .have hj:j<len:=by
    have:=(iw.1 hu).1;simp only[Nv,ke,eZ]at this;omega
   have Nw:j<zs.length:=by omega
   have hzj:=hw _ (kL Nw);rw[hcell j Nw];simp only[Nv,Dw,vF,aJ1,aN hj,iy Nw,FL,Function.comp,FG]at hu;rw[<-hu,Xy,iy Nw];congr 2;show zs[j]=((zs[j].toNat:Nat):Int)
   omega
set_option maxRecDepth 100000 in
def auf(hval:Value.okWide aL W r b0 22 v)(h:DataW.Trod enc aL W base spare held 22 v d ps):∃p L C vs,v=.slice p L C/\Ce W p L vs:=by obtain⟨p,L,C,rfl⟩:=okWide_slice Tryz.underlying22 hval;obtain⟨fuel,h⟩:=h;exact aue h
end
end Go.Proofs.YtihaaoehhgmphaaGreatDoor
namespace Go.Proofs.YtihaaoehhgmphaaGreatDoor
open IntKind Go.ChangeShapes Go.WideShapes Go.RowKit Vc
def aej(u:TypeId)(h:Tryz.prog.typeName? 3 u=some "*errors.errorString"):u=446:=
 typeName_ptr_named (nm:= "errors.errorString") (by rw[show "*" ++ "errors.errorString" = "*errors.errorString" by decide];kernel_rfl) (by kernel_rfl) (by decide) u (by rw[show "*" ++ "errors.errorString" = "*errors.errorString" by decide];exact h)
def adw{W:World}{n:String}{g:Nat}{v:Value}(hg:Tryz.prog.globalNamed n=some g)(h:W.var? aL n=some #[v]):W.cell? ⟨g,0,none⟩=some v:=by have:=World.var?_cell hg h 0;simpa using this
def av2{W:World}{x y:String×DataW Unit}{r:List (String×DataW Unit)}(h:laidMet aL (("internal/strconv.uint64pow10",Rows.laid_internal_strconv_uint64pow10)::x::y::("strconv.ErrSyntax",Rows.laid_strconv_ErrSyntax)::("strconv.ErrRange",Rows.laid_strconv_ErrRange)::r) W)(hS:W.ShapedOpen aL):aHx W:=by
 have ht:(Rows.laid_internal_strconv_uint64pow10:DataW Unit)=Lib.tabData .u64 Lib.pow10Tab:=by kernel_rfl
 rw[ht]at h;have h1:=Lib.tabIs_of_head (n:=20) (by kernel_rfl:Tryz.prog.globalNamed "internal/strconv.uint64pow10" =some 3) (by kernel_rfl:(Tryz.prog.globals[3]?).map (·.type)=some 391) Tryz.underlying391 Tryz.underlying189 (by kernel_rfl) (by kernel_rfl) h;obtain⟨a3,s3,h3,_⟩:=laid_sentinel h.tail.tail.tail (by kernel_rfl:Tryz.prog.globalNamed "strconv.ErrSyntax" =some 4) (by kernel_rfl:(Tryz.prog.globals[4]?).map (·.type)=some 88) Tryz.underlying88 aej Tryz.underlying446 Tryz.underlying448 rfl rfl Tryz.underlying9 (by kernel_rfl) (by kernel_rfl);obtain⟨a2,s2,h2,_⟩:=laid_sentinel h.tail.tail.tail.tail (by kernel_rfl:Tryz.prog.globalNamed "strconv.ErrRange" =some 5) (by kernel_rfl:(Tryz.prog.globals[5]?).map (·.type)=some 88) Tryz.underlying88 aej Tryz.underlying446 Tryz.underlying448 rfl rfl Tryz.underlying9 (by kernel_rfl) (by kernel_rfl);exact⟨⟨h1,⟨_,rfl,adw (by kernel_rfl) h3⟩,⟨_,rfl,adw (by kernel_rfl) h2⟩⟩,cell_of_shapedOpen_int (t:=3) (zero:=#[.int .i64 0]) hS (aQ (by kernel_rfl)) (by kernel_rfl) rfl (by kernel_rfl) (by kernel_rfl) Tryz.underlying3⟩
end Go.Proofs.YtihaaoehhgmphaaGreatDoor
namespace Go.Proofs.YtihaaoehhgmphaaGreatDoor
open IntKind Go.ChangeShapes Go.WideShapes Go.ChangeAt Go.RowKit Vc
set_option maxRecDepth 100000
section
variable{H:Type}{enc:TypeId×Value->H}{W:World}{base b0:Nat}{spare:Nat->Bool}{held:Bool}{r:Reach}{v:Value}{d:DataW H}{ps:List MemPlace}
def aug(hval:Value.okWide aL W r b0 22 v)(h:DataW.Trod enc aL W base spare held 22 v d ps)(_:tq aL 22 d):∃p L C,v=.slice p L C/\Ii W p L:=by obtain⟨p,L,C,vs,rfl,hu⟩:=auf hval h;refine⟨p,L,C,rfl,λi hi=>?_⟩;obtain⟨a,x,h1,_,h3,h4⟩:=hu.get hi;exact⟨a,x,h1,h3,by rw[aHA];exact h4⟩
end
end Go.Proofs.YtihaaoehhgmphaaGreatDoor
