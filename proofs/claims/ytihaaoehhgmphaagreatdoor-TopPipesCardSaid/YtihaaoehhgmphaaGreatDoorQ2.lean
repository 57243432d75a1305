/- Texts of one proof, one behind the other. Conditions: as each theorem names them. -/
import Derived.Test.YtihaaoehhgmphaaGreatDoorQ1
import Derived.Defers
import Derived.Recover
import Derived.RangeFuncRecord
import Derived.OrdersIn
import Derived.Test.YtihaaoehhgmphaaGreatDoorProg
set_option linter.all false
namespace Go.Proofs
noncomputable abbrev aM:=Tryz.prog
abbrev aH3:=Calls Tryz.prog
end Go.Proofs
namespace Go.Proofs.YtihaaoehhgmphaaGreatDoor.Vc
open IntKind Go.RowKit
def DG:List Oper->Option (List Oper×Oper×Operand×List Operand)
 |[]=>none
 |[o]=>match o.op with
  |.defer ⟨.value f,⟨xs⟩,_⟩=>some ([],o,f,xs)
  |_=>none
 |o::r=>match DG r with
  |some (pre,d,f,xs)=>some (o::pre,d,f,xs)
  |none=>none
def Ak(ws:List Nat):List ResultVar->Bool
 |[]=>true
 |.tmp t::r=>!(ws.contains t)&&Ak ws r
 |.cell a _::r=>!(ws.contains a)&&Ak ws r
def LX(P:Program)(rs:List ResultVar)(R:Ending->World->Prop)(g:FuncId)(dargs:List Value)(l0:Fr):B3 where
 normal:=λl w=>CallsD P g ⟨dargs⟩ .returning w λe u' w'=>(∃v,e=.returned v)/\settle u'=.returning/\rG P w' rs l λvs=>R (.returned (wN vs)) w'
 exit:=λ_ _ _=>False
 ret:=λl w=>CallsD P g ⟨dargs⟩ .returning w λe u' w'=>(∃v,e=.returned v)/\settle u'=.returning/\rG P w' rs l λvs=>R (.returned (wN vs)) w'
 panic:=λc w=>CallsD P g ⟨dargs⟩ (.panicking c) w λe u' w'=>(∃v,e=.returned v)/\settle u'=.returning/\rG P w' rs l0 λvs=>R (.returned (wN vs)) w'
def Tw(P:Program)(rs:List ResultVar)(R:Ending->World->Prop)(g:FuncId)(dargs:List Value)(l0:Fr):B3:={LX P rs R g dargs l0 with panic:=λ_ _=>False}
def yH(P:Program)(pl:nQ)(rs:List ResultVar)(R:Ending->World->Prop):Code->Nat->Fr->World->Prop
 |.seq a b,p,l,w=>match a with
  |.region _ ⟨ops⟩ false=>match DG ops with
   |some (pre,d,f,xs)=>uB P ops (λl' w'=>cO l' f λfv=>gN fv λg first cap=>wM l' xs λvs=>ak (dP P g&&d.guard.isNone&&d.dst.isNone) (ak (Ak (written b) rs) (vc P pl b (2*p+1) (LX P rs R g (first++(vs++cap)) l') l' w') (vc P pl b (2*p+1) (Tw P rs R g (first++(vs++cap)) l') l' w')) False)
     (λc w'=>R (.panicked c) w') pre l w
   |none=>uB P ops (λl' w'=>yH P pl rs R b (2*p+1) l' w') (λc w'=>R (.panicked c) w') ops l w
  |a=>vc P pl a (2*p) {kS P rs R with normal:=λl' w'=>yH P pl rs R b (2*p+1) l' w'} l w
 |c,p,l,w=>vc P pl c p (kS P rs R) l w
def QY:∀{ops pre:List Oper} {d:Oper} {f:Operand} {xs:List Operand},DG ops=some (pre,d,f,xs)->ops=pre++[d]/\∃ts,d.op=.defer ⟨.value f,⟨xs⟩,ts⟩
 |[],_,_,_,_,h=>by cases h
 |[o],pre,d,f,xs,h=>by
  simp only[DG]at h;split at h
  .rename_i f' xs' ts ho
   simp only[JY,se]at h;obtain⟨rfl,rfl,rfl,rfl⟩:=h;exact⟨rfl,ts,ho⟩
  .cases h
 |o::o2::r,pre,d,f,xs,h=>by
  simp only[DG]at h;split at h
  .rename_i pre' d' f' xs' h2
   simp only[JY,se]at h;obtain⟨rfl,rfl,rfl,rfl⟩:=h;obtain⟨h3,h4⟩:=QY (ops:=o2::r) h2;exact⟨by rw[h3];rfl,h4⟩
  .cases h
def abd{α:Type}{f g:α->Sem Value}:∀{rs:List α},(∀r∈rs,f r=g r)->rs.mapM f=rs.mapM g
 |[],_=>rfl
 |r::rs,h=>by rw[aKt,aKt,h r (by simp),abd λx hx=>h x (by simp[hx])]
def at5{ws:List Nat}{l l':Fr}{ds:List Deferred}(ha:cg ws l l'):∀{rs:List ResultVar},Ak ws rs=true->∀r∈rs,yl (act l ds).tmps r=yl (act l' ds).tmps r:=by
 have get:∀t,(!(ws.contains t))=true->(act l ds).tmps.getD t undef=(act l' ds).tmps.getD t undef:=by
  intro t ht;have hn:t∉ws:=by simpa using ht
  have h2:=ha.2 t hn;simp only[act,Fg,Be,h2]
 intro rs
 induction rs with
 |nil=>intro _ r hr;cases hr
 |cons x rs ih=>
  intro h r hr;cases x with
  |tmp t=>
   simp only[Ak,eC]at h;rcases iQ.1 hr with rfl|hr
   .simp only[yl,get t h.1]
   .exact ih h.2 r hr
  |cell a t=>
   simp only[Ak,eC]at h;rcases iQ.1 hr with rfl|hr
   .simp only[yl,get a h.1]
   .exact ih h.2 r hr
def apB{fn:Func}{ws:List Nat}{l l':Fr}{ds:List Deferred}(ha:cg ws l l')(h:Ak ws fn.results.toList=true):results fn (act l ds).tmps=results fn (act l' ds).tmps:=by
 have e:∀tmps:Array Value,results fn tmps=(do
   let vs<-fn.results.mapM (yl tmps)
   pure (if h:vs.size=1 then vs[0]else .tuple vs)):=by
  intro tmps;unfold results;congr 2
 rw[e,e,Jy,Jy,abd (at5 ha h)]
def abe{P:Program}{ops:List Oper}{ds:List Deferred}{K:Fr->World->Prop}{E:List PanicEntry->World->Prop}{Q:Exit->Act->World->Prop}{rest:List Oper}(hE:∀l' c w',E c w'->Q (.panic c) (act l' ds) w'):
  ∀{pre:List Oper} {l:Fr} {w:World},uB P ops K E pre l w->(∀l' w',K l' w'->wpList P ⟨ops⟩ Q rest (act l' ds) w')->wpList P ⟨ops⟩ Q (pre++rest) (act l ds) w:=by
 intro pre
 induction pre with
 |nil=>intro l w h hK;exact hK l w h
 |cons o r ih=>
  intro l w h hK;have next:∀v w',uB P ops K E r (put l o.dst v) w'->wpList P ⟨ops⟩ Q (r++rest) ((act l ds).put o.dst v) w':=by intro v w' h;rw[aJB];exact ih h hK
  rw[FB];unfold wpList;rcases tw (ds:=ds) h with⟨hw,h⟩|⟨hw,h⟩
  .rw[aR hw]
   exact .inl (Rt h (λv w' hk=>next v w' (jk hk)) (λc w' he=>hE l c w' he))
  .rw[aL (by simp[hw])]
   exact next undef w (jk h)
def abf{P:Program}{l:Fr}{ds:List Deferred}{o:Oper}{f:Operand}{xs:List Operand}{ts:Array TypeId}(ho:o.op=.defer ⟨.value f,⟨xs⟩,ts⟩){g:FuncId}{first cap:List Value}
  (hf:(act l ds).eval f=.func (.func g) ⟨first⟩ ⟨cap⟩)(w:World):
  (execOp (act l ds).eval o).run P w=.ok (.defer {target:=.fn (.func g) ⟨cap⟩,args:=⟨first++xs.map (act l ds).eval⟩}) w:=by
 have e:({toList:=first}:Array Value)++Array.map (act l ds).eval {toList:=xs}=⟨first++xs.map (act l ds).eval⟩:=by apply jL;simp
 simp only[execOp,ho,resolve,hf,Deferred.ofValue,Sem.run_bind,Sem.run_pure,Result.andThen_ok];rw[e]
def aK1:Code->Bool
 |.region _ ⟨ops⟩ _=>ops.any λo=>match o.op with
  |.defer _=>true
  |_=>false
 |.seq a b=>aK1 a||aK1 b
 |.cond _ a b=>aK1 a||aK1 b
 |_=>false
def wO(P:Program)(Q:Exit->Act->World->Prop):List Code->Act->World->Prop
 |[]=>Q .normal
 |c::r=>c.wp P (Exit.then (wO P Q r) Q)
def Vj(P:Program)(pl:nQ)(C:B3):List (Code×Nat)->Fr->World->Prop
 |[],l,w=>C.normal l w
 |(c,p)::r,l,w=>vc P pl c p {C with normal:=λl' w'=>Vj P pl C r l' w'} l w
def uX(P:Program)(pl:nQ)(rs:List ResultVar)(R:Ending->World->Prop):Nat->List (Code×Nat)->Fr->World->Prop
 |0,_,_,_=>False
 |_+1,[],l,w=>(kS P rs R).normal l w
 |n+1,(c,p)::r,l,w=>match c with
  |.seq a b=>ak (aK1 (.seq a b)) (uX P pl rs R n ((a,2*p)::(b,2*p+1)::r) l w) (vc P pl (.seq a b) p {kS P rs R with normal:=λl' w'=>uX P pl rs R n r l' w'} l w)
  |.cond v x y=>ak (aK1 (.cond v x y)) (cO l v λv=>match v with
    |.bool t=>ak t (uX P pl rs R n ((x,2*p)::r) l w) (uX P pl rs R n ((y,2*p+1)::r) l w)
    |_=>False) (vc P pl (.cond v x y) p {kS P rs R with normal:=λl' w'=>uX P pl rs R n r l' w'} l w)
  |.region id ⟨ops⟩ false=>match DG ops with
   |some (pre,d,f,xs)=>uB P ops (λl' w'=>cO l' f λfv=>gN fv λg first cap=>wM l' xs λvs=>ak (dP P g&&d.guard.isNone&&d.dst.isNone) (Vj P pl (Tw P rs R g (first++(vs++cap)) l') r l' w') False)
     (λc w'=>R (.panicked c) w') pre l w
   |none=>vc P pl (.region id ⟨ops⟩ false) p {kS P rs R with normal:=λl' w'=>uX P pl rs R n r l' w'} l w
  |c=>vc P pl c p {kS P rs R with normal:=λl' w'=>uX P pl rs R n r l' w'} l w
def asp{P:Program}{pl:nQ}{fn:Func}{R:Ending->World->Prop}:∀(c:Code) (p:Nat) (l:Fr) (w:World),yH P pl fn.results.toList R c p l w->c.wp P (bodyPostD P fn R) (act l []) w:=by
 have plain:∀(c:Code) (p:Nat) (l:Fr) (w:World) (N:Fr->World->Prop) (Q:Exit->Act->World->Prop),vc P pl c p {kS P fn.results.toList R with normal:=N} l w->(∀l' w',N l' w'->Q .normal (act l' []) w')->
   (∀a w',bodyPostD P fn R .ret a w'->Q .ret a w')->(∀ch a w',bodyPostD P fn R (.panic ch) a w'->Q (.panic ch) a w')->c.wp P Q (act l []) w:=by
  intro c p l w N Q h hN hQr hQp;refine aIM (ds:=[]) c p _ l w Q h (λl' w' _ hk=>hN l' w' hk) (λi l' w' _ hk=>hk.elim) (λl' w' hk=>hQr _ _ ?_) (λl' ch w' _ hk=>hQp _ _ _ hk);obtain⟨vs,h1,h2⟩:=oU (ds:=[]) hk;exact⟨_,h1,h2⟩
 have ends:∀(c:Code) (p:Nat) (l:Fr) (w:World),vc P pl c p (kS P fn.results.toList R) l w->c.wp P (bodyPostD P fn R) (act l []) w:=by intro c p l w h;refine plain c p l w _ _ h (λl' w' hk=>?_) (λ_ _ h=>h) (λ_ _ _ h=>h);obtain⟨vs,h1,h2⟩:=oU (ds:=[]) hk;exact⟨_,h1,h2⟩
 intro c
 induction c with
 |seq a b iha ihb=>
  intro p l w h;simp only[yH]at h;have Cb:∀(N:Fr->World->Prop),vc P pl a (2*p) {kS P fn.results.toList R with normal:=N} l w->(∀l' w',N l' w'->b.wp P (bodyPostD P fn R) (act l' []) w')->(Code.seq a b).wp P (bodyPostD P fn R) (act l []) w:=by intro N h hN;refine wp_seq (plain a (2*p) l w N _ h (λl' w' hk=>hN l' w' hk) (λa w' hq=>hq) (λch a w' hq=>hq))
  split at h
  .rename_i id ops
   split at h
   .rename_i pre d f xs hcut
    obtain⟨Uq,ts,hd⟩:=QY hcut;refine wp_seq (wp_region_list ?_);have h2:wpList P ⟨ops⟩ (Exit.then (b.wp P (bodyPostD P fn R)) (bodyPostD P fn R)) (pre++[d]) (act l []) w:=by
     refine abe (λl' c w' he=>he) h λl' w' hk=>?_;obtain⟨g,first,cap,hf,hk⟩:=F6 (cL (ds:=[]) hk);have hk:=aK0 (ds:=[]) hk;obtain⟨hb,hk⟩:=dR hk;simp only[eC]at hb;obtain⟨⟨Hx,hgd⟩,Ur⟩:=hb;have hg:d.guard=none:=by simpa using hgd
     have hds:d.dst=none:=by simpa using Ur
     unfold wpList;rw[aR (by simp[Region.wanted,hg])];refine .inl ?_;unfold Oper.wp;rw[abf hd hf,Oper.upon_defer,hds];show b.wp P (bodyPostD P fn R) (act l' [{target:=.fn (.func g) ⟨cap⟩,args:=⟨first++xs.map (act l' []).eval⟩}]) w'
     have inv:∀w:World,(invoke (.fn (.func g) ⟨cap⟩) ⟨first++xs.map (act l' []).eval⟩).run P w=.ok (.enter g ⟨first++(xs.map (act l' []).eval++cap)⟩) w:=by intro w;simp only[invoke];rw[KM Hx];simp
     rw[aIs]at hk;have Nn:∀l2 w2,(LX P fn.results.toList R g (first++(xs.map (act l' []).eval++cap)) l').normal l2 w2->bodyPostD P fn R .normal (act l2 [{target:=.fn (.func g) ⟨cap⟩,args:=⟨first++xs.map (act l' []).eval⟩}]) w2:=λl2 w2 hk2=>by refine leaves_cons (by simp) (inv w2) (hk2.mono ?_);rintro e u' w3 ⟨⟨v,rfl⟩,hu,hr⟩;dsimp only;rw[hu];obtain⟨vs,h1,h2⟩:=oU (ds:=[{target:=.fn (.func g) ⟨cap⟩,args:=⟨first++xs.map (act l' []).eval⟩}]) hr;exact⟨_,h1,h2⟩
     have MD:∀l2 w2,(LX P fn.results.toList R g (first++(xs.map (act l' []).eval++cap)) l').ret l2 w2->bodyPostD P fn R .ret (act l2 [{target:=.fn (.func g) ⟨cap⟩,args:=⟨first++xs.map (act l' []).eval⟩}]) w2:=λl2 w2 hk2=>by refine leaves_cons (by simp) (inv w2) (hk2.mono ?_);rintro e u' w3 ⟨⟨v,rfl⟩,hu,hr⟩;dsimp only;rw[hu];obtain⟨vs,h1,h2⟩:=oU (ds:=[{target:=.fn (.func g) ⟨cap⟩,args:=⟨first++xs.map (act l' []).eval⟩}]) hr;exact⟨_,h1,h2⟩
     cases hoff:Ak (written b) fn.results.toList with
     |false=>exact aIM (ds:=[{target:=.fn (.func g) ⟨cap⟩,args:=⟨first++xs.map (act l' []).eval⟩}]) b _ _ l' w' _ (hk.2 hoff) (λl2 w2 _ hk2=>Nn l2 w2 hk2) (λi l2 w2 _ hk2=>hk2.elim) (λl2 w2 hk2=>MD l2 w2 hk2) (λl2 ch w2 ha hk2=>hk2.elim)
     |true=>refine aIM (ds:=[{target:=.fn (.func g) ⟨cap⟩,args:=⟨first++xs.map (act l' []).eval⟩}]) b _ _ l' w' _ (hk.1 hoff) (λl2 w2 _ hk2=>Nn l2 w2 hk2) (λi l2 w2 _ hk2=>hk2.elim) (λl2 w2 hk2=>MD l2 w2 hk2) (λl2 ch w2 ha hk2=>?_);refine leaves_cons (by simp) (inv w2) (hk2.mono ?_);rintro e u' w3 ⟨⟨v,rfl⟩,hu,hr⟩;dsimp only;rw[hu];obtain⟨vs,h1,h2⟩:=oU (ds:=[{target:=.fn (.func g) ⟨cap⟩,args:=⟨first++xs.map (act l' []).eval⟩}]) hr;rw[apB ha hoff]at h1;exact⟨_,h1,h2⟩
    rw[<-Uq]at h2;exact h2
   .refine Cb (λl' w'=>yH P pl fn.results.toList R b (2*p+1) l' w') h (λl' w' hk=>ihb _ _ _ hk)
  .exact Cb (λl' w'=>yH P pl fn.results.toList R b (2*p+1) l' w') h (λl' w' hk=>ihb _ _ _ hk)
 |_=>intro p l w h;exact ends _ p l w h
def asq(A X:Act->World->Prop)(Q:Exit->Act->World->Prop):Exit.then A (Exit.then X Q)=Exit.then A Q:=by funext e a w;cases e<;>rfl
def abg{P:Program}{pl:nQ}{C:B3}{ds:List Deferred}{Q:Exit->Act->World->Prop}(hn:∀l w,C.normal l w->Q .normal (act l ds) w)(hx:∀i l w,C.exit i l w->Q (.exit i) (act l ds) w)(hr:∀l w,C.ret l w->Q .ret (act l ds) w)(hp:∀l ch w,C.panic ch w->Q (.panic ch) (act l ds) w):
  ∀(r:List (Code×Nat)) (l:Fr) (w:World),Vj P pl C r l w->wO P Q (r.map Prod.fst) (act l ds) w
 |[],l,w,h=>hn l w h
 |(c,p)::r,l,w,h=>aIM (ds:=ds) c p _ l w (Exit.then (wO P Q (r.map Prod.fst)) Q) h (λl' w' _ hk=>abg hn hx hr hp r l' w' hk) (λi l' w' _ hk=>hx i l' w' hk) (λl' w' hk=>hr l' w' hk) (λl' ch w' _ hk=>hp l' ch w' hk)
def aqI{P:Program}{pl:nQ}{fn:Func}{R:Ending->World->Prop}:∀(n:Nat) (r:List (Code×Nat)) (l:Fr) (w:World),uX P pl fn.results.toList R n r l w->wO P (bodyPostD P fn R) (r.map Prod.fst) (act l []) w:=by
 intro n
 induction n with
 |zero=>intro r l w h;exact h.elim
 |succ n ih=>
  intro r l w h;have fin:∀l w,(kS P fn.results.toList R).normal l w->bodyPostD P fn R .normal (act l []) w:=λl w h=>by obtain⟨vs,h1,h2⟩:=oU (ds:=[]) h;exact⟨_,h1,h2⟩
  have MD:∀l w,(kS P fn.results.toList R).ret l w->bodyPostD P fn R .ret (act l []) w:=λl w h=>by obtain⟨vs,h1,h2⟩:=oU (ds:=[]) h;exact⟨_,h1,h2⟩
  have Cb:∀(c:Code) (p:Nat) (r:List (Code×Nat)),vc P pl c p {kS P fn.results.toList R with normal:=λl' w'=>uX P pl fn.results.toList R n r l' w'} l w->wO P (bodyPostD P fn R) (c::r.map Prod.fst) (act l []) w:=λc p r h=>
   aIM (ds:=[]) c p _ l w (Exit.then (wO P (bodyPostD P fn R) (r.map Prod.fst)) (bodyPostD P fn R)) h (λl' w' _ hk=>ih r l' w' hk) (λi l' w' _ hk=>hk.elim) (λl' w' hk=>MD l' w' hk) (λl' ch w' _ hk=>hk)
  cases r with
  |nil=>exact fin l w h
  |cons x r=>
   obtain⟨c,p⟩:=x;simp only[uX]at h;split at h
   .rename_i a b
    rw[aIs]at h;cases hd:aK1 (Code.seq a b)with
    |true=>have h2:=ih _ _ _ (h.1 hd);simp only[fW,wO]at h2⊢;refine wp_seq ?_;rw[asq];exact h2
    |false=>exact Cb _ _ _ (h.2 hd)
   .rename_i v x y
    rw[aIs]at h;cases hd:aK1 (Code.cond v x y)with
    |true=>
     have h:=cL (ds:=[]) (h.1 hd);split at h
     .rename_i t hv
      rw[aIs]at h;refine wp_cond_split hv (λht=>?_) (λhf=>?_)
      .exact ih _ _ _ (h.1 ht)
      .exact ih _ _ _ (h.2 hf)
     .exact h.elim
    |false=>exact Cb _ _ _ (h.2 hd)
   .rename_i id ops
    split at h
    .rename_i pre d f xs hcut
     obtain⟨Uq,ts,hd⟩:=QY hcut;refine wp_region_list ?_;have h2:wpList P ⟨ops⟩ (Exit.then (wO P (bodyPostD P fn R) (r.map Prod.fst)) (bodyPostD P fn R)) (pre++[d]) (act l []) w:=by
      refine abe (λl' c w' he=>he) h λl' w' hk=>?_;obtain⟨g,first,cap,hf,hk⟩:=F6 (cL (ds:=[]) hk);have hk:=aK0 (ds:=[]) hk;obtain⟨hb,hk⟩:=dR hk;simp only[eC]at hb;obtain⟨⟨Hx,hgd⟩,Ur⟩:=hb;have hg:d.guard=none:=by simpa using hgd
      have hds:d.dst=none:=by simpa using Ur
      unfold wpList;rw[aR (by simp[Region.wanted,hg])];refine .inl ?_;unfold Oper.wp;rw[abf hd hf,Oper.upon_defer,hds];show wO P (bodyPostD P fn R) (r.map Prod.fst) (act l' [{target:=.fn (.func g) ⟨cap⟩,args:=⟨first++xs.map (act l' []).eval⟩}]) w'
      have inv:∀w:World,(invoke (.fn (.func g) ⟨cap⟩) ⟨first++xs.map (act l' []).eval⟩).run P w=.ok (.enter g ⟨first++(xs.map (act l' []).eval++cap)⟩) w:=by intro w;simp only[invoke];rw[KM Hx];simp
      refine abg (C:=Tw P fn.results.toList R g (first++(xs.map (act l' []).eval++cap)) l') (λl2 w2 hk2=>?_) (λi l2 w2 hk2=>False.elim hk2) (λl2 w2 hk2=>?_) (λl2 ch w2 hk2=>False.elim hk2) r l' w' hk
      .refine leaves_cons (by simp) (inv w2) (hk2.mono ?_)
       rintro e u' w3 ⟨⟨v,rfl⟩,hu,hr⟩;dsimp only;rw[hu];obtain⟨vs,h1,h2⟩:=oU (ds:=[{target:=.fn (.func g) ⟨cap⟩,args:=⟨first++xs.map (act l' []).eval⟩}]) hr;exact⟨_,h1,h2⟩
      .refine leaves_cons (by simp) (inv w2) (hk2.mono ?_)
       rintro e u' w3 ⟨⟨v,rfl⟩,hu,hr⟩;dsimp only;rw[hu];obtain⟨vs,h1,h2⟩:=oU (ds:=[{target:=.fn (.func g) ⟨cap⟩,args:=⟨first++xs.map (act l' []).eval⟩}]) hr;exact⟨_,h1,h2⟩
     rw[<-Uq]at h2;exact h2
    .exact Cb _ _ _ h
   .exact Cb _ _ _ h
def aqJ{P:Program}{f:FuncId}{fn:Func}{c:Code}{args:List Value}{w:World}{R:Ending->World->Prop}(pl:nQ)(hf:P.funcs[f]?=some fn)(hb:fn.body=some c)
  (h:uX P pl fn.results.toList R 100 [(c,1)] (aIP fn.ntmps args) w):Calls P f ⟨args⟩ w R:=by
 refine calls_of_wp_defers hf hb ?_;have e:(Array.mk args)++Array.replicate (fn.ntmps-(Array.mk args).size) undef=⟨aIP fn.ntmps args⟩:=by apply jL;simp[Bv]
 rw[e];have h2:=aqI 100 [(c,1)] _ w h;have e2:Exit.then (bodyPostD P fn R .normal) (bodyPostD P fn R)=bodyPostD P fn R:=by funext e a w;cases e<;>rfl
 simp only[fW,qZ,wO,e2]at h2;exact h2
def Bw{P:Program}{f:FuncId}{fn:Func}{c:Code}{args:List Value}{w:World}{R:Ending->World->Prop}(pl:nQ)(hf:P.funcs[f]?=some fn)(hb:fn.body=some c)
  (h:yH P pl fn.results.toList R c 1 (aIP fn.ntmps args) w):Calls P f ⟨args⟩ w R:=by
 refine calls_of_wp_defers hf hb ?_;have e:(Array.mk args)++Array.replicate (fn.ntmps-(Array.mk args).size) undef=⟨aIP fn.ntmps args⟩:=by apply jL;simp[Bv]
 rw[e];exact asp c 1 _ w h
abbrev mN(ro:Option Nat):Fence:={Fence.wide with round:=ro}
def aab{ro:Option Nat}{n:Nat}{P:Program}{f:FuncId}{args:Array Value}{w:World}{R:Ending->World->Prop}(h:Calls P f args w R):CallsIn (mN ro) n P f args w R:=(callsIn_wide (n:=n)).2 h
def asr{ro:Option Nat}{n:Nat}{P:Program}{row:String}{args:Array Value}{w:World}{R:Value->World->Prop}(h:Rows P row args w R):RowsIn (mN ro) n P row args w R:=λc cs _=>
 let⟨v,w',r,s⟩:=h c cs
 ⟨v,w',r,stepsIn_wide.2 s⟩
def aKk:Op->Bool
 |.defer _=>false
 |_=>true
def KP{op:Op}(h:aKk op=true):∀c,op≠.defer c:=by intro c e;rw[e]at h;cases h
def Rx{ro:Option Nat}{n:Nat}{P:Program}{o:Oper}{a:Act}{w:World}{next:Act->World->Prop}{Q:Exit->Act->World->Prop}(hd:aKk o.op=true)(h:o.wp P a w next Q):o.wpIn (mN ro) n P a w next Q:=by
 refine⟨λ_ _=>trivial,?_⟩;rw[Oper.semAt_eq _ _ _ (KP hd)];unfold Oper.wp at h;generalize(execOp a.eval o).run P w=r at h;cases r with
 |ok x w'=>
  cases x<;>simp only[Oper.upon,Oper.uponIn]at h⊢<;>first|exact h|exact h.elim|skip
  .exact⟨λe=>(by cases e),aab h⟩
  .exact⟨λe=>(by cases e),asr h⟩
 |halt x w'=>cases x<;>simp only[Oper.upon,Oper.uponIn]at h⊢<;>first|exact h|exact h.elim
def aK2(P:Program)(k:Nat)(args:List Value)(w:World)(R:Ending->World->Prop):Prop:=
 ∃fn tmps assign body,(Instr.yield k ⟨args⟩).run P w=.ok (.round k fn tmps assign body) w/\RoundIn Fence.wide 0 P k fn tmps assign body w R
def aK2.mono{P:Program}{k:Nat}{args:List Value}{w:World}{R R':Ending->World->Prop}(h:aK2 P k args w R)(hr:∀e w',R e w'->R' e w'):aK2 P k args w R':=by obtain⟨fn,tmps,a,b,h1,h2⟩:=h;exact⟨fn,tmps,a,b,h1,h2.mono hr⟩
def aqK{ro:Option Nat}{n l:Nat}{P:Program}{f:FuncId}{tmps:Array Value}{assign body:Code}{w:World}{R:Ending->World->Prop}(h:RoundIn Fence.wide 0 P l f tmps assign body w R):RoundIn (mN ro) n P l f tmps assign body w R:=
 ⟨h.1,λc cs _=>h.2 c cs (room_wide _)⟩
abbrev BP(k:Nat):Value:=.func (.yield k) #[] #[]
def aef(f:Value)(Y:Nat->Prop):Prop:=match f with
 |.func (.yield k) ⟨[]⟩ ⟨[]⟩=>Y k
 |_=>False
def SP(P:Program)(t:TypeId)(x lo hi mx:Value)(K:Value->Prop):Prop:=match x,lo,hi,mx with
 |.slice p _ c,.int _ i,.int _ j,.int _ m=>match P.underlying t with
  |some (.slice e)=>ak (iS P e) (0<=i/\i<=j/\j<=m/\m<=c/\K (.slice (if m.toNat=i.toNat then p else p.map (·.add (i.toNat*eB P e))) (j.toNat-i.toNat) (m.toNat-i.toNat))) False
  |_=>False
 |_,_,_,_=>False
def apC{P:Program}{t:TypeId}{x lo hi mx:Value}{K:Value->Prop}(h:SP P t x lo hi mx K):∃v,K v/\∀w,(Instr.sliceAt t x (some lo) (some hi) (some mx)).run P w=.ok v w:=by
 unfold SP at h;split at h
 .rename_i p n c k i k' j k2 m
  split at h
  .rename_i e ht
   obtain⟨hi',h0,h1,h2,h3,hk⟩:=dR h;refine⟨_,hk,λw=>?_⟩;have b:∀w,(Instr.sliceBounds true n c (some (.int k i)) (some (.int k' j)) (some (.int k2 m))).run P w=.ok (i.toNat,j.toNat,m.toNat) w:=λw=>by simp[Instr.sliceBounds,Bt (show 0<=m by omega) h3,Bt (show 0<=j by omega) (show j<=((m.toNat:Nat):Int) by omega),Bt h0 (show i<=((j.toNat:Nat):Int) by omega)]
   simp only[Instr.sliceAt,Instr.slice,Sem.run_bind,run_underlying ht,Result.andThen_ok,b,pM hi',Sem.run_pure]
  .exact h.elim
 .exact h.elim
def ME(P:Program)(r:List Oper)(l:Fr)(o:Oper)(w:World)(K:KW):Prop:=match o.op with
 |.call ⟨.value (.func _),_,_⟩=>qH P l o w K λ_ _=>False
 |.call ⟨.value f0,⟨xs⟩,_⟩=>cO l f0 λf=>aef f λk=>wM l xs λvs=>aK2 P k vs w λe w'=>∃b,e=.returned (.bool b)/\K (.bool b) w'
 |.slice t x (some lo) (some hi) (some mx)=>cO l x λx=>cO l lo λlo=>cO l hi λhi=>cO l mx λmx=>SP P t x lo hi mx λv=>K v w
 |_=>MA P r l o w K λ_ _=>False
def aac{ro:Option Nat}{n:Nat}{P:Program}{r:List Oper}{l:Fr}{ds:List Deferred}{o:Oper}{w:World}{K:KW}{next:Act->World->Prop}{Q:Exit->Act->World->Prop}
  (hd:aKk o.op=true)(h:ME P r l o w K)(hK:∀v w',K v w'->next ((act l ds).put o.dst v) w'):o.wpIn (mN ro) n P (act l ds) w next Q:=by
 have plain:qH P l o w K (λ_ _=>False)->o.wpIn (mN ro) n P (act l ds) w next Q:=λh=>Rx hd (Gg h hK λ_ _ h=>h.elim);unfold ME at h;split at h
 .exact plain h
 .rename_i f0 xs ts _ ho
  have h:=cL (ds:=ds) h;unfold aef at h;split at h
  .rename_i k hf
   obtain⟨fn,tmps,as',body,hy,hr⟩:=aK0 (ds:=ds) h;refine⟨λ_ _=>trivial,?_⟩;rw[Oper.semAt_eq _ _ _ (KP hd)];have e:({toList:=[]}:Array Value)++Array.map (act l ds).eval {toList:=xs}=⟨xs.map (act l ds).eval⟩:=by apply jL;simp
   have hrun:(execOp (act l ds).eval o).run P w=.ok (.round k fn tmps as' body) w:=by simp only[execOp,ho,resolve,hf,Deferred.ofValue,invoke,Sem.run_bind,Sem.run_pure,Result.andThen_ok];rw[e];exact hy
   rw[hrun,Oper.uponIn_round];refine⟨λe=>(by cases e),(aqK hr).mono ?_⟩;rintro _ w' ⟨b,rfl,hk⟩;exact hK _ _ hk
  .exact h.elim
 .rename_i t x lo hi mx ho
  obtain⟨v,hk,hr⟩:=apC (cL (ds:=ds) (cL (ds:=ds) (cL (ds:=ds) (cL (ds:=ds) h))));refine Rx hd ?_;unfold Oper.wp;have:(execOp (act l ds).eval o).run P w=.ok (.value v) w:=by simp only[execOp,ho,FE];exact oX (hr w)
  rw[this];exact hK v w hk
 .exact Rx hd (Rt h hK λ_ _ h=>h.elim)
def G5(P:Program)(ops:List Oper)(K:Fr->World->Prop):List Oper->Fr->World->Prop
 |[],l,w=>K l w
 |o::r,l,w=>ue ops l o.guard (λl=>ak (aKk o.op) (ME P r l o w λv w'=>mT l o.dst v λl'=>G5 P ops K r l' w') False) (λl=>mT l o.dst undef λl'=>G5 P ops K r l' w)
def aoV{ro:Option Nat}{n:Nat}{P:Program}{ops:List Oper}{ds:List Deferred}{K:Fr->World->Prop}{Q:Exit->Act->World->Prop}:
  ∀{rest:List Oper} {l:Fr} {w:World},G5 P ops K rest l w->(∀l' w',cg (eR rest) l l'->K l' w'->Q .normal (act l' ds) w')->wpListIn (mN ro) n P ⟨ops⟩ Q rest (act l ds) w:=by
 intro rest
 induction rest with
 |nil=>intro l w h hK;exact hK l w (cg.refl _ _) h
 |cons o r ih=>
  intro l w h hK;have next:∀v w',G5 P ops K r (put l o.dst v) w'->wpListIn (mN ro) n P ⟨ops⟩ Q r ((act l ds).put o.dst v) w':=by intro v w' h;rw[aJB];exact ih h λl' w' ha hk=>hK l' w' (RR ha) hk
  unfold wpListIn;rcases tw (ds:=ds) h with⟨hw,h⟩|⟨hw,h⟩
  .rw[aR hw]
   obtain⟨hd,h⟩:=dR h;exact aac hd h λv w' hk=>next v w' (jk hk)
  .rw[aL (by simp[hw])]
   exact⟨λ_ _=>trivial,next undef w (jk h)⟩
section
variable{ro:Option Nat}{n:Nat}{P:Program}{ops:List Oper}{Q:Exit->Act->World->Prop}{S:World->Prop}
def ZE{i:Nat}{o:Oper}{v:Value}{a:Act}(hd:aKk o.op=true)(hi:(Array.mk ops)[i]?=some o)(hy:YieldsIf P ⟨ops⟩ S o v a){K:Act->World->Prop}{w:World}(hS:S w)(h:K (a.put o.dst v) w):wpOpIn (mN ro) n P ⟨ops⟩ Q i K a w:=by
 unfold Go.wpOpIn;simp only[hi];rcases hy with⟨hw,hv⟩|⟨hw,rfl⟩
 .simp only[hw,oV,Oper.wpIn,Oper.semAt_eq _ _ _ (KP hd),hv w hS,Oper.uponIn]
  exact⟨λ_ _=>trivial,h⟩
 .simp only[hw,kP,iR]
  exact⟨λ_ _=>trivial,h⟩
def at6{j:Nat}{oi oj:Oper}{v:Value}(hj:(Array.mk ops)[j]?=some oj)(hd:aKk oj.op=true)(hap:oi.apart ⟨ops⟩ oj=true)(hsi:∀cs b,oi.op≠.select cs b)(hsj:∀cs b,oj.op≠.select cs b)
  (hQ:∀c a w,Q (.panic c) (a.put oi.dst v) w->Q (.panic c) a w){K:Act->World->Prop}{a:Act}{w:World}(hy:YieldsIf P ⟨ops⟩ S oi v a)(h:wpOpIn (mN ro) n P ⟨ops⟩ Q j K (a.put oi.dst v) w):
  wpOpIn (mN ro) n P ⟨ops⟩ Q j (λa' w'=>YieldsIf P ⟨ops⟩ S oi v a'/\K (a'.put oi.dst v) w') a w:=by
 obtain⟨h1,h2,h3⟩:=Oper.apart_spec hap;have keep:∀u,YieldsIf P ⟨ops⟩ S oi v (a.put oj.dst u):=λu=>hy.of_same (execOp_put oi hsi a oj.dst u h3) (wanted_put oi a oj.dst u h3);unfold wpOpIn at*;simp only[hj]at*;rw[wanted_put oj a oi.dst v h1]at h;split
 .rename_i hw
  simp only[hw,oV,Oper.wpIn,Oper.semAt_eq _ _ _ (KP hd)]at h⊢;refine⟨λ_ _=>trivial,?_⟩;have h:=h.2;rw[execOp_put oj hsj a oi.dst v h1]at h;generalize(execOp a.eval oj).run P w=r at*;cases r with
  |ok x w'=>
   cases x<;>simp only[Oper.uponIn]at h⊢
   case value u=>exact⟨keep u,by rw[<-Act.put_comm a v u h2];exact h⟩
   case skip=>exact⟨keep _,by rw[<-Act.put_comm a v undef h2];exact h⟩
   case defer d=>refine⟨(show YieldsIf P ⟨ops⟩ S oi v {a with defers:=d::a.defers}from hy.of_same rfl rfl).of_same (execOp_put oi hsi _ oj.dst undef h3) (wanted_put oi _ oj.dst undef h3),?_⟩;rw[<-Act.put_comm _ v undef h2,<-Act.put_defers];exact h
   case enter f args=>
    refine⟨h.1,CallsIn.mono h.2 λe w'' he=>?_⟩;cases e with
    |returned u=>exact⟨keep u,by rw[<-Act.put_comm a v u h2];exact he⟩
    |panicked c=>exact hQ _ _ _ he
    |outgrown=>exact he
   case row row args=>exact⟨h.1,RowsIn.mono h.2 λu w'' he=>⟨keep u,by rw[<-Act.put_comm a v u h2];exact he⟩⟩
   case round l f tmps assign body=>
    refine⟨h.1,RoundIn.mono h.2 λe w'' he=>?_⟩;cases e with
    |returned u=>exact⟨keep u,by rw[<-Act.put_comm a v u h2];exact he⟩
    |panicked c=>exact hQ _ _ _ he
    |outgrown=>exact he
  |halt x w'=>
   cases x<;>simp only[Oper.uponIn]at h⊢
   case panic u=>exact hQ _ _ _ h
 .rename_i hw
  simp only[hw]at h;exact⟨λ_ _=>trivial,keep _,by rw[<-Act.put_comm a v undef h2];exact h.2⟩
def BQ(ro:Option Nat)(n:Nat)(P:Program)(ops:List Oper)(Q:Exit->Act->World->Prop)(S:World->Prop):Nat->Array Bool->Act->World->Prop
 |0,listed,a,w=>Region.ready .any ⟨ops⟩ listed=[]/\Q .normal a w
 |fuel+1,listed,a,w=>
  (Region.ready .any ⟨ops⟩ listed=[]->Q .normal a w)/\
  ∀i∈Region.ready .any ⟨ops⟩ listed,wpOpIn (mN ro) n P ⟨ops⟩ Q i (λa' w'=>aLt ops S i w w'/\BQ ro n P ops Q S fuel (listed.setIfInBounds i true) a' w') a w
def aad:∀(fuel:Nat) (listed:Array Bool) (a:Act) (w:World),BQ ro n P ops Q S fuel listed a w->wpAnyIn (mN ro) n P .any ⟨ops⟩ Q fuel listed a w
 |0,_,_,_,h=>h
 |fuel+1,_,_,_,h=>⟨h.1,λi hi=>Go.wpOpIn_mono (λa' w' h'=>aad fuel _ a' w' h'.2) (h.2 i hi)⟩
def aoW{i:Nat}{oi:Oper}{v:Value}(hq:kR ops i=true)(hi:(Array.mk ops)[i]?=some oi)(hsel:∀(j:Nat) (o:Oper) cs b,(Array.mk ops)[j]?=some o->o.op≠.select cs b)(MF:∀o∈ops,aKk o.op=true)
  (hQ:∀c a w,Q (.panic c) (a.put oi.dst v) w->Q (.panic c) a w):
  ∀(fuel:Nat) (listed:Array Bool) (a:Act) (w:World),uf ops listed->
   (∀j oj,(Array.mk ops)[j]?=some oj->j≠i->listed.getD j true=false->(∀e∈oj.after,Region.binds .any e=true->e.on≠i)->oi.apart ⟨ops⟩ oj=true)->
   i∈Region.ready .any ⟨ops⟩ listed->YieldsIf P ⟨ops⟩ (λw=>iT ops i=true->S w) oi v a->(iT ops i=true->S w)->
   BQ ro n P ops Q S fuel (listed.setIfInBounds i true) (a.put oi.dst v) w->BQ ro n P ops Q S (fuel+1) listed a w:=by
 have hmem:∀{j:Nat} {o:Oper},(Array.mk ops)[j]?=some o->aKk o.op=true:=λh=>MF _ (tq (by simpa using h));intro fuel
 induction fuel with
 |zero=>
  intro listed a w hcl _ hr hy hS H;refine⟨λh=>(by rw[h]at hr;cases hr),λj hj=>?_⟩
  by_cases hji:j=i
  .subst hji;exact ZE (hmem hi) hi hy hS ⟨⟨λ_=>rfl,λh=>by rw[hq]at h;cases h⟩,H⟩
  .have:=ready_mono hj hji
   rw[H.1]at this;cases this
 |succ fuel ih=>
  intro listed a w hcl hfree hr hy hS H;refine⟨λh=>(by rw[h]at hr;cases hr),λj hj=>?_⟩
  by_cases hji:j=i
  .subst hji;exact ZE (hmem hi) hi hy hS ⟨⟨λ_=>rfl,λh=>by rw[hq]at h;cases h⟩,H⟩
  .have h1:=H.2 j (ready_mono hj hji)
   obtain⟨Ax,oj,sP,hall⟩:=mem_ready.1 hj;have hnot:∀e∈oj.after,Region.binds .any e=true->e.on≠i:=λe he hb heq=>by
    have h1:=hall e he hb;have h0:=(mem_ready.1 hr).1;rw[heq]at h1;rcases aJd i listed.size with h'|h'
    .simp[h']at h0 h1;rw[h0]at h1;cases h1
    .simp[JC h']at h1
   have h2:=at6 sP (hmem sP) (hfree j oj sP hji Ax hnot) (λcs b=>hsel i oi cs b hi) (λcs b=>hsel j oj cs b sP) hQ hy h1;have DR:∀k ok,(Array.mk ops)[k]?=some ok->k≠i->(listed.setIfInBounds j true).getD k true=false->
     (∀e∈ok.after,Region.binds .any e=true->e.on≠i)->oi.apart ⟨ops⟩ ok=true:=λk ok hk hki hun hno=>by
    refine hfree k ok hk hki ?_ hno
    by_cases hjk:j=k
    .subst hjk;exact Ax
    .rw[getD_set_ne true hjk]at hun;exact hun
   refine Go.wpOpIn_mono (λa' w' h3=>⟨h3.2.1,ih (listed.setIfInBounds j true) a' w' (tA hcl hj) DR (ready_mono hr (aKS hji)) h3.1 (λhl=>?_) ?_⟩) h2
   .cases AI:kR ops j with
    |true=>rw[h3.2.1.1 AI];exact hS hl
    |false=>exact h3.2.1.2 AI (DK hcl (mem_ready.1 hr).1 hji hl hj)
   .rw[OJ _ _ hji]
    exact h3.2.2
end
def aJv(P:Program)(ops:List Oper)(S:World->Prop)(K:Fr->World->Prop):Nat->Array Bool->Fr->World->Prop
 |0,listed,l,w=>ak (Region.ready .any ⟨ops⟩ listed).isEmpty (K l w) False
 |n+1,listed,l,w=>match Region.ready .any ⟨ops⟩ listed with
  |[]=>K l w
  |i::rs=>match(i::rs).find? (kR ops)with
   |some i=>match ops[i]? with
    |some o=>ak (Region.free .any ⟨ops⟩ listed i) (ue ops l o.guard
      (λl=>sO P l o (λa v=>∀w1,S w1->w1.cell? a=some v) λv=>mT l o.dst v λl'=>aJv P ops S K n (listed.setIfInBounds i true) l' w)
      (λl=>mT l o.dst undef λl'=>aJv P ops S K n (listed.setIfInBounds i true) l' w)) False
    |none=>False
   |none=>aI0.Hw (λi=>match ops[i]? with
    |some o=>ue ops l o.guard
      (λl=>ME P [] l o w λv w'=>mT l o.dst v λl'=>ak (mP ops i) (S w'/\aJv P ops S K n (listed.setIfInBounds i true) l' w') (aJv P ops S K n (listed.setIfInBounds i true) l' w'))
      (λl=>mT l o.dst undef λl'=>ak (mP ops i) (S w/\aJv P ops S K n (listed.setIfInBounds i true) l' w) (aJv P ops S K n (listed.setIfInBounds i true) l' w))
    |none=>False) (i::rs)
def apD{ro:Option Nat}{m:Nat}{P:Program}{ops:List Oper}{ds:List Deferred}{S:World->Prop}{K:Fr->World->Prop}{Q:Exit->Act->World->Prop}{l0:Fr}
  (hsel:Region.noSelect ⟨ops⟩=true)(MF:∀o∈ops,aKk o.op=true)(hQ:∀c a w,¬Q (.panic c) a w)(hK:∀l' w',cg (eR ops) l0 l'->K l' w'->Q .normal (act l' ds) w'):
  ∀(n:Nat) (listed:Array Bool) (l:Fr) (w:World),aJv P ops S K n listed l w->uf ops listed->cg (eR ops) l0 l->((∃i,listed.getD i true=false/\iT ops i=true)->S w)->
   BQ ro m P ops Q S n listed (act l ds) w:=by
 intro n
 induction n with
 |zero=>intro listed l w h hc ha hS;obtain⟨hr,h⟩:=dR h;exact⟨J4.1 hr,hK l w ha h⟩
 |succ n ih=>
  intro listed l w h hc ha hS;unfold aJv at h;split at h
  .rename_i hr
   exact⟨λ_=>hK l w ha h,by rw[hr];simp⟩
  .rename_i i0 rs hr
   split at h
   .rename_i i hf
    have hq:kR ops i=true:=J9 hf;have hmem:i∈Region.ready .any ⟨ops⟩ listed:=by rw[hr];exact Jz hf
    split at h
    .rename_i o ho
     obtain⟨hfree,h⟩:=dR h;have qI:(Array.mk ops)[i]?=some o:=by simpa using ho
     have hun:=(mem_ready.1 hmem).1;have step:∀v,YieldsIf P ⟨ops⟩ (λw=>iT ops i=true->S w) o v (act l ds)->aJv P ops S K n (listed.setIfInBounds i true) (put l o.dst v) w->BQ ro m P ops Q S (n+1) listed (act l ds) w:=by
      intro v hy hn;refine aoW hq qI (Region.noSelect_spec hsel) MF (λc a w h=>(hQ c _ w h).elim) n listed _ w hc (Region.free_spec qI hfree) hmem hy (λhl=>hS ⟨i,hun,hl⟩) ?_;rw[aJB];refine ih _ _ w hn (tA hc hmem) (Bu ho ha) ?_;rintro⟨k,hk,hl⟩;refine hS ⟨k,?_,hl⟩
      by_cases hki:i=k
      .subst hki
       exact hun
      .rwa[getD_set_ne true hki]at hk
     rcases tw (ds:=ds) h with⟨hw,h⟩|⟨hw,h⟩
     .cases hl:wC o.op with
      |false=>obtain⟨v,hk,hrun⟩:=aK5 (ds:=ds) (Rv (Nl:=λ_ _=>False) hl h);exact step v (.inl ⟨hw,λw _=>hrun w (λ_ _ h=>h.elim)⟩) (jk hk)
      |true=>
       obtain⟨v,hk,hrun⟩:=aK5 (ds:=ds) h;have hlb:iT ops i=true:=by unfold iT;rw[ho];exact hl
       exact step v (.inl ⟨hw,λw hs=>hrun w (λa u h=>h w (hs hlb))⟩) (jk hk)
     .exact step undef (.inr ⟨hw,rfl⟩) (jk h)
    .exact h.elim
   .rename_i hnone
    have h:=RS h;refine⟨λh0=>(by rw[hr]at h0;cases h0),λi hi=>?_⟩;have hi':i∈i0::rs:=by rw[<-hr];exact hi
    have h:=h i hi';have hq:kR ops i=false:=by have:=Pw.1 hnone i hi';simpa using this
    split at h
    .rename_i o ho
     have qI:(Array.mk ops)[i]?=some o:=by simpa using ho
     have next:∀v w',ak (mP ops i) (S w'/\aJv P ops S K n (listed.setIfInBounds i true) (put l o.dst v) w') (aJv P ops S K n (listed.setIfInBounds i true) (put l o.dst v) w')->
       aLt ops S i w w'/\BQ ro m P ops Q S n (listed.setIfInBounds i true) ((act l ds).put o.dst v) w':=by
      intro v w' h;rw[aJB];have rest:aJv P ops S K n (listed.setIfInBounds i true) (put l o.dst v) w':=by
       rw[aIs]at h;cases hb:mP ops i with
       |true=>exact(h.1 hb).2
       |false=>exact h.2 hb
      have need:mP ops i=true->S w':=λhb=>by rw[aIs]at h;exact(h.1 hb).1
      refine⟨⟨λaJ5=>(by rw[hq]at aJ5;cases aJ5),λ_=>need⟩,ih _ _ w' rest (tA hc hi) (Bu ho ha) ?_⟩;rintro⟨k,hk,hl⟩
      by_cases hki:i=k
      .subst hki
       unfold iT at hl;unfold kR at hq;rw[ho]at hl hq;have h1:wC o.op=true:=hl;have h2:GI o.op=false:=hq;rw[Rw h1]at h2;cases h2
      .rw[getD_set_ne true hki]at hk
       exact need (DK hc hk hki hl hi)
     unfold wpOpIn;simp only[qI];rcases tw (ds:=ds) h with⟨hw,h⟩|⟨hw,h⟩
     .rw[aR hw]
      exact aac (MF _ (tq ho)) h λv w' hk=>next v w' (jk hk)
     .rw[aL (by simp[hw])]
      exact⟨λ_ _=>trivial,next undef w (jk h)⟩
    .exact h.elim
def aeg(P:Program)(ops:List Oper)(K:Fr->World->Prop)(l:Fr)(w:World):Prop:=
 ak (P.follows .mixedOrders&&Region.noSelect ⟨ops⟩&&ops.all λo=>aKk o.op) (∃S:World->Prop,S w.drew/\aJv P ops S K ops.length (Array.replicate ops.length false) l w.drew) False
def aoX{ro:Option Nat}{n:Nat}{P:Program}{id:Nat}{ops:List Oper}{ds:List Deferred}{K:Fr->World->Prop}{Q:Exit->Act->World->Prop}{l:Fr}{w:World}
  (h:aeg P ops K l w)(hK:∀l' w',cg (eR ops) l l'->K l' w'->Q .normal (act l' ds) w'):(Code.region id ⟨ops⟩ true).wpIn (mN ro) n P Q (act l ds) w:=by
 obtain⟨hb,S,hs,h⟩:=dR h;rw[eC,eC,ql]at hb
 let Q':Exit->Act->World->Prop:=λe a w=>match e with
  |.normal=>Q .normal a w
  |_=>False
 have h1:(Code.region id ⟨ops⟩ true).wpIn (mN ro) n P Q' (act l ds) w:=by refine wpIn_region_any hb.1.1 (aad (S:=S) _ _ _ _ ?_);refine apD (Q:=Q') (l0:=l) hb.1.2 hb.2 (λc a w h=>h) (λl' w' ha hk=>hK l' w' ha hk) _ _ _ _ h ?_ (cg.refl _ _) (λ_=>hs);intro j o _ hl;exfalso;simp only[Fg,OK]at hl;split at hl<;>cases hl
 refine Go.wpIn_mono h1 λe a w' hq=>?_;cases e<;>simp only[Q']at hq<;>first|exact hq|exact hq.elim
structure G6 where
 normal:List Nat->Fr->World->Prop
 exit:Nat->List Nat->Fr->World->Prop
 ret:List Nat->Fr->World->Prop
def marks(ms:List Nat):List Deferred:=ms.map λr=>{target:=.collected r,args:=#[]}
def aIN:Code->List Nat
 |.region _ ⟨ops⟩ _=>eR ops
 |.seq a b=>aIN a++aIN b
 |.cond _ a b=>aIN a++aIN b
 |.block _ c=>aIN c
 |.loop c=>aIN c
 |_=>[]
def sy(r:Loop):Obj:=.loop {r with state:=.busy}
def aLg(r:Loop)(j:Code):Obj:=.loop {r with state:=.done,pending:=some j}
def KY(k:Nat)(rec:Loop)(R:Ending->World->Prop):G6 where
 normal:=λ_ _ w=>w.heap[k]?=some (sy rec)/\R (.returned (.bool true)) (w.putObj k (.loop rec))
 exit:=λi _ _ w=>w.heap[k]?=some (sy rec)/\R (.returned (.bool false)) (w.putObj k (aLg rec (.exit i)))
 ret:=λ_ _ w=>w.heap[k]?=some (sy rec)/\R (.returned (.bool false)) (w.putObj k (aLg rec .ret))
def ax0(k:Nat)(rec:Loop)(C:G6)(ms:List Nat)(l:Fr)(w:World):Prop:=
 (w.heap[k]?=some (.loop rec)/\C.normal ms l (w.putObj k (.loop {rec with state:=.exhausted})))\/
 (w.heap[k]?=some (aLg rec .ret)/\C.ret ms l (w.putObj k (.loop {rec with state:=.exhausted,pending:=some .ret})))\/
 (∃i,w.heap[k]?=some (aLg rec (.exit i))/\C.exit i ms l (w.putObj k (.loop {rec with state:=.exhausted,pending:=some (.exit i)})))
def oD(P:Program)(pl:nQ)(out:Bool):Code->Nat->G6->List Nat->Fr->World->Prop
 |.skip,_,C,ms,l,w=>C.normal ms l w
 |.region _ ⟨ops⟩ false,_,C,ms,l,w=>G5 P ops (C.normal ms) ops l w
 |.region _ ⟨ops⟩ true,_,C,ms,l,w=>aeg P ops (C.normal ms) l w
 |.seq a b,p,C,ms,l,w=>match lookup pl.live p with
  |none=>oD P pl out a (2*p) {C with normal:=λms' l' w'=>oD P pl out b (2*p+1) C ms' l' w'} ms l w
  |some sp=>∃J:dZ (aIq sp) (World->Prop),
    oD P pl out a (2*p) {C with normal:=λms' l' w'=>ms'=ms/\Ai l' sp λvs=>dZ.app (aIq sp) J vs λq=>q w'} ms l w/\
    aK_ (aIq sp) λvs=>∀(us:Nat->Value) (w':World),(dZ.app (aIq sp) J vs λq=>q w')->z_ us (aIN a) l λl1=>Aj sp vs l1 λl2=>oD P pl out b (2*p+1) C ms l2 w'
 |.cond c a b,p,C,ms,l,w=>cO l c λv=>match v with
  |.bool t=>ak t (oD P pl out a (2*p) C ms l w) (oD P pl out b (2*p+1) C ms l w)
  |_=>False
 |.block id c,p,C,ms,l,w=>oD P pl out c (2*p) {C with exit:=λi ms' l' w'=>ak (Nat.beq i id) (C.normal ms' l' w') (C.exit i ms' l' w')} ms l w
 |.loop c,p,C,ms,l,w=>match lookup pl.live p with
  |none=>False
  |some sp=>∃(I:dZ (aIq sp) (List Nat->World->Prop)) (m:dZ (aIq sp) (World->Nat)),
    (Ai l sp λvs=>dZ.app (aIq sp) I vs λq=>q ms w)/\
    aK_ (aIq sp) λvs=>∀(us:Nat->Value) (ms':List Nat) (w':World),(dZ.app (aIq sp) I vs λq=>q ms' w')->z_ us (aIN c) l λl1=>Aj sp vs l1 λl2=>
     oD P pl out c (2*p) {C with normal:=λms3 l3 w3=>Ai l3 sp λvs'=>(dZ.app (aIq sp) I vs' λq=>q ms3 w3)/\dZ.app (aIq sp) m vs' λm1=>dZ.app (aIq sp) m vs λm0=>m1 w3<m0 w'} ms' l2 w'
 |.rangeFunc g ⟨ps⟩ as' body,p,C,ms,l,w=>cO l g λgv=>gN gv λf first cap=>match lookup pl.live p with
  |none=>False
  |some sp=>ak (out&&decide (sp.map (·.1)=ps)&&dP P f)
   (∀rec:Loop,rec.state=.ready->rec.pending=none->
    (aK_ (aIq sp) λvs=>∀(w1:World) (R:Ending->World->Prop),w1.heap[w.heap.size+1]?=some (.loop rec)->
     (Aj sp vs l λl1=>oD P pl false as' (2*p) {normal:=λm2 l2 w2=>m2=[]/\w2.heap[w.heap.size+1]?=some (.loop rec)/\cS (w2.putObj (w.heap.size+1) (sy rec)) λw3=>oD P pl false body (2*p+1) (KY (w.heap.size+1) rec R) [] l2 w3,exit:=λ_ _ _ _=>False,ret:=λ_ _ _=>False} [] l1 w1)->
     aK2 P (w.heap.size+1) vs w1 R)->
    Calls P f ⟨first++(BP (w.heap.size+1)::cap)⟩ ((w.alloc (.deferred (some []))).alloc (.loop rec)) λe w3=>(∃v,e=.returned v)/\ax0 (w.heap.size+1) rec C (w.heap.size::ms) l w3) False
 |.exit i,_,C,ms,l,w=>C.exit i ms l w
 |.ret,_,C,ms,l,w=>C.ret ms l w
 |_,_,_,_,_,_=>False
def Y8{x:jc}{K:Value->Prop}(h:∀v,K v):GG x K:=by cases x<;>simp only[GG]<;>intros<;>exact h _
def anE{l:List jc}:∀{K:List Value->Prop},(∀vs:List Value,vs.length=l.length->K vs)->La l K:=by
 induction l with
 |nil=>intro K h;exact h [] rfl
 |cons x r ih=>intro K h;exact Y8 λv=>ih λvs hl=>h (v::vs) (by simp[hl])
def apE{x:Ty}{K:Value->Prop}(h:∀v,K v):TU x K:=by
 cases x with
 |leaf x=>exact Y8 h
 |agg l=>exact anE λvs _=>h _
 |eZ n=>exact λcs _=>h _
def aoY{l:List Ty}:∀{K:List Value->Prop},(∀vs:List Value,vs.length=l.length->K vs)->aK_ l K:=by
 induction l with
 |nil=>intro K h;exact h [] rfl
 |cons x r ih=>intro K h;exact apE λv=>ih λvs hl=>h (v::vs) (by simp[hl])
def Zi:∀sp:List (Nat×Ty),(aIq sp).length=sp.length
 |[]=>rfl
 |_::r=>by simp[aIq,Zi r]
def abh:∀{sp:List (Nat×Ty)} {vs:List Value} {l:Fr},vs.length=sp.length->sets sp vs l=((sp.map (·.1)).zip vs).foldl (λl x=>l.set x.1 x.2) l
 |[],[],_,_=>rfl
 |[],_::_,_,h=>by simp at h
 |_::_,[],_,h=>by simp at h
 |x::r,v::vs,l,h=>by simp only[sets,fW,List.zip_cons_cons,vQ];exact abh (by simpa using h)
def at7(zs:List (Nat×Value)):∀l:Fr,zs.foldl (λ(tmps:Array Value) (x:Nat×Value)=>tmps.setIfInBounds x.1 x.2) ⟨l⟩=⟨zs.foldl (λl x=>l.set x.1 x.2) l⟩:=by
 induction zs with
 |nil=>intro l;rfl
 |cons x r ih=>intro l;simp only[vQ,OC,ih]
def aot{P:Program}{a:Act}{w:World}{g:Operand}{k:Nat}{f:FuncId}{first cap:List Value}(hg:a.eval g=.func (.func f) ⟨first⟩ ⟨cap⟩):
  (resolve a.eval (rangeCall g k) 0).run P w=.ok {target:=.fn (.func f) ⟨cap⟩,args:=⟨first++[BP k]⟩} w:=by
 simp only[resolve,rangeCall,hg,Deferred.ofValue,Sem.run_pure];congr 2;apply jL;simp[Act.eval]
def ass{P:Program}{k:Nat}{rec:Loop}{R:Ending->World->Prop}(hst:rec.state=.ready)(hp:rec.pending=none){c:Code}{l:Fr}{w:World}{n:Nat}
  (h:∀Q:Exit->Act->World->Prop,(∀ms' l' w',cg (aIN c) l l'->(KY k rec R).normal ms' l' w'->Q .normal (act l' (marks ms')) w')->(∀i ms' l' w',cg (aIN c) l l'->(KY k rec R).exit i ms' l' w'->Q (.exit i) (act l' (marks ms')) w')->
   (∀ms' l' w',(KY k rec R).ret ms' l' w'->Q .ret (act l' (marks ms')) w')->c.wpIn (mN (some k)) n P Q (act l []) w):c.wpIn (mN (some k)) n P (roundPost P k R) (act l []) w:=by
 refine h _ (λms' l' w' _ hk=>?_) (λi ms' l' w' _ hk=>?_) (λms' l' w' hk=>?_)
 .refine⟨_,_,run_endRound none hk.1,?_⟩
  have e:(Obj.loop {({rec with state:=.busy}:Loop)with state:=if(none:Option Code).isNone=true then .ready else .done,pending:=none})=.loop rec:=by cases rec;simp only at hst hp;subst hst hp;rfl
  have h2:=hk.2;rw[<-e]at h2;exact h2
 .exact⟨_,_,run_endRound (some (.exit i)) hk.1,hk.2⟩
 .exact⟨_,_,run_endRound (some .ret) hk.1,hk.2⟩
def tG{P:Program}{pl:nQ}{n:Nat}:∀(c:Code) (out:Bool) (ro:Option Nat) (p:Nat) (C:G6) (ms:List Nat) (l:Fr) (w:World) (Q:Exit->Act->World->Prop),(out=true->ro=none)->oD P pl out c p C ms l w->
  (∀ms' l' w',cg (aIN c) l l'->C.normal ms' l' w'->Q .normal (act l' (marks ms')) w')->(∀i ms' l' w',cg (aIN c) l l'->C.exit i ms' l' w'->Q (.exit i) (act l' (marks ms')) w')->
  (∀ms' l' w',C.ret ms' l' w'->Q .ret (act l' (marks ms')) w')->c.wpIn (mN ro) n P Q (act l (marks ms)) w
 |.skip,out,ro,p,C,ms,l,w,Q,ho,h,hn,_,_=>wpIn_skip (hn ms l w (cg.refl _ _) h)
 |.region id ⟨ops⟩ false,out,ro,p,C,ms,l,w,Q,ho,h,hn,_,_=>wpIn_region_list (aoV h λl' w' ha hk=>hn ms l' w' ha hk)
 |.region id ⟨ops⟩ true,out,ro,p,C,ms,l,w,Q,ho,h,hn,_,_=>aoX h λl' w' ha hk=>hn ms l' w' ha hk
 |.seq a b,out,ro,p,C,ms,l,w,Q,ho,h,hn,he,hr=>by
  simp only[oD]at h;have left:∀{l':Fr},cg (aIN a) l l'->cg (aIN (.seq a b)) l l':=λha=>ha.mono λt ht=>aJx _ ht;have both:∀{l' l2:Fr},cg (aIN a) l l'->cg (aIN b) l' l2->cg (aIN (.seq a b)) l l2:=λha hb=>ha.trans hb (λt ht=>aJx _ ht) (λt ht=>tj _ ht);refine wpIn_seq ?_;split at h
  .refine tG a out ro (2*p) _ ms l w _ ho h (λms' l' w' ha hk=>?_) (λi ms' l' w' ha hk=>he i ms' l' w' (left ha) hk) (λms' l' w' hk=>hr ms' l' w' hk)
   exact tG b out ro (2*p+1) C ms' l' w' Q ho hk (λm2 l2 w2 hb hk=>hn m2 l2 w2 (both ha hb) hk) (λi m2 l2 w2 hb hk=>he i m2 l2 w2 (both ha hb) hk) hr
  .rename_i sp _
   obtain⟨J,h1,h2⟩:=h;refine tG a out ro (2*p) _ ms l w _ ho h1 (λms' l' w' ha hk=>?_) (λi ms' l' w' ha hk=>he i ms' l' w' (left ha) hk) (λms' l' w' hk=>hr ms' l' w' hk);obtain⟨rfl,hk⟩:=hk;obtain⟨vs,hrd,hj⟩:=DA hk;have h3:=dZ.tU hj h2;have h4:=F_ ha hrd λus=>h3 us w' hj;exact tG b out ro (2*p+1) C ms' l' w' Q ho h4 (λm2 l2 w2 hb hk=>hn m2 l2 w2 (both ha hb) hk) (λi m2 l2 w2 hb hk=>he i m2 l2 w2 (both ha hb) hk) hr
 |.cond c a b,out,ro,p,C,ms,l,w,Q,ho,h,hn,he,hr=>by
  simp only[oD]at h;have h:=cL (ds:=marks ms) h;split at h
  .rename_i v t hv
   rw[aIs]at h;refine wpIn_cond_split hv (λht=>?_) (λhf=>?_)
   .exact tG a out ro (2*p) C ms l w Q ho (h.1 ht) (λms' l' w' ha hk=>hn ms' l' w' (ha.mono λt ht=>aJx _ ht) hk) (λi ms' l' w' ha hk=>he i ms' l' w' (ha.mono λt ht=>aJx _ ht) hk) hr
   .exact tG b out ro (2*p+1) C ms l w Q ho (h.2 hf) (λms' l' w' ha hk=>hn ms' l' w' (ha.mono λt ht=>tj _ ht) hk) (λi ms' l' w' ha hk=>he i ms' l' w' (ha.mono λt ht=>tj _ ht) hk) hr
  .exact h.elim
 |.block id c,out,ro,p,C,ms,l,w,Q,ho,h,hn,he,hr=>by
  simp only[oD]at h;refine wpIn_block (tG c out ro (2*p) _ ms l w _ ho h (λms' l' w' ha hk=>hn ms' l' w' ha hk) (λi ms' l' w' ha hk=>?_) (λms' l' w' hk=>hr ms' l' w' hk))
  replace hk:ak (Nat.beq i id) (C.normal ms' l' w') (C.exit i ms' l' w'):=hk
  rw[aIs]at hk;simp only[Exit.inBlock]
  by_cases hi:i=id
  .rw[aR hi]
   exact hn ms' l' w' ha (hk.1 (by rw[hi];exact Nat.beq_refl id))
  .rw[aL hi]
   refine he i ms' l' w' ha (hk.2 ?_);cases hb:Nat.beq i id with
   |false=>rfl
   |true=>exact(hi (aIT hb)).elim
 |.loop c,out,ro,p,C,ms,l,w,Q,ho,h,hn,he,hr=>by
  simp only[oD]at h;split at h
  .exact h.elim
  .rename_i sp _
   obtain⟨I,m,h0,h1⟩:=h;refine wpIn_loop (λa w'=>∃ms' l' vs,a=act l' (marks ms')/\cg (aIN c) l l'/\Reads l' sp vs/\dZ.app (aIq sp) I vs λq=>q ms' w') (MC sp m) ?_ ?_
   .obtain⟨vs,hrd,hi⟩:=DA h0
    exact⟨ms,l,vs,rfl,cg.refl _ _,hrd,hi⟩
   .rintro a w' ⟨ms',l',vs,rfl,ha,hrd,hi⟩
    have h3:=dZ.tU hi h1;have h4:=F_ ha hrd λus=>h3 us ms' w' hi;refine tG c out ro (2*p) _ ms' l' w' _ ho h4 (λm2 l2 w2 hb hk=>?_) (λi m2 l2 w2 hb hk=>he i m2 l2 w2 (ha.trans hb (λ_ h=>h) (λ_ h=>h)) hk) (λm2 l2 w2 hk=>hr m2 l2 w2 hk);obtain⟨vs',H7,hi',hm⟩:=DA hk;refine⟨⟨m2,l2,vs',rfl,ha.trans hb (λ_ h=>h) (λ_ h=>h),H7,hi'⟩,?_⟩;obtain⟨m1,aId,e1⟩:=Lv (a:=act l2 (marks m2)) (w:=w2) H7 hm;obtain⟨m0,hm0,e0⟩:=Lv (a:=act l' (marks ms')) (w:=w') hrd aId;rw[e1,e0];exact hm0
 |.rangeFunc g ⟨ps⟩ as' body,out,ro,p,C,ms,l,w,Q,ho,h,hn,he,hr=>by
  simp only[oD]at h;obtain⟨f,first,cap,hf,h⟩:=F6 (cL (ds:=marks ms) h);split at h
  .exact h.elim
  rename_i sp _;obtain⟨hb,h2⟩:=dR h;rw[eC,eC]at hb;obtain rfl:=ho hb.1.1;obtain rfl:=aT hb.1.2;refine wpIn_rangeFunc λfn _=>?_;refine⟨w.heap.size+1,[{target:=.collected w.heap.size,args:=#[]}],_,{target:=.fn (.func f) ⟨cap⟩,args:=⟨first++[BP (w.heap.size+1)]⟩},_,f,⟨first++(BP (w.heap.size+1)::cap)⟩,(w.alloc (.deferred (some []))).alloc (.loop {state:=.ready,pending:=none,fn,tmps:=(act l (marks ms)).tmps,params:=⟨sp.map (·.1)⟩,assign:=as',body,defers:=w.heap.size}),run_enterLoop_outer fn (act l (marks ms)).tmps ⟨sp.map (·.1)⟩ as' body,aot hf,λ_ _=>trivial,?_,λe=>(by cases e),?_⟩
  .simp only[invoke]
   rw[KM hb.2];congr 2;apply jL;simp
  .refine aab ((h2 {state:=.ready,pending:=none,fn,tmps:=(act l (marks ms)).tmps,params:=⟨sp.map (·.1)⟩,assign:=as',body,defers:=w.heap.size} rfl rfl ?_).mono ?_)
   .refine aoY λvs hlen w1 R h1 hv=>?_
    rw[Zi]at hlen;have hv:=abc hv;rw[abh hlen]at hv;refine⟨fn,_,as',body,run_yield h1 (by simp[hlen]),?_⟩;have e:((⟨sp.map (·.1)⟩:Array Nat).zip (⟨vs⟩:Array Value)).foldl (λ(tmps:Array Value) (x:Nat×Value)=>tmps.setIfInBounds x.1 x.2) (act l (marks ms)).tmps=⟨((sp.map (·.1)).zip vs).foldl (λl x=>l.set x.1 x.2) l⟩:=by rw[<-at7];simp[act]
    refine roundIn_of_wpIn trivial ?_;have e2:({tmps:=((⟨sp.map (·.1)⟩:Array Nat).zip (⟨vs⟩:Array Value)).foldl (λ(tmps:Array Value) (x:Nat×Value)=>tmps.setIfInBounds x.1 x.2) (act l (marks ms)).tmps,defers:=[]}:Act)=act (((sp.map (·.1)).zip vs).foldl (λl x=>l.set x.1 x.2) l) (marks []):=by rw[e];rfl
    have go:=tG (n:=0) as' false (some (w.heap.size+1)) (2*p) _ [] _ w1 (Exit.then (λa₁ w₁=>∃w₂,(Instr.beginRound (w.heap.size+1)).run P w₁=.ok () w₂/\body.wpIn (mN (some (w.heap.size+1))) 0 P (roundPost P (w.heap.size+1) R) a₁ w₂) (λ_ _ _=>False)) (λe=>by cases e) hv (λms' l' w' _ hk=>?_) (λ_ _ _ _ _ hk=>hk.elim) (λ_ _ _ hk=>hk.elim)
    .rw[<-e2]at go
     exact go
    .obtain⟨rfl,h5,h6⟩:=hk
     refine⟨_,run_beginRound h5 rfl,?_⟩;refine ass (rec:={state:=.ready,pending:=none,fn,tmps:=(act l (marks ms)).tmps,params:=⟨sp.map (·.1)⟩,assign:=as',body,defers:=w.heap.size}) rfl rfl λQ hn he hr=>?_;exact tG body false (some (w.heap.size+1)) (2*p+1) _ [] l' _ Q (λe=>by cases e) h6 hn he hr
   .rintro _ w3 ⟨⟨v,rfl⟩,hk⟩
    have ayO:({act l (marks ms)with defers:=[{target:=.collected w.heap.size,args:=#[]}]++(act l (marks ms)).defers}:Act)=act l (marks (w.heap.size::ms)):=rfl;rw[ayO];rcases hk with⟨h1,h2⟩|⟨h1,h2⟩|⟨i,h1,h2⟩
    .exact⟨_,_,run_endLoop h1 (by simp),hn _ l _ (cg.refl _ _) h2⟩
    .exact⟨_,_,run_endLoop h1 (by simp),wpIn_ret (hr _ l _ h2)⟩
    .exact⟨_,_,run_endLoop h1 (by simp),wpIn_exit (he i _ l _ (cg.refl _ _) h2)⟩
 |.exit i,out,ro,p,C,ms,l,w,Q,ho,h,_,he,_=>wpIn_exit (he i ms l w (cg.refl _ _) h)
 |.ret,out,ro,p,C,ms,l,w,Q,ho,h,_,_,hr=>wpIn_ret (hr ms l w h)
 |.label _,_,_,_,_,_,_,_,_,_,h,_,_,_=>h.elim
 |.goto _,_,_,_,_,_,_,_,_,_,h,_,_,_=>h.elim
 |.scope _,_,_,_,_,_,_,_,_,_,h,_,_,_=>h.elim
 |.refuse _,_,_,_,_,_,_,_,_,_,h,_,_,_=>h.elim
def DT:List Nat->World->(World->Prop)->Prop
 |[],w,K=>K w
 |r::ms,w,K=>w.heap[r]?=some (.deferred (some []))/\DT ms (w.putObj r (.deferred none)) K
def aua(P:Program)(rs:List ResultVar)(R:Ending->World->Prop):G6 where
 normal:=λms l w=>DT ms w λw'=>rG P w' rs l λvs=>R (.returned (wN vs)) w'
 exit:=λ_ _ _ _=>False
 ret:=λms l w=>DT ms w λw'=>rG P w' rs l λvs=>R (.returned (wN vs)) w'
def QZ{P:Program}{n:Nat}{fn:Func}{l:Fr}{ds:List Deferred}{R:Ending->World->Prop}:∀{ms:List Nat} {w:World},DT ms w (λw'=>rG P w' fn.results.toList l λvs=>R (.returned (wN vs)) w')->
  LeavesInM Fence.wide n P fn (act l ds).tmps R (marks ms) .returning w
 |[],w,h=>by obtain⟨vs,h1,h2⟩:=oU (ds:=ds) (show rG P w fn.results.toList l _ from h);exact⟨_,h1,h2⟩
 |r::ms,w,h=>⟨by simp,.inl ⟨r,_,rfl,run_takeDeferred h.1,QZ h.2⟩⟩
def abi{P:Program}{f:FuncId}{fn:Func}{c:Code}{args:List Value}{w:World}{R:Ending->World->Prop}(pl:nQ)(hf:P.funcs[f]?=some fn)(hb:fn.body=some c)
  (h:oD P pl true c 1 (aua P fn.results.toList R) [] (aIP fn.ntmps args) w):Calls P f ⟨args⟩ w R:=by
 refine(callsIn_wide (n:=0)).1 (callsIn_of_wp_marks hf hb trivial ?_);have e:(Array.mk args)++Array.replicate (fn.ntmps-(Array.mk args).size) undef=⟨aIP fn.ntmps args⟩:=by apply jL;simp[Bv]
 rw[e];exact tG c true none 1 _ [] _ w _ (λ_=>rfl) h (λms' l' w' _ hk=>QZ (ds:=marks ms') hk) (λi ms' l' w' _ hk=>hk.elim) (λms' l' w' hk=>QZ (ds:=marks ms') hk)
end Go.Proofs.YtihaaoehhgmphaaGreatDoor.Vc
namespace Go.Proofs.YtihaaoehhgmphaaGreatDoor
open IntKind Go.RowKit Vc
set_option maxRecDepth 100000
abbrev zW:=World
abbrev zT:=List UInt8
abbrev zO:=Option Addr
abbrev zU:=Nat->Value
abbrev zV:=World->Prop
abbrev zE:=Ending->World->Prop
abbrev zI(n:Int):Value:=.int .i64 n
abbrev zS(s:zT):Value:=.string (S s)
abbrev zB(b:Bool):Value:=.bool b
abbrev zP(p:zO):Value:=.pointer p
abbrev zL(p:zO)(n c:Nat):Value:=.slice p n c
abbrev zN:Value:=.slice none 0 0
abbrev zA(w:World)(o:Nat):Addr:=Addr.mk w.heap.size o none
abbrev zM(w:zW)(c:List Value)(t:TypeId)(K:zV):Prop:=cS (w.alloc (.cells ⟨c⟩ t)) K
abbrev zJ(x:zW)(a:Addr)(v:Value)(K:zV):Prop:=Wr x a/\K (x.setCell a v)
abbrev zX(w:zW)(c:List Value)(t:TypeId)(d:List Value)(K:zV):Prop:=cS (w.alloc (.cells ⟨c⟩ t)) λw1=>cJ (Addr.mk w.heap.size 0 none) K 0 d w1
abbrev zC(a:Addr)(w:zW)(d:List Value)(K:zV):Prop:=cJ a K 0 d w
abbrev zR(R:zE)(v:Value)(w:zW):Prop:=R (.returned v) w
abbrev zD(i:Int)(n:Nat)(K:Prop):Prop:=0<=i/\i<(n:Int)/\K
abbrev zH(w:zW)(K:zV->Prop):Prop:=∃J:zV,J w/\K J
abbrev zK(f:FuncId)(a:List Value)(w:zW)(R:zE)(K:zE):Prop:=aH3 f ⟨a⟩ w λe w=>K e w\/(∃c,e=.panicked c/\R (.panicked c) w)
abbrev zF(f:FuncId)(a:List Value)(w:zW)(K:zE):Prop:=aH3 f ⟨a⟩ w λe w=>K e w\/(∃c,e=.panicked c/\False)
abbrev eE(f:FuncId)(a:List Value)(w:zW)(R:zE)(K:Bool->zW->Prop):Prop:=aH3 f ⟨a⟩ w λe w=>(∃(x0:Bool),e=.returned (zB x0)/\K x0 w)\/(∃c,e=.panicked c/\R (.panicked c) w)
abbrev b9(f:FuncId)(a:List Value)(w:zW)(R:zE)(K:zT->zW->Prop):Prop:=aH3 f ⟨a⟩ w λe w=>(∃(x0:zT),e=.returned (zS x0)/\K x0 w)\/(∃c,e=.panicked c/\R (.panicked c) w)
abbrev zK2(f:FuncId)(a:List Value)(w:zW)(R:zE)(K:Int->zO->Nat->Nat->Int->zW->Prop):Prop:=aH3 f ⟨a⟩ w λe w=>(∃(x0:Int)(x1:zO)(x2:Nat)(x3:Nat)(x4:Int),e=.returned (.tuple #[zI x0,zL x1 x2 x3,zI x4])/\K x0 x1 x2 x3 x4 w)\/(∃c,e=.panicked c/\R (.panicked c) w)
abbrev zK3(f:FuncId)(a:List Value)(w:zW)(R:zE)(K:zO->Int->zT->zT->zO->Nat->Nat->zT->zO->Nat->Nat->zO->Nat->Nat->Int->Int->Int->Int->zW->Prop):Prop:=aH3 f ⟨a⟩ w λe w=>(∃(x0:zO)(x1:Int)(x2:zT)(x3:zT)(x4:zO)(x5:Nat)(x6:Nat)(x7:zT)(x8:zO)(x9:Nat)(iF:Nat)(iG:zO)(iH:Nat)(iW:Nat)(jr:Int)(js:Int)(jd:Int)(aIE:Int),e=.returned (.tuple #[zP x0,.agg #[zI x1,zS x2,zS x3,zL x4 x5 x6,zS x7,zL x8 x9 iF,zL iG iH iW,zI jr,zI js,zI jd,zI aIE]])/\K x0 x1 x2 x3 x4 x5 x6 x7 x8 x9 iF iG iH iW jr js jd aIE w)\/(∃c,e=.panicked c/\R (.panicked c) w)
abbrev bZ(w:zW)(a:Addr)(K:Int->Prop):Prop:=∃(x0:Int),w.cell? a=some (zI x0)/\K x0
abbrev aH6(w:zW)(a:Addr)(K:zT->Prop):Prop:=∃(x0:zT),w.cell? a=some (zS x0)/\K x0
abbrev aH8(w:zW)(a:Addr)(K:zO->Nat->Nat->Prop):Prop:=∃(x0:zO)(x1:Nat)(x2:Nat),w.cell? a=some (zL x0 x1 x2)/\K x0 x1 x2
abbrev nZ(f:FuncId)(a:List Value)(w:zW)(R:zE)(K:Int->zT->zT->Bool->zW->Prop):Prop:=aH3 f ⟨a⟩ w λe w=>(∃(x0:Int)(x1:zT)(x2:zT)(x3:Bool),e=.returned (.tuple #[.agg #[zI x0,zS x1,zS x2],zB x3])/\K x0 x1 x2 x3 w)\/(∃c,e=.panicked c/\R (.panicked c) w)
abbrev jD(w:zW)(a:Nat)(K:Int->zT->zT->Prop):Prop:=∃(x0:Int)(x1:zT)(x2:zT),w.cell? (Addr.mk a 0 none)=some (zI x0)/\w.cell? (Addr.mk a 1 none)=some (zS x1)/\w.cell? (Addr.mk a 2 none)=some (zS x2)/\K x0 x1 x2
abbrev zl0(i0:zT)(i1:Int)(w:zW)(K:(zT->Int->zW->Prop)->(zT->Int->zW->Nat)->zT->Int->zW->Prop):Prop:=∃(I:zT->Int->zW->Prop)(m:zT->Int->zW->Nat),I i0 i1 w/\∀x0 x1(_:zU)w1,I x0 x1 w1->K I m x0 x1 w1
abbrev iI(A:(zW->Prop)->Prop)(K:zW->Prop):Prop:=∃J:zW->Prop,A J/\∀(_:zU)w1,J w1->K w1
abbrev fQ(A:(Bool->zW->Prop)->Prop)(K:Bool->zW->Prop):Prop:=∃J:Bool->zW->Prop,A J/\∀x0(_:zU)w1,J x0 w1->K x0 w1
abbrev eW(f:FuncId)(a:List Value)(w:zW)(R:zE)(K:zO->Nat->Nat->zW->Prop):Prop:=aH3 f ⟨a⟩ w λe w=>(∃(x0:zO)(x1:Nat)(x2:Nat),e=.returned (zL x0 x1 x2)/\K x0 x1 x2 w)\/(∃c,e=.panicked c/\R (.panicked c) w)
abbrev Vk(A:(zT->zW->Prop)->Prop)(K:zT->zW->Prop):Prop:=∃J:zT->zW->Prop,A J/\∀x0(_:zU)w1,J x0 w1->K x0 w1
abbrev Is(w:zW)(a:Addr)(K:Int->Prop):Prop:=∃(x0:Int),w.cell? a=some (.int .u8 x0)/\K x0
abbrev ie(f:FuncId)(a:List Value)(w:zW)(R:zE)(K:zO->zW->Prop):Prop:=aH3 f ⟨a⟩ w λe w=>(∃(x0:zO),e=.returned (zP x0)/\K x0 w)\/(∃c,e=.panicked c/\R (.panicked c) w)
abbrev zK7(f:FuncId)(a:List Value)(w:zW)(R:zE)(K:Int->zT->zT->zO->Nat->Nat->zT->zO->Nat->Nat->zO->Nat->Nat->Int->Int->Int->Int->zW->Prop):Prop:=aH3 f ⟨a⟩ w λe w=>(∃(x0:Int)(x1:zT)(x2:zT)(x3:zO)(x4:Nat)(x5:Nat)(x6:zT)(x7:zO)(x8:Nat)(x9:Nat)(iF:zO)(iG:Nat)(iH:Nat)(iW:Int)(jr:Int)(js:Int)(jd:Int),e=.returned (.agg #[zI x0,zS x1,zS x2,zL x3 x4 x5,zS x6,zL x7 x8 x9,zL iF iG iH,zI iW,zI jr,zI js,zI jd])/\K x0 x1 x2 x3 x4 x5 x6 x7 x8 x9 iF iG iH iW jr js jd w)\/(∃c,e=.panicked c/\R (.panicked c) w)
abbrev No(f:FuncId)(a:List Value)(w:zW)(R:zE)(K:zO->Int->zW->Prop):Prop:=aH3 f ⟨a⟩ w λe w=>(∃(x0:zO)(x1:Int),e=.returned (.tuple #[zP x0,zI x1])/\K x0 x1 w)\/(∃c,e=.panicked c/\R (.panicked c) w)
abbrev zK9(f:FuncId)(a:List Value)(w:zW)(R:zE)(K:Int->Bool->zT->zO->Nat->Nat->zO->Nat->Nat->zO->Nat->Nat->zO->Nat->Nat->zO->Nat->Nat->Int->zW->Prop):Prop:=aH3 f ⟨a⟩ w λe w=>(∃(x0:Int)(x1:Bool)(x2:zT)(x3:zO)(x4:Nat)(x5:Nat)(x6:zO)(x7:Nat)(x8:Nat)(x9:zO)(iF:Nat)(iG:Nat)(iH:zO)(iW:Nat)(jr:Nat)(js:zO)(jd:Nat)(aIE:Nat)(x18:Int),e=.returned (.tuple #[.agg #[zI x0,zB x1,zS x2,zL x3 x4 x5,zL x6 x7 x8,zL x9 iF iG,zL iH iW jr,zL js jd aIE],zI x18])/\K x0 x1 x2 x3 x4 x5 x6 x7 x8 x9 iF iG iH iW jr js jd aIE x18 w)\/(∃c,e=.panicked c/\R (.panicked c) w)
abbrev iJ(w:zW)(a:Nat)(K:Int->Bool->zT->zO->Nat->Nat->zO->Nat->Nat->zO->Nat->Nat->zO->Nat->Nat->zO->Nat->Nat->Prop):Prop:=∃(x0:Int)(x1:Bool)(x2:zT)(x3:zO)(x4:Nat)(x5:Nat)(x6:zO)(x7:Nat)(x8:Nat)(x9:zO)(iF:Nat)(iG:Nat)(iH:zO)(iW:Nat)(jr:Nat)(js:zO)(jd:Nat)(aIE:Nat),w.cell? (Addr.mk a 0 none)=some (zI x0)/\w.cell? (Addr.mk a 1 none)=some (zB x1)/\w.cell? (Addr.mk a 2 none)=some (zS x2)/\w.cell? (Addr.mk a 3 none)=some (zL x3 x4 x5)/\w.cell? (Addr.mk a 4 none)=some (zL x6 x7 x8)/\w.cell? (Addr.mk a 5 none)=some (zL x9 iF iG)/\w.cell? (Addr.mk a 6 none)=some (zL iH iW jr)/\w.cell? (Addr.mk a 7 none)=some (zL js jd aIE)/\K x0 x1 x2 x3 x4 x5 x6 x7 x8 x9 iF iG iH iW jr js jd aIE
abbrev o_(w:zV)(a:Addr)(K:Int->Prop):Prop:=∃(x0:Int),(∀q,w q->q.cell? a=some (zI x0))/\K x0
abbrev gi(w:zV)(a:Addr)(K:zO->Nat->Nat->Prop):Prop:=∃(x0:zO)(x1:Nat)(x2:Nat),(∀q,w q->q.cell? a=some (zL x0 x1 x2))/\K x0 x1 x2
abbrev zs2(w:zW)(a:Nat)(K:Int->zT->zT->zO->Nat->Nat->zT->zO->Nat->Nat->zO->Nat->Nat->Int->Int->Int->Int->Prop):Prop:=∃(x0:Int)(x1:zT)(x2:zT)(x3:zO)(x4:Nat)(x5:Nat)(x6:zT)(x7:zO)(x8:Nat)(x9:Nat)(iF:zO)(iG:Nat)(iH:Nat)(iW:Int)(jr:Int)(js:Int)(jd:Int),w.cell? (Addr.mk a 0 none)=some (zI x0)/\w.cell? (Addr.mk a 1 none)=some (zS x1)/\w.cell? (Addr.mk a 2 none)=some (zS x2)/\w.cell? (Addr.mk a 3 none)=some (zL x3 x4 x5)/\w.cell? (Addr.mk a 4 none)=some (zS x6)/\w.cell? (Addr.mk a 5 none)=some (zL x7 x8 x9)/\w.cell? (Addr.mk a 6 none)=some (zL iF iG iH)/\w.cell? (Addr.mk a 7 none)=some (zI iW)/\w.cell? (Addr.mk a 8 none)=some (zI jr)/\w.cell? (Addr.mk a 9 none)=some (zI js)/\w.cell? (Addr.mk a 10 none)=some (zI jd)/\K x0 x1 x2 x3 x4 x5 x6 x7 x8 x9 iF iG iH iW jr js jd
abbrev aIv(i0:Int)(w:zW)(K:(Int->zW->Prop)->(Int->zW->Nat)->Int->zW->Prop):Prop:=∃(I:Int->zW->Prop)(m:Int->zW->Nat),I i0 w/\∀x0(_:zU)w1,I x0 w1->K I m x0 w1
abbrev Np(w:zW)(a:Addr)(K:Int->Bool->zT->zT->zT->zO->Nat->Nat->Prop):Prop:=∃(x0:Int)(x1:Bool)(x2:zT)(x3:zT)(x4:zT)(x5:zO)(x6:Nat)(x7:Nat),w.cell? a=some (zI x0)/\w.cell? (a.add 1)=some (zB x1)/\w.cell? (a.add 2)=some (zS x2)/\w.cell? (a.add 3)=some (zS x3)/\w.cell? (a.add 4)=some (zS x4)/\w.cell? (a.add 5)=some (zL x5 x6 x7)/\K x0 x1 x2 x3 x4 x5 x6 x7
abbrev ig(w:zW)(a:Addr)(K:Bool->Prop):Prop:=∃(x0:Bool),w.cell? a=some (zB x0)/\K x0
abbrev Cq(w:zW)(a:Nat)(K:Int->Bool->zT->zT->zT->zO->Nat->Nat->Prop):Prop:=∃(x0:Int)(x1:Bool)(x2:zT)(x3:zT)(x4:zT)(x5:zO)(x6:Nat)(x7:Nat),w.cell? (Addr.mk a 0 none)=some (zI x0)/\w.cell? (Addr.mk a 1 none)=some (zB x1)/\w.cell? (Addr.mk a 2 none)=some (zS x2)/\w.cell? (Addr.mk a 3 none)=some (zS x3)/\w.cell? (Addr.mk a 4 none)=some (zS x4)/\w.cell? (Addr.mk a 5 none)=some (zL x5 x6 x7)/\K x0 x1 x2 x3 x4 x5 x6 x7
abbrev bG(f:FuncId)(a:List Value)(w:zW)(R:zE)(K:zW->Prop):Prop:=aH3 f ⟨a⟩ w λe w=>(e=.returned (.tuple #[])/\K w)\/(∃c,e=.panicked c/\R (.panicked c) w)
abbrev yI(w:zW)(a:Addr)(K:Value->Prop):Prop:=∃(x0:Value),x0.oneCell'=true/\w.cell? a=some (x0)/\K x0
abbrev It(A:(zO->zW->Prop)->Prop)(K:zO->zW->Prop):Prop:=∃J:zO->zW->Prop,A J/\∀x0(_:zU)w1,J x0 w1->K x0 w1
abbrev Iu(w:zV)(a:Addr)(K:Bool->Prop):Prop:=∃(x0:Bool),(∀q,w q->q.cell? a=some (zB x0))/\K x0
abbrev dQ(w:zV)(a:Addr)(K:zT->Prop):Prop:=∃(x0:zT),(∀q,w q->q.cell? a=some (zS x0))/\K x0
abbrev eu(w:zV)(a:Addr)(K:zO->Prop):Prop:=∃(x0:zO),(∀q,w q->q.cell? a=some (zP x0))/\K x0
abbrev ct(w:zW)(a:Addr)(K:zO->Prop):Prop:=∃(x0:zO),w.cell? a=some (zP x0)/\K x0
abbrev Eg(f:FuncId)(a:List Value)(w:zW)(R:zE)(K:zO->Nat->Nat->Int->zW->Prop):Prop:=aH3 f ⟨a⟩ w λe w=>(∃(x0:zO)(x1:Nat)(x2:Nat)(x3:Int),e=.returned (.tuple #[zL x0 x1 x2,zI x3])/\K x0 x1 x2 x3 w)\/(∃c,e=.panicked c/\R (.panicked c) w)
abbrev wU(w:zV)(a:Addr)(K:Value->Prop):Prop:=∃(x0:Value),x0.oneCell'=true/\(∀q,w q->q.cell? a=some (x0))/\K x0
abbrev zs5(w:zV)(a:Nat)(K:Int->Bool->zT->zO->Nat->Nat->zO->Nat->Nat->zO->Nat->Nat->zO->Nat->Nat->zO->Nat->Nat->Prop):Prop:=∃(x0:Int)(x1:Bool)(x2:zT)(x3:zO)(x4:Nat)(x5:Nat)(x6:zO)(x7:Nat)(x8:Nat)(x9:zO)(iF:Nat)(iG:Nat)(iH:zO)(iW:Nat)(jr:Nat)(js:zO)(jd:Nat)(aIE:Nat),(∀q,w q->q.cell? (Addr.mk a 0 none)=some (zI x0))/\(∀q,w q->q.cell? (Addr.mk a 1 none)=some (zB x1))/\(∀q,w q->q.cell? (Addr.mk a 2 none)=some (zS x2))/\(∀q,w q->q.cell? (Addr.mk a 3 none)=some (zL x3 x4 x5))/\(∀q,w q->q.cell? (Addr.mk a 4 none)=some (zL x6 x7 x8))/\(∀q,w q->q.cell? (Addr.mk a 5 none)=some (zL x9 iF iG))/\(∀q,w q->q.cell? (Addr.mk a 6 none)=some (zL iH iW jr))/\(∀q,w q->q.cell? (Addr.mk a 7 none)=some (zL js jd aIE))/\K x0 x1 x2 x3 x4 x5 x6 x7 x8 x9 iF iG iH iW jr js jd aIE
abbrev af9(f:FuncId)(a:List Value)(w:zW)(R:zE)(K:zT->zT->Bool->zW->Prop):Prop:=aH3 f ⟨a⟩ w λe w=>(∃(x0:zT)(x1:zT)(x2:Bool),e=.returned (.tuple #[zS x0,zS x1,zB x2])/\K x0 x1 x2 w)\/(∃c,e=.panicked c/\R (.panicked c) w)
abbrev bt(f:FuncId)(a:List Value)(w:zW)(R:zE)(K:Int->zW->Prop):Prop:=aH3 f ⟨a⟩ w λe w=>(∃(x0:Int),e=.returned (zI x0)/\K x0 w)\/(∃c,e=.panicked c/\R (.panicked c) w)
abbrev uY(f:FuncId)(a:List Value)(w:zW)(R:zE)(K:Int->Bool->zW->Prop):Prop:=aH3 f ⟨a⟩ w λe w=>(∃(x0:Int)(x1:Bool),e=.returned (.tuple #[zI x0,zB x1])/\K x0 x1 w)\/(∃c,e=.panicked c/\R (.panicked c) w)
abbrev zj4(A:(zO->Nat->Nat->zW->Prop)->Prop)(K:zO->Nat->Nat->zW->Prop):Prop:=∃J:zO->Nat->Nat->zW->Prop,A J/\∀x0 x1 x2(_:zU)w1,J x0 x1 x2 w1->K x0 x1 x2 w1
abbrev zl2(i0:zO)(i1:Nat)(i2:Nat)(w:zW)(K:(zO->Nat->Nat->zW->Prop)->(zO->Nat->Nat->zW->Nat)->zO->Nat->Nat->zW->Prop):Prop:=∃(I:zO->Nat->Nat->zW->Prop)(m:zO->Nat->Nat->zW->Nat),I i0 i1 i2 w/\∀x0 x1 x2(_:zU)w1,I x0 x1 x2 w1->K I m x0 x1 x2 w1
abbrev vb(i0:zO)(i1:Nat)(i2:Nat)(i3:Int)(w:zW)(K:(zO->Nat->Nat->Int->zW->Prop)->(zO->Nat->Nat->Int->zW->Nat)->zO->Nat->Nat->Int->zW->Prop):Prop:=∃(I:zO->Nat->Nat->Int->zW->Prop)(m:zO->Nat->Nat->Int->zW->Nat),I i0 i1 i2 i3 w/\∀x0 x1 x2 x3(_:zU)w1,I x0 x1 x2 x3 w1->K I m x0 x1 x2 x3 w1
abbrev Vl(w:zV)(a:Nat)(K:zT->Bool->Prop):Prop:=∃(x0:zT)(x1:Bool),(∀q,w q->q.cell? (Addr.mk a 0 none)=some (zS x0))/\(∀q,w q->q.cell? (Addr.mk a 1 none)=some (zB x1))/\K x0 x1
abbrev zs7(w:zV)(a:Addr)(K:Int->Bool->zT->zO->Nat->Nat->zO->Nat->Nat->zO->Nat->Nat->zO->Nat->Nat->zO->Nat->Nat->Prop):Prop:=∃(x0:Int)(x1:Bool)(x2:zT)(x3:zO)(x4:Nat)(x5:Nat)(x6:zO)(x7:Nat)(x8:Nat)(x9:zO)(iF:Nat)(iG:Nat)(iH:zO)(iW:Nat)(jr:Nat)(js:zO)(jd:Nat)(aIE:Nat),(∀q,w q->q.cell? a=some (zI x0))/\(∀q,w q->q.cell? (a.add 1)=some (zB x1))/\(∀q,w q->q.cell? (a.add 2)=some (zS x2))/\(∀q,w q->q.cell? (a.add 3)=some (zL x3 x4 x5))/\(∀q,w q->q.cell? (a.add 4)=some (zL x6 x7 x8))/\(∀q,w q->q.cell? (a.add 5)=some (zL x9 iF iG))/\(∀q,w q->q.cell? (a.add 6)=some (zL iH iW jr))/\(∀q,w q->q.cell? (a.add 7)=some (zL js jd aIE))/\K x0 x1 x2 x3 x4 x5 x6 x7 x8 x9 iF iG iH iW jr js jd aIE
abbrev sQ(w:zW)(K:(zW->Prop)->(zW->Nat)->zW->Prop):Prop:=∃(I:zW->Prop)(m:zW->Nat),I w/\∀(_:zU)w1,I w1->K I m w1
abbrev Cc(f:FuncId)(a:List Value)(w:zW)(R:zE)(K:Int->Bool->zT->zO->Nat->Nat->zO->Nat->Nat->zO->Nat->Nat->zO->Nat->Nat->zO->Nat->Nat->zW->Prop):Prop:=aH3 f ⟨a⟩ w λe w=>(∃(x0:Int)(x1:Bool)(x2:zT)(x3:zO)(x4:Nat)(x5:Nat)(x6:zO)(x7:Nat)(x8:Nat)(x9:zO)(iF:Nat)(iG:Nat)(iH:zO)(iW:Nat)(jr:Nat)(js:zO)(jd:Nat)(aIE:Nat),e=.returned (.agg #[zI x0,zB x1,zS x2,zL x3 x4 x5,zL x6 x7 x8,zL x9 iF iG,zL iH iW jr,zL js jd aIE])/\K x0 x1 x2 x3 x4 x5 x6 x7 x8 x9 iF iG iH iW jr js jd aIE w)\/(∃c,e=.panicked c/\R (.panicked c) w)
abbrev Cr(w:zW)(a:Addr)(K:Int->Bool->zT->zO->Nat->Nat->zO->Nat->Nat->zO->Nat->Nat->zO->Nat->Nat->zO->Nat->Nat->Prop):Prop:=∃(x0:Int)(x1:Bool)(x2:zT)(x3:zO)(x4:Nat)(x5:Nat)(x6:zO)(x7:Nat)(x8:Nat)(x9:zO)(iF:Nat)(iG:Nat)(iH:zO)(iW:Nat)(jr:Nat)(js:zO)(jd:Nat)(aIE:Nat),w.cell? a=some (zI x0)/\w.cell? (a.add 1)=some (zB x1)/\w.cell? (a.add 2)=some (zS x2)/\w.cell? (a.add 3)=some (zL x3 x4 x5)/\w.cell? (a.add 4)=some (zL x6 x7 x8)/\w.cell? (a.add 5)=some (zL x9 iF iG)/\w.cell? (a.add 6)=some (zL iH iW jr)/\w.cell? (a.add 7)=some (zL js jd aIE)/\K x0 x1 x2 x3 x4 x5 x6 x7 x8 x9 iF iG iH iW jr js jd aIE
abbrev Iv(w:zW)(a:Addr)(K:zT->zO->Nat->Nat->Prop):Prop:=∃(x0:zT)(x1:zO)(x2:Nat)(x3:Nat),w.cell? a=some (zS x0)/\w.cell? (a.add 1)=some (zL x1 x2 x3)/\K x0 x1 x2 x3
abbrev wP(w:zW)(a:Nat)(K:zT->zO->Nat->Nat->Prop):Prop:=∃(x0:zT)(x1:zO)(x2:Nat)(x3:Nat),w.cell? (Addr.mk a 0 none)=some (zS x0)/\w.cell? (Addr.mk a 1 none)=some (zL x1 x2 x3)/\K x0 x1 x2 x3
abbrev af_(f:FuncId)(a:List Value)(w:zW)(R:zE)(K:zT->zT->Bool->Bool->Bool->zW->Prop):Prop:=aH3 f ⟨a⟩ w λe w=>(∃(x0:zT)(x1:zT)(x2:Bool)(x3:Bool)(x4:Bool),e=.returned (.tuple #[.agg #[zS x0,zS x1,zB x2,zB x3],zB x4])/\K x0 x1 x2 x3 x4 w)\/(∃c,e=.panicked c/\R (.panicked c) w)
abbrev AJ(A:(Int->zW->Prop)->Prop)(K:Int->zW->Prop):Prop:=∃J:Int->zW->Prop,A J/\∀x0(_:zU)w1,J x0 w1->K x0 w1
abbrev zl5(i0:zT)(i1:zO)(i2:Nat)(i3:Nat)(w:zW)(K:(zT->zO->Nat->Nat->zW->Prop)->(zT->zO->Nat->Nat->zW->Nat)->zT->zO->Nat->Nat->zW->Prop):Prop:=∃(I:zT->zO->Nat->Nat->zW->Prop)(m:zT->zO->Nat->Nat->zW->Nat),I i0 i1 i2 i3 w/\∀x0 x1 x2 x3(_:zU)w1,I x0 x1 x2 x3 w1->K I m x0 x1 x2 x3 w1
abbrev aLe(i0:Int)(i1:Int)(w:zW)(K:(Int->Int->zW->Prop)->(Int->Int->zW->Nat)->Int->Int->zW->Prop):Prop:=∃(I:Int->Int->zW->Prop)(m:Int->Int->zW->Nat),I i0 i1 w/\∀x0 x1(_:zU)w1,I x0 x1 w1->K I m x0 x1 w1
abbrev uZ(f:FuncId)(a:List Value)(w:zW)(R:zE)(K:Int->Int->zT->zW->Prop):Prop:=aH3 f ⟨a⟩ w λe w=>(∃(x0:Int)(x1:Int)(x2:zT),e=.returned (.agg #[zI x0,zI x1,zS x2])/\K x0 x1 x2 w)\/(∃c,e=.panicked c/\R (.panicked c) w)
abbrev Eh(f:FuncId)(a:List Value)(w:zW)(R:zE)(K:zO->Nat->Nat->Bool->zW->Prop):Prop:=aH3 f ⟨a⟩ w λe w=>(∃(x0:zO)(x1:Nat)(x2:Nat)(x3:Bool),e=.returned (.tuple #[zL x0 x1 x2,zB x3])/\K x0 x1 x2 x3 w)\/(∃c,e=.panicked c/\R (.panicked c) w)
abbrev Cd(f:FuncId)(a:List Value)(w:zW)(R:zE)(K:zT->Bool->zW->Prop):Prop:=aH3 f ⟨a⟩ w λe w=>(∃(x0:zT)(x1:Bool),e=.returned (.tuple #[zS x0,zB x1])/\K x0 x1 w)\/(∃c,e=.panicked c/\R (.panicked c) w)
abbrev qz(f:FuncId)(a:List Value)(w:zW)(R:zE)(K:Int->zT->zW->Prop):Prop:=aH3 f ⟨a⟩ w λe w=>(∃(x0:Int)(x1:zT),e=.returned (.agg #[zI x0,zS x1])/\K x0 x1 w)\/(∃c,e=.panicked c/\R (.panicked c) w)
abbrev MG(w:zW)(a:Addr)(K:zT->zT->Bool->Bool->Prop):Prop:=∃(x0:zT)(x1:zT)(x2:Bool)(x3:Bool),w.cell? a=some (zS x0)/\w.cell? (a.add 1)=some (zS x1)/\w.cell? (a.add 2)=some (zB x2)/\w.cell? (a.add 3)=some (zB x3)/\K x0 x1 x2 x3
abbrev Ce(w:zW)(a:Nat)(K:zT->zT->Bool->Bool->Prop):Prop:=∃(x0:zT)(x1:zT)(x2:Bool)(x3:Bool),w.cell? (Addr.mk a 0 none)=some (zS x0)/\w.cell? (Addr.mk a 1 none)=some (zS x1)/\w.cell? (Addr.mk a 2 none)=some (zB x2)/\w.cell? (Addr.mk a 3 none)=some (zB x3)/\K x0 x1 x2 x3
abbrev H8(w:zW)(a:Nat)(K:Int->Int->zT->Prop):Prop:=∃(x0:Int)(x1:Int)(x2:zT),w.cell? (Addr.mk a 0 none)=some (zI x0)/\w.cell? (Addr.mk a 1 none)=some (zI x1)/\w.cell? (Addr.mk a 2 none)=some (zS x2)/\K x0 x1 x2
abbrev zF0(f:FuncId)(a:List Value)(w:zW)(K:zT->Bool->zW->Prop):Prop:=aH3 f ⟨a⟩ w λe w=>(∃(x0:zT)(x1:Bool),e=.returned (.tuple #[zS x0,zB x1])/\K x0 x1 w)\/(∃c,e=.panicked c/\False)
abbrev zF1(f:FuncId)(a:List Value)(w:zW)(K:Bool->zW->Prop):Prop:=aH3 f ⟨a⟩ w λe w=>(∃(x0:Bool),e=.returned (zB x0)/\K x0 w)\/(∃c,e=.panicked c/\False)
abbrev Vm(A:(zO->Nat->Nat->Int->zW->Prop)->Prop)(K:zO->Nat->Nat->Int->zW->Prop):Prop:=∃J:zO->Nat->Nat->Int->zW->Prop,A J/\∀x0 x1 x2 x3(_:zU)w1,J x0 x1 x2 x3 w1->K x0 x1 x2 x3 w1
abbrev aga(f:FuncId)(a:List Value)(w:zW)(R:zE)(K:zO->Nat->Nat->zO->Nat->Nat->zO->Nat->Nat->Int->Int->zW->Prop):Prop:=aH3 f ⟨a⟩ w λe w=>(∃(x0:zO)(x1:Nat)(x2:Nat)(x3:zO)(x4:Nat)(x5:Nat)(x6:zO)(x7:Nat)(x8:Nat)(x9:Int)(iF:Int),e=.returned (.tuple #[zL x0 x1 x2,.agg #[zL x3 x4 x5,zL x6 x7 x8,zI x9],zI iF])/\K x0 x1 x2 x3 x4 x5 x6 x7 x8 x9 iF w)\/(∃c,e=.panicked c/\R (.panicked c) w)
abbrev zj7(A:(zO->Bool->zW->Prop)->Prop)(K:zO->Bool->zW->Prop):Prop:=∃J:zO->Bool->zW->Prop,A J/\∀x0 x1(_:zU)w1,J x0 x1 w1->K x0 x1 w1
abbrev agb(f:FuncId)(a:List Value)(w:zW)(R:zE)(K:zO->Nat->Nat->zO->Nat->Nat->zW->Prop):Prop:=aH3 f ⟨a⟩ w λe w=>(∃(x0:zO)(x1:Nat)(x2:Nat)(x3:zO)(x4:Nat)(x5:Nat),e=.returned (.tuple #[zL x0 x1 x2,zL x3 x4 x5])/\K x0 x1 x2 x3 x4 x5 w)\/(∃c,e=.panicked c/\R (.panicked c) w)
abbrev Us(w:zV)(a:Nat)(K:Int->Int->zT->Prop):Prop:=∃(x0:Int)(x1:Int)(x2:zT),(∀q,w q->q.cell? (Addr.mk a 0 none)=some (zI x0))/\(∀q,w q->q.cell? (Addr.mk a 1 none)=some (zI x1))/\(∀q,w q->q.cell? (Addr.mk a 2 none)=some (zS x2))/\K x0 x1 x2
abbrev MH(f:FuncId)(a:List Value)(w:zW)(R:zE)(K:zT->Int->zW->Prop):Prop:=aH3 f ⟨a⟩ w λe w=>(∃(x0:zT)(x1:Int),e=.returned (.tuple #[zS x0,zI x1])/\K x0 x1 w)\/(∃c,e=.panicked c/\R (.panicked c) w)
abbrev MI(w:zW)(a:Addr)(K:Int->zT->Prop):Prop:=∃(x0:Int)(x1:zT),w.cell? a=some (zI x0)/\w.cell? (a.add 1)=some (zS x1)/\K x0 x1
abbrev H9(w:zW)(a:Nat)(K:Int->zT->Prop):Prop:=∃(x0:Int)(x1:zT),w.cell? (Addr.mk a 0 none)=some (zI x0)/\w.cell? (Addr.mk a 1 none)=some (zS x1)/\K x0 x1
abbrev Cf(w:zW)(a:Nat)(K:zO->Nat->Nat->zO->Nat->Nat->Int->Prop):Prop:=∃(x0:zO)(x1:Nat)(x2:Nat)(x3:zO)(x4:Nat)(x5:Nat)(x6:Int),w.cell? (Addr.mk a 0 none)=some (zL x0 x1 x2)/\w.cell? (Addr.mk a 1 none)=some (zL x3 x4 x5)/\w.cell? (Addr.mk a 2 none)=some (zI x6)/\K x0 x1 x2 x3 x4 x5 x6
abbrev agc(w:zV)(a:Addr)(K:zO->Nat->Nat->zO->Nat->Nat->Int->Prop):Prop:=∃(x0:zO)(x1:Nat)(x2:Nat)(x3:zO)(x4:Nat)(x5:Nat)(x6:Int),(∀q,w q->q.cell? a=some (zL x0 x1 x2))/\(∀q,w q->q.cell? (a.add 1)=some (zL x3 x4 x5))/\(∀q,w q->q.cell? (a.add 2)=some (zI x6))/\K x0 x1 x2 x3 x4 x5 x6
abbrev agd(w:zW)(a:Addr)(K:Int->zT->zT->Prop):Prop:=∃(x0:Int)(x1:zT)(x2:zT),w.cell? a=some (zI x0)/\w.cell? (a.add 1)=some (zS x1)/\w.cell? (a.add 2)=some (zS x2)/\K x0 x1 x2
abbrev zF2(f:FuncId)(a:List Value)(w:zW)(K:zT->Int->Int->zT->zW->Prop):Prop:=aH3 f ⟨a⟩ w λe w=>(∃(x0:zT)(x1:Int)(x2:Int)(x3:zT),e=.returned (.tuple #[zS x0,.agg #[zI x1,zI x2,zS x3]])/\K x0 x1 x2 x3 w)\/(∃c,e=.panicked c/\False)
abbrev zF3(f:FuncId)(a:List Value)(w:zW)(K:zW->Prop):Prop:=aH3 f ⟨a⟩ w λe w=>(e=.returned (.tuple #[])/\K w)\/(∃c,e=.panicked c/\False)
abbrev age(w:zW)(a:Nat)(K:Int->zT->zT->Prop):Prop:=∃(x0:Int)(x1:zT)(x2:zT),w.cell? (Addr.mk a 3 none)=some (zI x0)/\w.cell? (Addr.mk a 4 none)=some (zS x1)/\w.cell? (Addr.mk a 5 none)=some (zS x2)/\K x0 x1 x2
abbrev agf(f:FuncId)(a:List Value)(w:zW)(R:zE)(K:Int->zT->zW->Prop):Prop:=aH3 f ⟨a⟩ w λe w=>(∃(x0:Int)(x1:zT),e=.returned (.tuple #[.int .u8 x0,zS x1])/\K x0 x1 w)\/(∃c,e=.panicked c/\R (.panicked c) w)
abbrev Vn(i0:zT)(w:zW)(K:(zT->zW->Prop)->(zT->zW->Nat)->zT->zW->Prop):Prop:=∃(I:zT->zW->Prop)(m:zT->zW->Nat),I i0 w/\∀x0(_:zU)w1,I x0 w1->K I m x0 w1
abbrev agh(f:FuncId)(a:List Value)(w:zW)(R:zE)(K:zT->zO->Nat->Nat->zW->Prop):Prop:=aH3 f ⟨a⟩ w λe w=>(∃(x0:zT)(x1:zO)(x2:Nat)(x3:Nat),e=.returned (.agg #[zS x0,zL x1 x2 x3])/\K x0 x1 x2 x3 w)\/(∃c,e=.panicked c/\R (.panicked c) w)
abbrev zj9(A:(zT->Int->zW->Prop)->Prop)(K:zT->Int->zW->Prop):Prop:=∃J:zT->Int->zW->Prop,A J/\∀x0 x1(_:zU)w1,J x0 x1 w1->K x0 x1 w1
abbrev Ei(f:FuncId)(a:List Value)(w:zW)(R:zE)(K:Int->zW->Prop):Prop:=aH3 f ⟨a⟩ w λe w=>(∃(x0:Int),e=.returned (.int .u8 x0)/\K x0 w)\/(∃c,e=.panicked c/\R (.panicked c) w)
abbrev agi(A:(Bool->Int->zW->Prop)->Prop)(K:Bool->Int->zW->Prop):Prop:=∃J:Bool->Int->zW->Prop,A J/\∀x0 x1(_:zU)w1,J x0 x1 w1->K x0 x1 w1
abbrev Ej(w:zV)(a:Addr)(K:zT->Bool->zT->Prop):Prop:=∃(x0:zT)(x1:Bool)(x2:zT),(∀q,w q->q.cell? a=some (zS x0))/\(∀q,w q->q.cell? (a.add 1)=some (zB x1))/\(∀q,w q->q.cell? (a.add 2)=some (zS x2))/\K x0 x1 x2
abbrev Iw(w:zW)(a:Addr)(K:Int->Prop):Prop:=∃(x0:Int),w.cell? a=some (.int .u32 x0)/\K x0
abbrev sR(w:zV)(a:Addr)(K:Int->Prop):Prop:=∃(x0:Int),(∀q,w q->q.cell? a=some (.int .u32 x0))/\K x0
abbrev sJ(f:FuncId)(a:List Value)(w:zW)(R:zE)(K:Int->zW->Prop):Prop:=aH3 f ⟨a⟩ w λe w=>(∃(x0:Int),e=.returned (.int .u32 x0)/\K x0 w)\/(∃c,e=.panicked c/\R (.panicked c) w)
abbrev agj(w:zV)(a:Nat)(K:Int->Bool->zT->zT->zT->zO->Nat->Nat->Prop):Prop:=∃(x0:Int)(x1:Bool)(x2:zT)(x3:zT)(x4:zT)(x5:zO)(x6:Nat)(x7:Nat),(∀q,w q->q.cell? (Addr.mk a 0 none)=some (zI x0))/\(∀q,w q->q.cell? (Addr.mk a 1 none)=some (zB x1))/\(∀q,w q->q.cell? (Addr.mk a 2 none)=some (zS x2))/\(∀q,w q->q.cell? (Addr.mk a 3 none)=some (zS x3))/\(∀q,w q->q.cell? (Addr.mk a 4 none)=some (zS x4))/\(∀q,w q->q.cell? (Addr.mk a 5 none)=some (zL x5 x6 x7))/\K x0 x1 x2 x3 x4 x5 x6 x7
abbrev YN:Nat:=4
abbrev Q0:Nat:=6
abbrev QK:Nat:=9
abbrev KZ:Nat:=10
abbrev Ds:Nat:=11
abbrev KQ:Nat:=12
abbrev tv:Nat:=13
abbrev F0:Nat:=15
abbrev KD:Nat:=16
abbrev QL:Nat:=17
abbrev Kn:Nat:=18
abbrev Di:Nat:=19
abbrev zv:Nat:=21
abbrev De:Nat:=22
abbrev C9:Nat:=23
abbrev aJz:Nat:=24
abbrev pL:Nat:=25
abbrev Y9:Nat:=26
abbrev Zj:Nat:=27
abbrev Dp:Nat:=28
abbrev FQ:Nat:=29
abbrev FR:Nat:=30
abbrev aLk:Nat:=31
abbrev Bo:Nat:=32
abbrev Dq:Nat:=33
abbrev FW:Nat:=34
abbrev aLl:Nat:=35
abbrev FT:Nat:=36
abbrev Ym:Nat:=37
abbrev Yw:Nat:=38
abbrev iA:Nat:=40
abbrev JR:Nat:=41
abbrev KE:Nat:=42
abbrev qj:Nat:=43
abbrev PJ:Nat:=44
abbrev al9:Nat:=45
abbrev vW:Nat:=46
abbrev Ox:Nat:=47
abbrev C_:Nat:=48
abbrev Da:Nat:=49
abbrev QM:Nat:=50
abbrev QN:Nat:=51
abbrev Qk:Nat:=52
abbrev J_:Nat:=53
abbrev Pm:Nat:=54
abbrev Dr:Nat:=55
abbrev FG:Nat:=56
abbrev YO:Nat:=57
abbrev YD:Nat:=58
abbrev Ko:Nat:=59
abbrev YE:Nat:=60
abbrev Y2:Nat:=61
abbrev Yx:Nat:=62
abbrev YP:Nat:=63
abbrev Yn:Nat:=64
abbrev YF:Nat:=65
abbrev YQ:Nat:=66
abbrev Yc:Nat:=67
abbrev Ql:Nat:=68
abbrev JB:Nat:=69
abbrev YG:Nat:=70
abbrev PK:Nat:=71
abbrev PW:Nat:=72
abbrev Db:Nat:=73
abbrev OQ:Nat:=74
abbrev XR:Nat:=75
abbrev JL:Nat:=76
abbrev Yo:Nat:=77
abbrev an2:Nat:=78
abbrev Kp:Nat:=79
abbrev bU:Nat:=80
abbrev Yp:Nat:=81
abbrev aJk:Nat:=82
abbrev zw:Nat:=83
abbrev Ky:Nat:=84
abbrev aou:Nat:=85
abbrev zx:Nat:=86
abbrev zo:Nat:=87
abbrev qY:Nat:=88
abbrev YH:Nat:=89
abbrev Qm:Nat:=90
abbrev Fh:Nat:=91
abbrev Ov:Nat:=92
abbrev Qf:Nat:=93
abbrev OF:Nat:=94
abbrev zf:Nat:=95
abbrev ajK:Nat:=96
abbrev Xn:Nat:=97
abbrev Xo:Nat:=98
abbrev Dk:Nat:=99
abbrev Kk:Nat:=100
abbrev KF:Nat:=101
abbrev Jv:Nat:=102
abbrev Kl:Nat:=103
abbrev J1:Nat:=104
abbrev akF:Nat:=107
abbrev Jx:Nat:=108
abbrev PX:Nat:=109
abbrev PL:Nat:=110
abbrev O0:Nat:=111
abbrev Fw:Nat:=113
abbrev Pn:Nat:=114
abbrev Fx:Nat:=115
abbrev C5:Nat:=116
abbrev JM:Nat:=117
abbrev ali:Nat:=118
abbrev Qn:Nat:=120
abbrev OL:Nat:=121
abbrev an3:Nat:=122
abbrev zn:Nat:=123
abbrev ot:Nat:=124
abbrev OR:Nat:=125
abbrev JS:Nat:=126
abbrev OP:Nat:=127
abbrev Po:Nat:=128
abbrev Bf:Nat:=129
abbrev Pp:Nat:=130
abbrev O_:Nat:=131
abbrev C7:Nat:=132
abbrev vN:Nat:=133
abbrev OM:Nat:=134
abbrev amM:Nat:=135
abbrev XD:Nat:=136
abbrev XE:Nat:=137
abbrev ajE:Nat:=143
abbrev Br:Nat:=144
abbrev aKd:Nat:=145
abbrev Fu:Nat:=147
abbrev Re:Nat:=148
abbrev ZF:Nat:=150
abbrev akX:Nat:=151
abbrev am6:Nat:=155
abbrev Ff:Nat:=156
abbrev YI:Nat:=158
abbrev Qo:Nat:=159
abbrev aLX:Nat:=161
abbrev XF:Nat:=163
abbrev ajD:Nat:=164
abbrev Bn:Nat:=165
abbrev Kz:Nat:=166
abbrev FH:Nat:=167
abbrev JD:Nat:=168
abbrev JV:Nat:=170
abbrev Pb:Nat:=171
abbrev aLw:Nat:=172
abbrev OS:Nat:=173
abbrev aLy:Nat:=174
abbrev PA:Nat:=175
abbrev Dc:Nat:=176
abbrev JE:Nat:=177
abbrev FC:Nat:=178
abbrev PB:Nat:=179
abbrev PC:Nat:=181
abbrev O1:Nat:=186
abbrev alj:Nat:=187
abbrev Xp:Nat:=188
abbrev Qp:Nat:=189
abbrev xE:Nat:=191
abbrev xy:Nat:=192
abbrev zj:Nat:=193
abbrev Ka:Nat:=194
abbrev JT:Nat:=195
abbrev Bj:Nat:=196
abbrev aJP:Nat:=197
abbrev KA:Nat:=200
abbrev KG:Nat:=201
abbrev Kq:Nat:=203
abbrev JN:Nat:=204
abbrev Q1:Nat:=205
abbrev QC:Nat:=206
abbrev OT:Nat:=223
abbrev J7:Nat:=224
abbrev Ow:Nat:=230
abbrev Dg:Nat:=231
abbrev Oy:Nat:=232
abbrev Oz:Nat:=233
abbrev OU:Nat:=234
abbrev JF:Nat:=235
abbrev FI:Nat:=236
abbrev Bk:Nat:=237
abbrev Fl:Nat:=238
abbrev QO:Nat:=239
abbrev O2:Nat:=241
abbrev Fy:Nat:=242
abbrev JO:Nat:=243
abbrev Kb:Nat:=244
abbrev JW:Nat:=245
abbrev FD:Nat:=246
abbrev aJA:Nat:=247
abbrev Kc:Nat:=248
abbrev j6:Nat:=249
abbrev aLY:Nat:=250
abbrev Qa:Nat:=251
abbrev PY:Nat:=252
abbrev Om:Nat:=253
abbrev JU:Nat:=258
abbrev Qq:Nat:=259
abbrev Yq:Nat:=260
abbrev alz:Nat:=261
abbrev anF:Nat:=262
abbrev an4:Nat:=263
abbrev Bg:Nat:=266
abbrev JG:Nat:=267
abbrev FU:Nat:=269
abbrev On:Nat:=270
abbrev Bp:Nat:=271
abbrev amr:Nat:=272
abbrev anG:Nat:=273
abbrev PM:Nat:=274
abbrev J2:Nat:=289
abbrev C2:Nat:=290
abbrev Pd:Nat:=291
abbrev Pq:Nat:=292
abbrev alR:Nat:=293
abbrev akY:Nat:=294
abbrev PZ:Nat:=296
abbrev akZ:Nat:=297
abbrev KH:Nat:=298
abbrev Qg:Nat:=299
abbrev Pe:Nat:=300
abbrev OA:Nat:=301
abbrev Q2:Nat:=302
abbrev JH:Nat:=303
abbrev ak0:Nat:=305
abbrev akg:Nat:=306
abbrev ajS:Nat:=307
abbrev aka:Nat:=308
abbrev alS:Nat:=309
abbrev alk:Nat:=310
abbrev akG:Nat:=311
abbrev alA:Nat:=312
abbrev alB:Nat:=313
abbrev al_:Nat:=314
abbrev ams:Nat:=315
abbrev ama:Nat:=316
abbrev alT:Nat:=317
abbrev alU:Nat:=318
abbrev Rf:Nat:=321
abbrev Qr:Nat:=322
abbrev PN:Nat:=323
abbrev F3:Nat:=324
abbrev C6:Nat:=325
abbrev QD:Nat:=326
abbrev P0:Nat:=327
abbrev Oo:Nat:=328
abbrev Ou:Nat:=329
abbrev aKL:Nat:=330
abbrev Oq:Nat:=331
abbrev QE:Nat:=332
abbrev Qb:Nat:=333
abbrev qm:Nat:=334
abbrev FX:Nat:=335
abbrev QS:Nat:=336
abbrev PO:Nat:=338
abbrev QT:Nat:=339
abbrev alV:Nat:=343
abbrev alm:Nat:=344
abbrev ak1:Nat:=345
abbrev XS:Nat:=346
abbrev alC:Nat:=347
abbrev aln:Nat:=348
abbrev JA:Nat:=349
abbrev Fm:Nat:=350
abbrev akh:Nat:=351
abbrev O3:Nat:=352
abbrev OB:Nat:=362
abbrev Jw:Nat:=363
abbrev Kr:Nat:=367
abbrev Pf:Nat:=368
abbrev O4:Nat:=369
abbrev Bh:Nat:=370
abbrev Xs:Nat:=371
abbrev P3:Nat:=372
abbrev amb:Nat:=373
abbrev an5:Nat:=374
abbrev FJ:Nat:=375
abbrev alW:Nat:=390
abbrev FK:Nat:=391
abbrev YR:Nat:=392
abbrev YS:Nat:=393
abbrev YT:Nat:=394
abbrev YU:Nat:=395
abbrev Yr:Nat:=396
abbrev Ys:Nat:=397
abbrev Yt:Nat:=398
abbrev Yu:Nat:=399
abbrev YV:Nat:=400
abbrev Yv:Nat:=401
abbrev X6:Nat:=402
abbrev YJ:Nat:=403
abbrev FL:Nat:=404
abbrev XT:Nat:=405
abbrev Qh:Nat:=406
abbrev Fe:Nat:=407
abbrev QU:Nat:=408
abbrev aLx:Nat:=409
abbrev P4:Nat:=410
abbrev KB:Nat:=411
abbrev aLh:Nat:=412
abbrev Qi:Nat:=413
abbrev PR:Nat:=414
abbrev Ke:Nat:=418
abbrev Qc:Nat:=419
abbrev aLz:Nat:=420
abbrev Pg:Nat:=421
abbrev aLi:Nat:=425
abbrev OH:Nat:=427
abbrev zi:Nat:=431
abbrev ajG:Nat:=432
abbrev akH:Nat:=433
abbrev alo:Nat:=435
abbrev Ph:Nat:=436
abbrev Fp:Nat:=437
abbrev FM:Nat:=438
abbrev Kf:Nat:=439
abbrev OV:Nat:=440
abbrev OW:Nat:=441
abbrev Fi:Nat:=446
abbrev Kg:Nat:=452
abbrev Ju:Nat:=466
abbrev ajw:Nat:=469
abbrev ajz:Nat:=473
abbrev Km:Nat:=474
abbrev X7:Nat:=475
abbrev Qs:Nat:=476
abbrev Qt:Nat:=477
abbrev aJy:Nat:=478
abbrev KI:Nat:=479
abbrev KC:Nat:=480
abbrev QF:Nat:=501
abbrev Xy:Nat:=502
abbrev QV:Nat:=503
abbrev J8:Nat:=512
abbrev Pu:Nat:=513
abbrev Pj:Nat:=514
abbrev PD:Nat:=515
abbrev aIU:Nat:=516
abbrev PE:Nat:=517
abbrev KJ:Nat:=518
abbrev KR:Nat:=519
abbrev alD:Nat:=520
abbrev Ks:Nat:=521
abbrev Dv:Nat:=25
abbrev Rg:Nat:=66
abbrev aJe:Nat:=95
abbrev QW:Nat:=97
abbrev j5:Nat:=100
abbrev aki:Nat:=175
abbrev P5:Nat:=176
abbrev FV:Nat:=178
abbrev am7:Nat:=191
abbrev qp:Nat:=236
abbrev am8:Nat:=439
def aU{P:Program}{f:FuncId}{fn:Func}{c:Code}{args:List Value}{w:World}{R:Ending->World->Prop}{C:Prop}(l:List (Nat×List (Nat×Ty)))(d:List (Nat×Mh))(hf:P.funcs[f]?=some fn)(hb:fn.body=some c)(h:C)(e:C=vc P ⟨l,d,[]⟩ c 1 (kS P fn.results.toList R) (aIP fn.ntmps args) w:=by kernel_rfl):Calls P f ⟨args⟩ w R:=
 pN ⟨l,d,[]⟩ hf hb (Eq.mp e h)
variable(w:zW)(R:zE)
def amt(s:zT)(a b:Int)(aD:eE Q0 [] w R λr w1=>ak (! r) (zR R (zB false) w1) (zM w1 [zS [115,111,114,116]] 9 λw2=>zM w2 [zS [115,111,114,116],zS [45,114]] 9 λw3=>zM w3 [zS [117,110,105,113]] 9 λw4=>zM w4 [zS [117,110,105,113],zS [45,99]] 9 λw5=>zM w5 [zS [104,101,97,100],zS [45,110],zS [50]] 9 λw6=>zM w6 [zS [116,97,105,108],zS [45,110],zS [49]] 9 λw7=>zM w7 [zS [119,99]] 9 λw8=>zM w8 [zS [116,114],zS [97],zS [98]] 9 λw9=>zM w9 [zS [103,114,101,112],zS [97]] 9 λaO=>zM aO [zS [99,117,116],zS [45,100],zS [97],zS [45,102],zS [49]] 9 λaX=>zM aX [zL (some (zA w1 0)) 1 1,zL (some (zA w2 0)) 2 2,zL (some (zA w3 0)) 1 1,zL (some (zA w4 0)) 2 2,zL (some (zA w5 0)) 3 3,zL (some (zA w6 0)) 3 3,zL (some (zA w7 0)) 1 1,zL (some (zA w8 0)) 3 3,zL (some (zA w9 0)) 2 2,zL (some (zA aO 0)) 5 5] 25 λaH4=>ak (decide (300<(s.length:Int))) (zR R (zB r) aH4) ((10:Int)≠0/\zD (Int.tmod (i64.wrap a) 10) 10 (aH8 aH4 ((zA aX 0).add (Int.toNat (Int.tmod (i64.wrap a) 10)*1)) λv vL vC=>(10:Int)≠0/\zD (Int.tmod (i64.wrap b) 10) 10 (aH8 aH4 ((zA aX 0).add (Int.toNat (Int.tmod (i64.wrap b) 10)*1)) λv1 cM dW=>nZ Ds [zL v vL vC,zS s] aH4.drew R λaIm aIu gu r1 bl=>zX bl [zI 0,zS [],zS []] 35 [zI aIm,zS aIu,zS gu] λbQ=>aH6 bQ (zA bl 1) λv2=>nZ Ds [zL v1 cM dW,zS v2] bQ R λBB Hy Hz r2 bW=>zX bW [zI 0,zS [],zS []] 35 [zI BB,zS Hy,zS Hz] λcB=>b9 KQ [zL v vL vC] cB R λr3 dM=>b9 KQ [zL v1 cM dW] dM R λr4 eF=>r3.length+([32,124,32]:zT).length<=9223372036854775807/\(r3++[32,124,32]).length+r4.length<=9223372036854775807/\zK3 KZ [zS ((r3++[32,124,32])++r4),zS s] eF R λr5 aKM aKO aKP wH wD wE H_ G7 GJ GK G8 GL GM Ia HA HB G9 eL=>zX eL [zI 0,zS [],zS [],zN,zS [],zN,zN,zI 0,zI 0,zI 0,zI 0] 39 [zI aKM,zS aKO,zS aKP,zL wH wD wE,zS H_,zL G7 GJ GK,zL G8 GL GM,zI Ia,zI HA,zI HB,zI G9] λkI=>([116,101,101,32,105,32,62,32,47,111,59,32]:zT).length+r3.length<=9223372036854775807/\(([116,101,101,32,105,32,62,32,47,111,59,32]:zT)++r3).length+([32,60,32,105,32,62,32,111,59,32]:zT).length<=9223372036854775807/\((([116,101,101,32,105,32,62,32,47,111,59,32]:zT)++r3)++[32,60,32,105,32,62,32,111,59,32]).length+r4.length<=9223372036854775807/\(((([116,101,101,32,105,32,62,32,47,111,59,32]:zT)++r3)++[32,60,32,105,32,62,32,111,59,32])++r4).length+([32,60,32,111]:zT).length<=9223372036854775807/\zK3 KZ [zS ((((([116,101,101,32,105,32,62,32,47,111,59,32]:zT)++r3)++[32,60,32,105,32,62,32,111,59,32])++r4)++[32,60,32,111]),zS s] kI R λr6 an6 apF apG Tx SQ SR ax1 avB aub auc avC aud aue ax2 awQ awR avD je=>zX je [zI 0,zS [],zS [],zN,zS [],zN,zN,zI 0,zI 0,zI 0,zI 0] 39 [zI an6,zS apF,zS apG,zL Tx SQ SR,zS ax1,zL avB aub auc,zL avC aud aue,zI ax2,zI awQ,zI awR,zI avD] λoE=>ak r (jD oE eL.heap.size λdK gb gd=>jD oE bW.heap.size λk9 uD uE=>ak ((decide (dK=k9))&&((decide (gb=uD))&&((decide (gd=uE))&&true))) (jD oE je.heap.size λaJm xW xX=>jD oE bW.heap.size λBC HC HD=>zR R (zB ((decide (aJm=BC))&&((decide (xW=HC))&&((decide (xX=HD))&&true)))) oE) (zR R (zB false) oE)) (zR R (zB false) oE)))))):aH3 YN #[zS s,.int .u8 a,.int .u8 b] w R:=
 aU [] [(7,.still)] Tryz.func4 rfl aD
def anH(aD:ie F0 [] w R λr w1=>ak r.isNone (zR R (zB false) w1) (zK7 KD [zP r,zS [101,99,104,111,32,39,97,32,98,39,32,124,32,115,111,114,116,32,62,32,102,59,32,99,97,116,32,102],.agg #[zS [],zI 0,zN,zN,zS [],zI 20,zB false,zN]] w1 R λaKM aKO aKP wH wD wE H_ G7 GJ GK G8 GL GM Ia HA HB G9 w2=>zX w2 [zI 0,zS [],zS [],zN,zS [],zN,zN,zI 0,zI 0,zI 0,zI 0] 39 [zI aKM,zS aKO,zS aKP,zL wH wD wE,zS H_,zL G7 GJ GK,zL G8 GL GM,zI Ia,zI HA,zI HB,zI G9] λw4=>zK2 QK [zS [50,42,51],zN] w4 R λr1 r2 rL rC r3 w5=>No QL [zI 9] w5 R λr4 r5 w6=>zK9 Kn [zS [97]] w6 R λaIb nR rName nG aIO nD ny nu nv nE nA nB nS nK nL nM nH nI r6 w7=>zX w7 [zI 0,zB false,zS [],zN,zN,zN,zN,zN] 66 [zI aIb,zB nR,zS rName,zL nG aIO nD,zL ny nu nv,zL nE nA nB,zL nS nK nL,zL nM nH nI] λw9=>zM w9 [zS [101,99,104,111]] 9 λaO=>nZ Ds [zL (some (zA w9 0)) 1 1,zS []] aO R λaIm aIu gu r7 aX=>zX aX [zI 0,zS [],zS []] 35 [zI aIm,zS aIu,zS gu] λbl=>jD bl w2.heap.size λdK gb gd=>ak ((decide (dK=0))&&((decide (gb=[97,32,98,10]))&&((decide (gd=[]))&&true))) (ak (decide (r1=6)) (ak (decide (r3=0)) (ak (! r4.isNone) (ak (decide (r5=0)) (ak (decide (r6=0)) (iJ bl w7.heap.size λcF fO cI fH fE fF fB fy fA fG aIn aIo fP fK aIp fM fI fJ=>b9 Di [.agg #[zI cF,zB fO,zS cI,zL fH fE fF,zL fB fy fA,zL fG aIn aIo,zL fP fK aIp,zL fM fI fJ]] bl R λr8 bH=>ak (decide (r8=[97])) (aH6 bH (zA aX 1) λv=>ak (decide (v=[10])) (zM bH [zI 0,zB true,zS [97],zS [],zS [],zN] 51 λbQ=>b9 tv [zL (some (zA bH 0)) 1 1] bQ R λr9 bW=>zR R (zB (decide (r9=[39,97,39]))) bW) (zR R (zB false) bH)) (zR R (zB false) bH)) (zR R (zB false) bl)) (zR R (zB false) bl)) (zR R (zB false) bl)) (zR R (zB false) bl)) (zR R (zB false) bl)) (zR R (zB false) bl))):aH3 Q0 #[] w R:=
 aU [] [] Tryz.func6 rfl aD
def am9(s:zT)(l:zO)(lL lC:Nat)(aD:zM w [zI 0] 3 λw1=>zM w1 [zN] 27 λw2=>zM w2 [zI 0] 28 λw3=>zM w3 [zS s] 72 λw4=>aH3 De #[zP (some (Addr.mk w3.heap.size 0 none))] w4 (λed w5=>(∃r:zT,ed=.returned (zS r)/\aH6 w5 (Addr.mk w3.heap.size 0 none) λv=>ak (decide (v=[])) (zC (Addr.mk w.heap.size 0 none) w5 [zI 0] λw6=>zC (Addr.mk w1.heap.size 0 none) w6 [zL l lL lC] λw7=>zC (Addr.mk w2.heap.size 0 none) w7 [zI 0] λw8=>CallsD aM zv #[zP (some (Addr.mk w.heap.size 0 none)),zP (some (Addr.mk w1.heap.size 0 none)),zP (some (Addr.mk w2.heap.size 0 none))] .returning w8 (λcV ux w9=>(∃rv,cV=.returned rv)/\settle ux=.returning/\bZ w9 (Addr.mk w.heap.size 0 none) λv1=>aH8 w9 (Addr.mk w1.heap.size 0 none) λv2 vL vC=>bZ w9 (Addr.mk w2.heap.size 0 none) λv3=>zR R (.tuple #[zI v1,zL v2 vL vC,zI v3]) w9)) (aH3 C9 #[zP (some (Addr.mk w3.heap.size 0 none)),zI 1] w5 (λg_ aO=>(∃r1:zO,g_=.returned (zP r1)/\aH3 De #[zP (some (Addr.mk w3.heap.size 0 none))] aO (λoF aX=>(∃r2:zT,oF=.returned (zS r2)/\aH6 aX (Addr.mk w3.heap.size 0 none) λv4=>aH3 aJz #[zB (decide (v4=[])),zI 130] aX (λjf aH4=>(jf=.returned (.tuple #[])/\zM aH4 [zL l lL lC] 79 λbl=>aH3 pL #[zP (some (Addr.mk aH4.heap.size 0 none)),zP r1] bl (λmh bH=>(∃r3:Int,mh=.returned (zI r3)/\zC (Addr.mk w.heap.size 0 none) bH [zI r3] λbQ=>zH bQ.drew λSw=>o_ Sw (Addr.mk w.heap.size 0 none) λv5=>gi Sw (Addr.mk aH4.heap.size 0 none) λv6 cM dW=>zC (Addr.mk w.heap.size 0 none) bQ.drew [zI v5] λbW=>Sw bW/\zC (Addr.mk w1.heap.size 0 none) bW [zL v6 cM dW] λaH_=>zC (Addr.mk w2.heap.size 0 none) aH_ [zI 0] λcB=>CallsD aM zv #[zP (some (Addr.mk w.heap.size 0 none)),zP (some (Addr.mk w1.heap.size 0 none)),zP (some (Addr.mk w2.heap.size 0 none))] .returning cB (λaJw rM dM=>(∃rN,aJw=.returned rN)/\settle rM=.returning/\bZ dM (Addr.mk w.heap.size 0 none) λv7=>aH8 dM (Addr.mk w1.heap.size 0 none) λv8 gB jS=>bZ dM (Addr.mk w2.heap.size 0 none) λv9=>zR R (.tuple #[zI v7,zL v8 gB jS,zI v9]) dM))\/(∃aJ6,mh=.panicked aJ6/\CallsD aM zv #[zP (some (Addr.mk w.heap.size 0 none)),zP (some (Addr.mk w1.heap.size 0 none)),zP (some (Addr.mk w2.heap.size 0 none))] (.panicking aJ6) bH (λve vf eF=>(∃vg,ve=.returned vg)/\settle vf=.returning/\bZ eF (Addr.mk w.heap.size 0 none) λv10=>aH8 eF (Addr.mk w1.heap.size 0 none) λv11 jt aI7=>bZ eF (Addr.mk w2.heap.size 0 none) λv12=>zR R (.tuple #[zI v10,zL v11 jt aI7,zI v12]) eF))))\/(∃AK,jf=.panicked AK/\CallsD aM zv #[zP (some (Addr.mk w.heap.size 0 none)),zP (some (Addr.mk w1.heap.size 0 none)),zP (some (Addr.mk w2.heap.size 0 none))] (.panicking AK) aH4 (λAL Ix eL=>(∃Iy,AL=.returned Iy)/\settle Ix=.returning/\bZ eL (Addr.mk w.heap.size 0 none) λlp=>aH8 eL (Addr.mk w1.heap.size 0 none) λmX vh yJ=>bZ eL (Addr.mk w2.heap.size 0 none) λoG=>zR R (.tuple #[zI lp,zL mX vh yJ,zI oG]) eL))))\/(∃oH,oF=.panicked oH/\CallsD aM zv #[zP (some (Addr.mk w.heap.size 0 none)),zP (some (Addr.mk w1.heap.size 0 none)),zP (some (Addr.mk w2.heap.size 0 none))] (.panicking oH) aX (λAM Iz aIf=>(∃IA,AM=.returned IA)/\settle Iz=.returning/\bZ aIf (Addr.mk w.heap.size 0 none) λpe=>aH8 aIf (Addr.mk w1.heap.size 0 none) λpg mY wV=>bZ aIf (Addr.mk w2.heap.size 0 none) λrO=>zR R (.tuple #[zI pe,zL pg mY wV,zI rO]) aIf))))\/(∃gR,g_=.panicked gR/\CallsD aM zv #[zP (some (Addr.mk w.heap.size 0 none)),zP (some (Addr.mk w1.heap.size 0 none)),zP (some (Addr.mk w2.heap.size 0 none))] (.panicking gR) aO (λAy IB kI=>(∃IC,Ay=.returned IC)/\settle IB=.returning/\bZ kI (Addr.mk w.heap.size 0 none) λqJ=>aH8 kI (Addr.mk w1.heap.size 0 none) λv20 wW AN=>bZ kI (Addr.mk w2.heap.size 0 none) λv21=>zR R (.tuple #[zI qJ,zL v20 wW AN,zI v21]) kI)))))\/(∃ch,ed=.panicked ch/\CallsD aM zv #[zP (some (Addr.mk w.heap.size 0 none)),zP (some (Addr.mk w1.heap.size 0 none)),zP (some (Addr.mk w2.heap.size 0 none))] (.panicking ch) w5 (λAz ID je=>(∃IE,Az=.returned IE)/\settle ID=.returning/\bZ je (Addr.mk w.heap.size 0 none) λv22=>aH8 je (Addr.mk w1.heap.size 0 none) λCt pn AO=>bZ je (Addr.mk w2.heap.size 0 none) λv24=>zR R (.tuple #[zI v22,zL Ct pn AO,zI v24]) je)))):aH3 QK #[zS s,zL l lL lC] w R:=
 Bw {live:=[],ja:=[(11,.held)]} Tryz.func9 rfl (Eq.mp (by kernel_rfl) aD)
def aov(script dH:zT)(aD:zM w [zI 0,zS [],zS [],zN,zS [],zN,zN,zI 0,zI 0,zI 0,zI 0] 39 λw1=>ie F0 [] w1 R λr w2=>ak r.isNone (zC (zA w 0) w2 [zI 0,zS [],zS [],zN,zS [],zN,zN,zI 0,zI 0,zI 0,zI 0] λw3=>zs2 w3 w.heap.size λvV aKf v_ jB jy jz MJ LY Lw Lx LZ Lz LA MK Mj Mk L0=>zR R (.tuple #[zP none,.agg #[zI vV,zS aKf,zS v_,zL jB jy jz,zS MJ,zL LY Lw Lx,zL LZ Lz LA,zI MK,zI Mj,zI Mk,zI L0]]) w3) (zK7 KD [zP r,zS script,.agg #[zS [],zI 0,zN,zN,zS dH,zI 120,zB false,zN]] w2 R λaKM aKO aKP wH wD wE H_ G7 GJ GK G8 GL GM Ia HA HB G9 w4=>zC (zA w 0) w4 [zI aKM,zS aKO,zS aKP,zL wH wD wE,zS H_,zL G7 GJ GK,zL G8 GL GM,zI Ia,zI HA,zI HB,zI G9] λw5=>zs2 w5 w.heap.size λQG Rh Ri aJs aJo q5 TZ SS aLE Si SU Sj Sk T0 aLO Tz SV=>zR R (.tuple #[zP r,.agg #[zI QG,zS Rh,zS Ri,zL aJs aJo q5,zS TZ,zL SS aLE Si,zL SU Sj Sk,zI T0,zI aLO,zI Tz,zI SV]]) w5)):aH3 KZ #[zS script,zS dH] w R:=
 aU [] [] Tryz.func10 rfl aD
def am_(argv:zO)(aI1 uF:Nat)(dH:zT)(aD:zM w [zI 0,zS [],zS []] 35 λw1=>cS (w1.alloc (.map #[] 0)) (λw2=>aIc aM 81 (.map (some w1.heap.size)) (zS [116,114,117,101]) (.func (.func Y9) #[] #[]) w2 (λw3=>aIc aM 81 (.map (some w1.heap.size)) (zS [102,97,108,115,101]) (.func (.func Zj) #[] #[]) w3 (λw4=>aIc aM 81 (.map (some w1.heap.size)) (zS [101,99,104,111]) (.func (.func Dp) #[] #[]) w4 (λw5=>aIc aM 81 (.map (some w1.heap.size)) (zS [104,101,97,100]) (.func (.func FQ) #[] #[]) w5 (λw6=>aIc aM 81 (.map (some w1.heap.size)) (zS [116,97,105,108]) (.func (.func FR) #[] #[]) w6 (λw7=>aIc aM 81 (.map (some w1.heap.size)) (zS [119,99]) (.func (.func aLk) #[] #[]) w7 (λw8=>aIc aM 81 (.map (some w1.heap.size)) (zS [115,111,114,116]) (.func (.func Bo) #[] #[]) w8 (λw9=>aIc aM 81 (.map (some w1.heap.size)) (zS [117,110,105,113]) (.func (.func Dq) #[] #[]) w9 (λaO=>aIc aM 81 (.map (some w1.heap.size)) (zS [99,117,116]) (.func (.func FW) #[] #[]) aO (λaX=>aIc aM 81 (.map (some w1.heap.size)) (zS [116,114]) (.func (.func aLl) #[] #[]) aX (λaH4=>aIc aM 81 (.map (some w1.heap.size)) (zS [103,114,101,112]) (.func (.func FT) #[] #[]) aH4 (λbl=>aIc aM 81 (.map (some w1.heap.size)) (zS [98,97,115,101,110,97,109,101]) (.func (.func Ym) #[] #[]) bl (λbH=>aIc aM 81 (.map (some w1.heap.size)) (zS [100,105,114,110,97,109,101]) (.func (.func Yw) #[] #[]) bH (λbQ=>ak (decide ((aI1:Int)=0)) (zC (zA w 0) bQ [zI 0,zS [],zS []] λbW=>jD bW w.heap.size λdK gb gd=>zR R (.tuple #[.agg #[zI dK,zS gb,zS gd],zB false]) bW) (zD 0 aI1 (az argv (λa=>aH6 bQ (a.add (Int.toNat 0*1)) λv=>Ah aM 81 (.map (some w1.heap.size)) (zS v) bQ (λlv ok=>ak (! ok) (zC (zA w 0) bQ [zI 0,zS [],zS []] λaH_=>jD aH_ w.heap.size λk9 uD uE=>zR R (.tuple #[.agg #[zI k9,zS uD,zS uE],zB false]) aH_) (0<=(1:Int)/\(1:Int)<=(aI1:Nat)/\gN lv (λg first cap=>ak (dP aM g) (aH3 g ⟨first++([zL (if uF=Int.toNat 1 then argv else Option.map (·.add (Int.toNat 1*1)) argv) (aI1-Int.toNat 1) (uF-Int.toNat 1),zS dH]++cap)⟩ bQ (λed cB=>(∃(aIm:Int)(aIu:zT)(gu:zT)(r:Bool),ed=.returned (.tuple #[.agg #[zI aIm,zS aIu,zS gu],zB r])/\zX cB [zI 0,zS [],zS []] 35 [zI aIm,zS aIu,zS gu] λeF=>ak (! r) (False) (jD eF cB.heap.size λaJm xW xX=>zC (zA w 0) eF [zI aJm,zS xW,zS xX] λeL=>jD eL w.heap.size λBC HC HD=>zR R (.tuple #[.agg #[zI BC,zS HC,zS HD],zB true]) eL))\/(∃ch,ed=.panicked ch/\R (.panicked ch) cB))) False))))))))))))))))))))):aH3 Ds #[zL argv aI1 uF,zS dH] w R:=
 pN {live:=[],ja:=[],oz:=[1018]} Tryz.func11 rfl (Eq.mp (by kernel_rfl) aD)
def an7(l:zO)(lL lC:Nat)(aD:zD 0 lL (az l (λa=>aH6 w (a.add (Int.toNat 0*1)) λv=>zl0 v 1 w λxI m s i w1=>ak (decide (i<(lL:Int))) (s.length+([32]:zT).length<=9223372036854775807/\zD i lL (az l (λa1=>aH6 w1 (a1.add (Int.toNat i*1)) λv1=>(s++[32]).length+v1.length<=9223372036854775807/\xI ((s++[32])++v1) (i64.wrap (i+1)) w1/\m ((s++[32])++v1) (i64.wrap (i+1)) w1<m s i w1))) (zR R (zS s) w1)))):aH3 KQ #[zL l lL lC] w R:=
 aU [(58,[(3,(.leaf .str)),(4,(.leaf (.int .i64)))])] [] Tryz.func12 rfl aD
def ana(l:zO)(lL lC:Nat)(aD:zM w [zP none,zN] 86 λw1=>aIv 0 w1 λxI m x w2=>ak (decide (x<(lL:Int))) (iI (λxJ=>zD x lL (az l (λa=>Np w2 (a.add (Int.toNat x*6)) λcF oW jN cI kZ kW kT kU=>zX w2 [zI 0,zB false,zS [],zS [],zS [],zN] 51 [zI cF,zB oW,zS jN,zS cI,zS kZ,zL kW kT kU] λw4=>fQ (λaY=>bZ w4 (zA w2 0) λv=>ak (decide (v=0)) (ig w4 (zA w2 1) λv1=>aY v1 w4) (aY false w4)) λx1 w5=>ak x1 (aH6 w5 (zA w2 2) λv2=>b9 JR [zS v2,zS [39],zS [39,92,39,39]] w5 R λr w6=>([39]:zT).length+r.length<=9223372036854775807/\(([39]:zT)++r).length+([39]:zT).length<=9223372036854775807/\zK iA [zP (some (zA w 0)),zS ((([39]:zT)++r)++[39])] w6 R λcV w7=>∃(r1:Int)(r2:Value),r2.oneCell'=true/\cV=.returned (.tuple #[zI r1,r2])/\xJ w7) (bZ w5 (zA w2 0) λv3=>ak (decide (v3=0)) (aH6 w5 (zA w2 2) λv4=>zK iA [zP (some (zA w 0)),zS v4] w5 R λg_ w8=>∃(r3:Int)(r4:Value),r4.oneCell'=true/\g_=.returned (.tuple #[zI r3,r4])/\xJ w8) (ig w5 (zA w2 1) λv5=>ak v5 (Cq w5 w2.heap.size λaIi Gr ug eP Cg BR BE BF=>b9 KE [.agg #[zI aIi,zB Gr,zS ug,zS eP,zS Cg,zL BR BE BF]] w5 R λr5 w9=>([34]:zT).length+r5.length<=9223372036854775807/\(([34]:zT)++r5).length+([34]:zT).length<=9223372036854775807/\zK iA [zP (some (zA w 0)),zS ((([34]:zT)++r5)++[34])] w9 R λjf aO=>∃(r6:Int)(r7:Value),r7.oneCell'=true/\jf=.returned (.tuple #[zI r6,r7])/\xJ aO) (Cq w5 w2.heap.size λmO Sl BS kV Ut TA SW SX=>b9 KE [.agg #[zI mO,zB Sl,zS BS,zS kV,zS Ut,zL TA SW SX]] w5 R λr8 aX=>zK iA [zP (some (zA w 0)),zS r8] aX R λaJw aH4=>∃(r9:Int)(aIe:Value),aIe.oneCell'=true/\aJw=.returned (.tuple #[zI r9,aIe])/\xJ aH4)))))) λbl=>xI (i64.wrap (x+1)) bl/\m (i64.wrap (x+1)) bl<m x w2) (b9 qj [zP (some (zA w 0))] w2 R λaIk bH=>zR R (zS aIk) bH)):aH3 tv #[zL l lL lC] w R:=
 aU [(58,[(8,(.leaf (.int .i64)))]),(467,[]),(7474,[(15,(.leaf .bool))])] [] Tryz.func13 rfl aD
def anI(aD:cS (w.alloc (.map #[] 0)) (λw1=>zM w1 [.map (some w.heap.size),zP none] 100 λw2=>zR R (zP (some (zA w1 0))) w2)):aH3 F0 #[] w R:=
 aU [] [] Tryz.func15 rfl aD
def anb(x:zO)(script agk:zT)(aeh:Int)(uG:zO)(uh uj:Nat)(uH:zO)(aJV aJW:Nat)(sIn:zT)(ae9:Int)(adm:Bool)(aei:zO)(adn ado:Nat)(aD:zM w [zS agk,zI aeh,zL uG uh uj,zL uH aJV aJW,zS sIn,zI ae9,zB adm,zL aei adn ado] 57 λw1=>zM w1 [zI 0,zS [],zS [],zN,zS [],zN,zN,zI 0,zI 0,zI 0,zI 0] 39 λw2=>It (λxJ=>zH w2.drew λSw=>o_ Sw (zA w 1) λv=>Iu Sw (zA w 6) λv1=>o_ Sw (zA w 5) λv2=>dQ Sw (zA w 0) λv3=>o_ Sw (zA w 1) λv4=>dQ Sw (zA w 0) λv5=>dQ Sw (zA w 4) λv6=>(zM w2.drew [zP x,zI (bits .and .i64 v 7),zB v1,zI 0,zS [],zS [],zN,zS [],zN,zN,zI 0,zI 0,zI 0,zI 0,zI (if 0>v2 then 0 else v2),zP none,zN] 104 λw3=>Sw w3/\(ie vW [zP x,zS v3,zI v4] w3 R λr w4=>Sw w4/\cS (w4.alloc (.map #[] 0)) (λw5=>Sw w5/\zM w5 [zP (some (zA w2.drew 0)),zP r,zS v5,zN,zN,zI 0,.map (some w4.heap.size),zS v6,zS [],zI 0,zI 0,zI 0,zI 0,zI 0] 112 λw6=>xJ (some (zA w5 0)) w6))/\(cS (w3.alloc (.map #[] 0)) (λw7=>Sw w7/\ie vW [zP x,zS v3,zI v4] w7 R λr1 w8=>Sw w8/\zM w8 [zP (some (zA w2.drew 0)),zP r1,zS v5,zN,zN,zI 0,.map (some w3.heap.size),zS v6,zS [],zI 0,zI 0,zI 0,zI 0,zI 0] 112 λw9=>xJ (some (zA w8 0)) w9)))/\(ie vW [zP x,zS v3,zI v4] w2.drew R λr2 aO=>Sw aO/\(zM aO [zP x,zI (bits .and .i64 v 7),zB v1,zI 0,zS [],zS [],zN,zS [],zN,zN,zI 0,zI 0,zI 0,zI 0,zI (if 0>v2 then 0 else v2),zP none,zN] 104 λaX=>Sw aX/\cS (aX.alloc (.map #[] 0)) (λaH4=>Sw aH4/\zM aH4 [zP (some (zA aO 0)),zP r2,zS v5,zN,zN,zI 0,.map (some aX.heap.size),zS v6,zS [],zI 0,zI 0,zI 0,zI 0,zI 0] 112 λbl=>xJ (some (zA aH4 0)) bl))/\(cS (aO.alloc (.map #[] 0)) (λbH=>Sw bH/\zM bH [zP x,zI (bits .and .i64 v 7),zB v1,zI 0,zS [],zS [],zN,zS [],zN,zN,zI 0,zI 0,zI 0,zI 0,zI (if 0>v2 then 0 else v2),zP none,zN] 104 λbQ=>Sw bQ/\zM bQ [zP (some (zA bH 0)),zP r2,zS v5,zN,zN,zI 0,.map (some aO.heap.size),zS v6,zS [],zI 0,zI 0,zI 0,zI 0,zI 0] 112 λbW=>xJ (some (zA bQ 0)) bW)))/\(cS (w2.drew.alloc (.map #[] 0)) (λaH_=>Sw aH_/\(zM aH_ [zP x,zI (bits .and .i64 v 7),zB v1,zI 0,zS [],zS [],zN,zS [],zN,zN,zI 0,zI 0,zI 0,zI 0,zI (if 0>v2 then 0 else v2),zP none,zN] 104 λcB=>Sw cB/\ie vW [zP x,zS v3,zI v4] cB R λr3 dM=>Sw dM/\zM dM [zP (some (zA aH_ 0)),zP r3,zS v5,zN,zN,zI 0,.map (some w2.drew.heap.size),zS v6,zS [],zI 0,zI 0,zI 0,zI 0,zI 0] 112 λeF=>xJ (some (zA dM 0)) eF)/\(ie vW [zP x,zS v3,zI v4] aH_ R λr4 eL=>Sw eL/\zM eL [zP x,zI (bits .and .i64 v 7),zB v1,zI 0,zS [],zS [],zN,zS [],zN,zN,zI 0,zI 0,zI 0,zI 0,zI (if 0>v2 then 0 else v2),zP none,zN] 104 λaIf=>Sw aIf/\zM aIf [zP (some (zA eL 0)),zP r4,zS v5,zN,zN,zI 0,.map (some w2.drew.heap.size),zS v6,zS [],zI 0,zI 0,zI 0,zI 0,zI 0] 112 λkI=>xJ (some (zA aIf 0)) kI)))) λh je=>aH8 je (zA w 2) λv7 vL vC=>aH8 je (zA w 3) λv8 cM dW=>az h (λa=>zC (a.add 3) je [zL v7 vL vC,zL v8 cM dW,zI 0] λmZ=>zH mZ.drew λaH7=>az h (λa1=>eu aH7 a1 λv9=>gi aH7 (zA w 7) λv10 gB jS=>eW Ox [zL v10 gB jS] mZ.drew R λr5 rL rC oE=>aH7 oE/\az v9 (λa2=>zC ((a2.add 3).add 6) oE [zL r5 rL rC] λpq=>zK9 Kn [zS script] pq R λaIb nR rName nG aIO nD ny nu nv nE nA nB nS nK nL nM nH nI r6 vi=>zX vi [zI 0,zB false,zS [],zN,zN,zN,zN,zN] 66 [zI aIb,zB nR,zS rName,zL nG aIO nD,zL ny nu nv,zL nE nA nB,zL nS nK nL,zL nM nH nI] λn_=>iI (λaY=>ak (decide (r6=0)) (iJ n_ vi.heap.size λcF fO cI fH fE fF fB fy fA fG aIn aIo fP fK aIp fM fI fJ=>bG C_ [zP h,.agg #[zI cF,zB fO,zS cI,zL fH fE fF,zL fB fy fA,zL fG aIn aIo,zL fP fK aIp,zL fM fI fJ]] n_ R λAP=>aY AP) (bG Da [zP h,zS [115,104],zI r6] n_ R λNq=>az h (λa3=>ct Nq a3 λv11=>az h (λa4=>zC ((a4.add 3).add 2) Nq [zI 2] λVo=>az v11 (λa5=>zC ((a5.add 3).add 10) Vo [zI r6] λVp=>aY Vp))))) λgC=>az h (λa6=>ct gC a6 λv12=>az v12 (λa7=>∃(vV:Int)(aKf:zT)(v_:zT)(jB:zO)(jy jz:Nat)(MJ:zT)(LY:zO)(Lw Lx:Nat)(LZ:zO)(Lz LA:Nat)(MK:Int)(Mj:Int)(Mk:Int)(L0:Int),gC.cell? (a7.add 3)=some (zI vV)/\gC.cell? ((a7.add 3).add 1)=some (zS aKf)/\gC.cell? ((a7.add 3).add 2)=some (zS v_)/\gC.cell? ((a7.add 3).add 3)=some (zL jB jy jz)/\gC.cell? ((a7.add 3).add 4)=some (zS MJ)/\gC.cell? ((a7.add 3).add 5)=some (zL LY Lw Lx)/\gC.cell? ((a7.add 3).add 6)=some (zL LZ Lz LA)/\gC.cell? ((a7.add 3).add 7)=some (zI MK)/\gC.cell? ((a7.add 3).add 8)=some (zI Mj)/\gC.cell? ((a7.add 3).add 9)=some (zI Mk)/\gC.cell? ((a7.add 3).add 10)=some (zI L0)/\zX gC [zI 0,zS [],zS [],zN,zS [],zN,zN,zI 0,zI 0,zI 0,zI 0] 39 [zI vV,zS aKf,zS v_,zL jB jy jz,zS MJ,zL LY Lw Lx,zL LZ Lz LA,zI MK,zI Mj,zI Mk,zI L0] λAQ=>zH AQ.drew λgD=>az h (λa8=>o_ gD ((a8.add 3).add 2) λlp=>az h (λa9=>dQ gD (a9.add 8) λmX=>az h (λm_=>eu gD m_ λoG=>az oG (λrP=>b9 qj [zP (some (rP.add 15))] AQ.drew R λr7 EG=>gD EG/\zC (zA gC 0) EG [zI lp,zS mX,zS r7] λCu=>zH Cu.drew λaIQ=>az h (λa12=>gi aIQ (a12.add 3) λpe jt aI7=>az h (λyK=>dQ aIQ (yK.add 2) λpg=>az h (λCv=>eu aIQ Cv λrO=>az rO (λIF=>o_ aIQ (IF.add 14) λqJ=>zC (zA gC 3) Cu.drew [zL pe jt aI7] λIG=>aIQ IG/\zC (zA gC 4) IG [zS pg] λII=>aIQ II/\zC (zA gC 9) II [zI qJ] λCw=>zs2 Cw gC.heap.size λQG Rh Ri aJs aJo q5 TZ SS aLE Si SU Sj Sk T0 aLO Tz SV=>zC (zA w1 0) Cw [zI QG,zS Rh,zS Ri,zL aJs aJo q5,zS TZ,zL SS aLE Si,zL SU Sj Sk,zI T0,zI aLO,zI Tz,zI SV] λEH=>zs2 EH w1.heap.size λan8 apH apI G_ GN GO ax3 avE auf aug avF auh aui ax4 awS awT avG=>zR R (.agg #[zI an8,zS apH,zS apI,zL G_ GN GO,zS ax3,zL avE auf aug,zL avF auh aui,zI ax4,zI awS,zI awT,zI avG]) EH)))))))))))))):aH3 KD #[zP x,zS script,.agg #[zS agk,zI aeh,zL uG uh uj,zL uH aJV aJW,zS sIn,zI ae9,zB adm,zL aei adn ado]] w R:=
 aU [(3,[(7,(.leaf .ptr))]),(63,[])] [(1,.held),(3,.held),(10,.held),(11,.held)] Tryz.func16 rfl aD
def anc(adp:Int)(aD:No QM [zI adp] w R λr r1 w1=>ak (! decide (r1=0)) (zR R (.tuple #[zP none,zI r1]) w1) (ie F0 [] w1 R λr2 w2=>ie QN [zP r] w2 R λr3 w3=>zM w3 [zP r2,zP r,zP r3] 125 λw4=>zR R (.tuple #[zP (some (zA w3 0)),zI 0]) w4)):aH3 QL #[zI adp] w R:=
 aU [] [] Tryz.func17 rfl aD
def amu(s:zT)(aD:zM w [zI 0,zB false,zS [],zN,zN,zN,zN,zN] 66 λw1=>zM w1 [zI 0] 28 λw2=>Eg Qk [zS s] w2 R λr rL rC r1 w3=>zC (zA w1 0) w3 [zI r1] λw4=>bZ w4 (zA w1 0) λv=>ak (! decide (v=0)) (zH w4.drew λSw=>o_ Sw (zA w1 0) λv1=>zC (zA w 0) w4.drew [zI 0,zB false,zS [],zN,zN,zN,zN,zN] λw5=>Sw w5/\zC (zA w1 0) w5 [zI v1] λw6=>iJ w6 w.heap.size λcF fO cI fH fE fF fB fy fA fG aIn aIo fP fK aIp fM fI fJ=>bZ w6 (zA w1 0) λv2=>zR R (.tuple #[.agg #[zI cF,zB fO,zS cI,zL fH fE fF,zL fB fy fA,zL fG aIn aIo,zL fP fK aIp,zL fM fI fJ],zI v2]) w6) (zM w4 [zL r rL rC] 131 λw7=>aH3 Pm #[zP (some (zA w4 0)),zI 1] w7 (λcV w8=>(∃(aIb:Int)(nR:Bool)(rName:zT)(nG:zO)(aIO nD:Nat)(ny:zO)(nu nv:Nat)(nE:zO)(nA nB:Nat)(nS:zO)(nK nL:Nat)(nM:zO)(nH nI:Nat),cV=.returned (.agg #[zI aIb,zB nR,zS rName,zL nG aIO nD,zL ny nu nv,zL nE nA nB,zL nS nK nL,zL nM nH nI])/\zC (zA w 0) w8 [zI aIb,zB nR,zS rName,zL nG aIO nD,zL ny nu nv,zL nE nA nB,zL nS nK nL,zL nM nH nI] λw9=>aH8 w9 (zA w4 0) λv3 vL vC=>aH3 Dr #[zB (decide ((vL:Int)=0))] w9 (λg_ aO=>(g_=.returned (.tuple #[])/\iJ aO w.heap.size λaIi kE eP kj kf kg j9 j7 j8 ki j_ ke kF kz kA kB ko kr=>zC (zA w 0) aO [zI aIi,zB kE,zS eP,zL kj kf kg,zL j9 j7 j8,zL ki j_ ke,zL kF kz kA,zL kB ko kr] λaX=>zC (zA w1 0) aX [zI 0] λaH4=>CallsD aM J_ #[zP (some (zA w 0)),zP (some (zA w1 0))] .returning aH4 (λoF ux bl=>(∃rv,oF=.returned rv)/\settle ux=.returning/\iJ bl w.heap.size λmO uI kV tV tN tO tH tB aJQ tP tI tJ uJ aJX uq aJY tW tX=>bZ bl (zA w1 0) λv4=>zR R (.tuple #[.agg #[zI mO,zB uI,zS kV,zL tV tN tO,zL tH tB aJQ,zL tP tI tJ,zL uJ aJX uq,zL aJY tW tX],zI v4]) bl))\/(∃oH,g_=.panicked oH/\CallsD aM J_ #[zP (some (zA w 0)),zP (some (zA w1 0))] (.panicking oH) aO (λjf rM bH=>(∃rN,jf=.returned rN)/\settle rM=.returning/\iJ bH w.heap.size λq_ uK pS tY tQ tR tK tD aJR aJS tL tM uL uu aJZ aJ0 tZ t_=>bZ bH (zA w1 0) λv5=>zR R (.tuple #[.agg #[zI q_,zB uK,zS pS,zL tY tQ tR,zL tK tD aJR,zL aJS tL tM,zL uL uu aJZ,zL aJ0 tZ t_],zI v5]) bH))))\/(∃gR,cV=.panicked gR/\CallsD aM J_ #[zP (some (zA w 0)),zP (some (zA w1 0))] (.panicking gR) w8 (λmh vf bQ=>(∃vg,mh=.returned vg)/\settle vf=.returning/\iJ bQ w.heap.size λaLP T3 He SY Sm Sn RT Ry Rz Sp RU RV T4 TC TD TE SZ S0=>bZ bQ (zA w1 0) λv6=>zR R (.tuple #[.agg #[zI aLP,zB T3,zS He,zL SY Sm Sn,zL RT Ry Rz,zL Sp RU RV,zL T4 TC TD,zL TE SZ S0],zI v6]) bQ))))):aH3 Kn #[zS s] w R:=
 Bw {live:=[],ja:=[(3,.held)]} Tryz.func18 rfl (Eq.mp (by kernel_rfl) aD)
def amc(lY:Int)(aIF:Bool)(lZ:zT)(lS:zO)(lP lQ:Nat)(lK:zO)(lI lJ:Nat)(lR:zO)(lM lN:Nat)(aIG:zO)(l5 l6:Nat)(l7:zO)(lT lU:Nat)(aD:zM w [zI lY,zB aIF,zS lZ,zL lS lP lQ,zL lK lI lJ,zL lR lM lN,zL aIG l5 l6,zL l7 lT lU] 66 λw1=>zX w1 [.nilFunc,.nilFunc,.nilFunc,.nilFunc,.nilFunc,.nilFunc,.nilFunc,.nilFunc,.nilFunc,.nilFunc,.nilFunc,.nilFunc] 134 [.func (.func FG) #[] #[],.func (.func YO) #[] #[],.func (.func YD) #[] #[],.func (.func Ko) #[] #[],.func (.func YE) #[] #[],.func (.func Y2) #[] #[],.func (.func Yx) #[] #[],.func (.func YP) #[] #[],.func (.func Yn) #[] #[],.func (.func YF) #[] #[],.func (.func YQ) #[] #[],.func (.func Yc) #[] #[]] λw3=>bZ w3 (zA w 0) λv=>ak (decide (v<0)) (zR R (zS []) w3) (bZ w3 (zA w 0) λv1=>ak (decide (12<=v1)) (zR R (zS []) w3) (zH w3.drew λSw=>o_ Sw (zA w 0) λv2=>zD v2 12 (wU Sw ((zA w1 0).add (Int.toNat v2*1)) λv3=>zs5 Sw w.heap.size λcF fO cI fH fE fF fB fy fA fG aIn aIo fP fK aIp fM fI fJ=>gN v3 (λg first cap=>ak (dP aM g) (aH3 g ⟨first++([.agg #[zI cF,zB fO,zS cI,zL fH fE fF,zL fB fy fA,zL fG aIn aIo,zL fP fK aIp,zL fM fI fJ]]++cap)⟩ w3.drew (λed w4=>(∃r:zT,ed=.returned (zS r)/\bZ w4 (zA w 0) λv4=>ak (decide (4<=v4)) (bZ w4 (zA w 0) λv5=>ak (decide (v5<=9)) (zM w4 [zS r] 9 λw5=>aH8 w5 (zA w 5) λv6 vL vC=>eW JB [zL v6 vL vC,.func (.func YG) #[] #[]] w5 R λr1 rL rC w6=>dA w6 9 1 16 (some (zA w4 0)) 1 1 r1 rL (λp cp w7=>b9 Ql [zL p (1+rL) cp] w7 R λr2 w8=>zR R (zS r2) w8)) (zR R (zS r) w4)) (zR R (zS r) w4))\/(∃ch,ed=.panicked ch/\R (.panicked ch) w4))) False))))):aH3 Di #[.agg #[zI lY,zB aIF,zS lZ,zL lS lP lQ,zL lK lI lJ,zL lR lM lN,zL aIG l5 l6,zL l7 lT lU]] w R:=
 aU [] [(4,.held)] Tryz.func19 rfl aD
def alE(p:zO)(aD:az p (λa=>aH6 w a λv=>b9 PK [zS v,zS [32,9,10]] w R λr w1=>az p (λa1=>zC a1 w1 [zS r] λw2=>eW PW [] w2 R λr1 rL rC w3=>aIv 0 w3 λxI m x w4=>ak (decide (x<(rL:Int))) (zD x rL (az r1 (λa2=>aH6 w4 (a2.add (Int.toNat x*1)) λv1=>az p (λa3=>aH6 w4 a3 λv2=>eE Db [zS v2,zS v1] w4 R λr2 w5=>ak r2 (zR R (zS v1) w5) (xI (i64.wrap (x+1)) w5/\m (i64.wrap (x+1)) w5<m x w4))))) (zR R (zS []) w4)))):aH3 De #[zP p] w R:=
 aU [(58,[(15,(.leaf (.int .i64)))])] [] Tryz.func22 rfl aD
def ak2(p:zO)(depth:Int)(aD:bG aJz [zB (decide (depth<=30)),zI 2] w R λw1=>af9 OQ [zP p] w1 R λr r1 r2 w2=>ak r2 (b9 XR [zS r1,zS [61]] w2 R λr3 w3=>ie C9 [zP p,zI (i64.wrap (depth+1))] w3 R λr4 w4=>zM w4 [zP r4] 74 λw5=>zM w5 [zI 7,zI 0,zS r3,zS r,zL (some (zA w4 0)) 1 1] 147 λw6=>zR R (zP (some (zA w5 0))) w6) (ie JL [zP p,zI depth] w2 R λr5 w7=>zR R (zP r5) w7)):aH3 C9 #[zP p,zI depth] w R:=
 aU [] [] Tryz.func23 rfl aD
def ane(ok:Bool)(ex:Int)(aD:ak (! ok) (R (.panicked [{v:=(.iface 28 (zI ex)),recovered:=false}]) w) (zR R (.tuple #[]) w)):aH3 aJz #[zB ok,zI ex] w R:=
 aU [] [] Tryz.func24 rfl aD
def XK(wo t:zO)(aD:az t (λa=>bZ w a λv=>ak (decide (v=1)) (az t (λa1=>aH6 w (a1.add 3) λv1=>bt Yo [zP wo,zS v1] w R λr w1=>zR R (zI r) w1)) (ak (decide (v=2)) (zH w.drew λSw=>az t (λa2=>dQ Sw (a2.add 2) λv2=>az t (λa3=>gi Sw (a3.add 4) λv3 vL vC=>zD 0 vL (az v3 (λa4=>eu Sw (a4.add (Int.toNat 0*1)) λv4=>bt pL [zP wo,zP v4] w.drew R λr1 w2=>Sw w2/\bt an2 [zS v2,zI r1] w2 R λr2 w3=>zR R (zI r2) w3))))) (ak (decide (v=3)) (az t (λa5=>aH8 w (a5.add 4) λv5 cM dW=>zD 0 cM (az v5 (λa6=>ct w (a6.add (Int.toNat 0*1)) λv6=>bt pL [zP wo,zP v6] w R λr3 w4=>zH w4.drew λaH7=>az t (λa7=>dQ aH7 (a7.add 2) λv7=>az t (λa8=>gi aH7 (a8.add 4) λv8 gB jS=>zD 1 gB (az v8 (λa9=>eu aH7 (a9.add (Int.toNat 1*1)) λv9=>bt pL [zP wo,zP v9] w4.drew R λr4 w5=>aH7 w5/\bt Kp [zS v7,zI r3,zI r4] w5 R λr5 w6=>zR R (zI r5) w6)))))))) (ak (decide (v=4)) (az t (λm_=>aH8 w (m_.add 4) λv10 jt aI7=>zD 0 jt (az v10 (λrP=>ct w (rP.add (Int.toNat 0*1)) λv11=>bt pL [zP wo,zP v11] w R λr6 w7=>ak (! decide (r6=0)) (az t (λa12=>aH8 w7 (a12.add 4) λv12 vh yJ=>zD 1 vh (az v12 (λyK=>ct w7 (yK.add (Int.toNat 1*1)) λlp=>bt pL [zP wo,zP lp] w7 R λr7 w8=>bt bU [zB (! decide (r7=0))] w8 R λr8 w9=>zR R (zI r8) w9)))) (bt bU [zB false] w7 R λr9 aO=>zR R (zI r9) aO))))) (ak (decide (v=5)) (az t (λCv=>aH8 w (Cv.add 4) λmX mY wV=>zD 0 mY (az mX (λIF=>ct w (IF.add (Int.toNat 0*1)) λoG=>bt pL [zP wo,zP oG] w R λaIe aX=>ak (! decide (aIe=0)) (bt bU [zB true] aX R λaIk aH4=>zR R (zI aIk) aH4) (az t (λVq=>aH8 aX (Vq.add 4) λpe wW AN=>zD 1 wW (az pe (λaLT=>ct aX (aLT.add (Int.toNat 1*1)) λpg=>bt pL [zP wo,zP pg] aX R λey bl=>bt bU [zB (! decide (ey=0))] bl R λjE bH=>zR R (zI jE) bH)))))))) (ak (decide (v=6)) (az t (λVs=>aH8 w (Vs.add 4) λrO pn AO=>zD 0 pn (az rO (λVt=>ct w (Vt.add (Int.toNat 0*1)) λqJ=>bt pL [zP wo,zP qJ] w R λaI8 bQ=>ak (! decide (aI8=0)) (az t (λa20=>aH8 bQ (a20.add 4) λv20 IJ Nr=>zD 1 IJ (az v20 (λa21=>ct bQ (a21.add (Int.toNat 1*1)) λv21=>bt pL [zP wo,zP v21] bQ R λqK bW=>zR R (zI qK) bW)))) (az t (λa22=>aH8 bQ (a22.add 4) λv22 Vu vC9=>zD 2 Vu (az v22 (λVv=>ct bQ (Vv.add (Int.toNat 2*1)) λCt=>bt pL [zP wo,zP Ct] bQ R λr16 aH_=>zR R (zI r16) aH_)))))))) (ak (decide (v=7)) (az t (λa24=>aH8 w (a24.add 4) λv24 ML Uu=>zD 0 ML (az v24 (λVw=>ct w (Vw.add (Int.toNat 0*1)) λVx=>bt pL [zP wo,zP Vx] w R λaI9 cB=>az t (λa26=>aH6 cB (a26.add 2) λv26=>ak (! (decide (v26=[]))) (zH cB.drew λgD=>az t (λVy=>dQ gD (Vy.add 2) λv27=>az t (λa28=>dQ gD (a28.add 3) λv28=>bt Yo [zP wo,zS v28] cB.drew R λwX dM=>gD dM/\bt Kp [zS v27,zI wX,zI aI9] dM R λsS eF=>az t (λa29=>aH6 eF (a29.add 3) λv29=>bG Yp [zP wo,zS v29,zI sS] eF R λeL=>zR R (zI sS) eL)))) (az t (λa30=>aH6 cB (a30.add 3) λv30=>bG Yp [zP wo,zS v30,zI aI9] cB R λaIf=>zR R (zI aI9) aIf))))))) (az t (λa31=>bZ w (a31.add 1) λv31=>zR R (zI v31) w)))))))))):aH3 pL #[zP wo,zP t] w R:=
 aU [] [(5,.held),(8,.held),(20,.held)] Tryz.func25 rfl aD
def amN(args:zO)(dI gO:Nat)(x:zT)(aD:zM w [zI 0,zS [],zS []] 35 λw1=>b9 zw [zL args dI gO,zS [32]] w1 R λr w2=>r.length+([10]:zT).length<=9223372036854775807/\nZ aJk [zS (r++[10])] w2 R λaIm aIu gu r1 w3=>zC (zA w 0) w3 [zI aIm,zS aIu,zS gu] λw4=>jD w4 w.heap.size λdK gb gd=>zR R (.tuple #[.agg #[zI dK,zS gb,zS gd],zB r1]) w4):aH3 Dp #[zL args dI gO,zS x] w R:=
 aU [] [] Tryz.func28 rfl aD
def amO(args:zO)(dI gO:Nat)(dH:zT)(aD:zM w [zI 0,zS [],zS []] 35 λw1=>uY Ky [zL args dI gO] w1 R λr r1 w2=>ak (! r1) (False) (eW zx [zS dH] w2 R λr2 rL rC w3=>0<=(if(rL:Int)<r then(rL:Int)else r)/\(if(rL:Int)<r then(rL:Int)else r)<=(rC:Nat)/\b9 zo [zL r2 (Int.toNat (if(rL:Int)<r then(rL:Int)else r)) rC] w3 R λr3 w4=>nZ aJk [zS r3] w4 R λaIm aIu gu r4 w5=>zC (zA w 0) w5 [zI aIm,zS aIu,zS gu] λw6=>jD w6 w.heap.size λdK gb gd=>zR R (.tuple #[.agg #[zI dK,zS gb,zS gd],zB r4]) w6)):aH3 FQ #[zL args dI gO,zS dH] w R:=
 pN {live:=[],ja:=[],oz:=[58]} Tryz.func29 rfl (Eq.mp (by kernel_rfl) aD)
def amP(args:zO)(dI gO:Nat)(dH:zT)(aD:zM w [zI 0,zS [],zS []] 35 λw1=>uY Ky [zL args dI gO] w1 R λr r1 w2=>ak (! r1) (False) (eW zx [zS dH] w2 R λr2 rL rC w3=>0<=(if(i64.wrap ((rL:Int)-r))>(0:Int)then(i64.wrap ((rL:Int)-r))else 0)/\(if(i64.wrap ((rL:Int)-r))>(0:Int)then(i64.wrap ((rL:Int)-r))else 0)<=(rL:Nat)/\b9 zo [zL (if rC=Int.toNat (if(i64.wrap ((rL:Int)-r))>(0:Int)then(i64.wrap ((rL:Int)-r))else 0)then r2 else Option.map (·.add (Int.toNat (if(i64.wrap ((rL:Int)-r))>(0:Int)then(i64.wrap ((rL:Int)-r))else 0)*1)) r2) (rL-Int.toNat (if(i64.wrap ((rL:Int)-r))>(0:Int)then(i64.wrap ((rL:Int)-r))else 0)) (rC-Int.toNat (if(i64.wrap ((rL:Int)-r))>(0:Int)then(i64.wrap ((rL:Int)-r))else 0))] w3 R λr3 w4=>nZ aJk [zS r3] w4 R λaIm aIu gu r4 w5=>zC (zA w 0) w5 [zI aIm,zS aIu,zS gu] λw6=>jD w6 w.heap.size λdK gb gd=>zR R (.tuple #[.agg #[zI dK,zS gb,zS gd],zB r4]) w6)):aH3 FR #[zL args dI gO,zS dH] w R:=
 pN {live:=[],ja:=[],oz:=[58]} Tryz.func30 rfl (Eq.mp (by kernel_rfl) aD)
def anJ(args:zO)(dI gO:Nat)(dH:zT)(aD:zM w [zI 0,zS [],zS []] 35 λw1=>bt YH [zS dH,zS [10]] w1 R λr w2=>b9 qY [zI r] w2 R λr1 w3=>bt Qm [zS dH] w3 R λr2 w4=>b9 qY [zI r2] w4 R λr3 w5=>b9 qY [zI (dH.length:Int)] w5 R λr4 w6=>zM w6 [zS r1,zS r3,zS r4] 9 λw7=>iI (λxJ=>zM w7 [zS [45,108],zS [45,119],zS [45,99]] 9 λw8=>b9 zw [zL args dI gO,zS [32]] w8 R λr5 w9=>bt Fh [zL (some (zA w7 0)) 3 3,zS r5] w9 R λr6 aO=>ak (decide ((dI:Int)=0)) (b9 zw [zL (some (zA w6 0)) 3 3,zS [32]] aO R λr7 aX=>r7.length+([10]:zT).length<=9223372036854775807/\nZ aJk [zS (r7++[10])] aX R λaIm aIu gu r8 aH4=>zC (zA w 0) aH4 [zI aIm,zS aIu,zS gu] λbl=>jD bl w.heap.size λdK gb gd=>zR R (.tuple #[.agg #[zI dK,zS gb,zS gd],zB r8]) bl) (fQ (λaY=>ak (decide ((dI:Int)=1)) (aY (decide (0<=r6)) aO) (aY false aO)) λx bH=>ak x (zD r6 3 (aH6 bH ((zA w6 0).add (Int.toNat r6*1)) λv=>v.length+([10]:zT).length<=9223372036854775807/\nZ aJk [zS (v++[10])] bH R λBB Hy Hz r9 bQ=>zC (zA w 0) bQ [zI BB,zS Hy,zS Hz] λbW=>jD bW w.heap.size λk9 uD uE=>zR R (.tuple #[.agg #[zI k9,zS uD,zS uE],zB r9]) bW)) (xJ bH))) λaH_=>nZ aou [] aH_ R λSq T5 T6 aIe cB=>zC (zA w 0) cB [zI Sq,zS T5,zS T6] λdM=>jD dM w.heap.size λaJm xW xX=>zR R (.tuple #[.agg #[zI aJm,zS xW,zS xX],zB aIe]) dM):aH3 aLk #[zL args dI gO,zS dH] w R:=
 aU [(7,[]),(235,[(32,(.leaf .bool))])] [] Tryz.func31 rfl aD
def amQ(args:zO)(dI gO:Nat)(dH:zT)(aD:zM w [zI 0,zS [],zS []] 35 λw1=>eE Ov [zL args dI gO,.func (.func Qf) #[] #[]] w1 R λr w2=>ak r (False) (eW zx [zS dH] w2 R λr1 rL rC w3=>bG OF [zL r1 rL rC] w3 R λw4=>zj4 (λxJ=>eE zf [zL args dI gO,zS [45,117]] w4 R λr2 w5=>ak r2 (eW ajK [zL r1 rL rC] w5 R λr3 gj jT w6=>xJ r3 gj jT w6) (xJ r1 rL rC w5)) λl lL lC w7=>iI (λaY=>eE zf [zL args dI gO,zS [45,114]] w7 R λr4 w8=>ak r4 (bG Xn [zL l lL lC] w8 R λw9=>aY w9) (aY w8)) λaO=>b9 zo [zL l lL lC] aO R λr5 aX=>nZ aJk [zS r5] aX R λaIm aIu gu r6 aH4=>zC (zA w 0) aH4 [zI aIm,zS aIu,zS gu] λbl=>jD bl w.heap.size λdK gb gd=>zR R (.tuple #[.agg #[zI dK,zS gb,zS gd],zB r6]) bl)):aH3 Bo #[zL args dI gO,zS dH] w R:=
 pN {live:=[(31,[(6,(.leaf .slc))]),(63,[])],ja:=[],oz:=[26]} Tryz.func32 rfl (Eq.mp (by kernel_rfl) aD)
def amR(args:zO)(dI gO:Nat)(dH:zT)(aD:zM w [zI 0,zS [],zS []] 35 λw1=>zM w1 [zS [45,99]] 9 λw2=>eE Xo [zL args dI gO,zL (some (zA w1 0)) 1 1] w2 R λr w3=>iI (λxJ=>fQ (λaY=>ak (decide (0<(dI:Int))) (aY (! r) w3) (aY false w3)) λx w4=>ak x (False) (xJ w4)) λw5=>zM w5 [zP none,zN] 86 λw6=>eW zx [zS dH] w6 R λr1 rL rC w7=>zl2 r1 rL rC w7 λxI m l lL lC w8=>ak (decide (0<(lL:Int))) (aIv 1 w8 λlq m1 n w9=>fQ (λfY=>ak (decide (n<(lL:Int))) (zD n lL (az l (λa=>aH6 w9 (a.add (Int.toNat n*1)) λv=>zD 0 lL (az l (λa1=>aH6 w9 (a1.add (Int.toNat 0*1)) λv1=>fY (decide (v=v1)) w9.drew))))) (fY false w9.drew)) λx1 aO=>ak x1 (lq (i64.wrap (n+1)) aO/\m1 (i64.wrap (n+1)) aO<m1 n w9) (iI (λaJj=>ak r (b9 qY [zI n] aO R λr2 aX=>r2.length+([32]:zT).length<=9223372036854775807/\zK iA [zP (some (zA w5 0)),zS (r2++[32])] aX R λoF aH4=>∃(r3:Int)(r4:Value),r4.oneCell'=true/\oF=.returned (.tuple #[zI r3,r4])/\aJj aH4) (aJj aO)) λbl=>zD 0 lL (az l (λa2=>aH6 bl (a2.add (Int.toNat 0*1)) λv2=>v2.length+([10]:zT).length<=9223372036854775807/\zK iA [zP (some (zA w5 0)),zS (v2++[10])] bl R λjf bH=>∃(r5:Int)(r6:Value),r6.oneCell'=true/\jf=.returned (.tuple #[zI r5,r6])/\0<=n/\n<=(lL:Nat)/\xI (if lC=Int.toNat n then l else Option.map (·.add (Int.toNat n*1)) l) (lL-Int.toNat n) (lC-Int.toNat n) bH/\m (if lC=Int.toNat n then l else Option.map (·.add (Int.toNat n*1)) l) (lL-Int.toNat n) (lC-Int.toNat n) bH<m l lL lC w8)))) (b9 qj [zP (some (zA w5 0))] w8 R λr7 bQ=>nZ aJk [zS r7] bQ R λaIm aIu gu r8 bW=>zC (zA w 0) bW [zI aIm,zS aIu,zS gu] λaH_=>jD aH_ w.heap.size λdK gb gd=>zR R (.tuple #[.agg #[zI dK,zS gb,zS gd],zB r8]) aH_)):aH3 Dq #[zL args dI gO,zS dH] w R:=
 pN {live:=[(7,[]),(14,[(19,(.leaf .bool))]),(250,[(8,(.leaf .slc))]),(16020,[(9,(.leaf (.int .i64)))]),(64080,[(41,(.leaf .bool))]),(8011,[])],ja:=[(8,.still)],oz:=[58]} Tryz.func33 rfl (Eq.mp (by kernel_rfl) aD)
def anf(args:zO)(dI gO:Nat)(dH:zT)(aD:zM w [zI 0,zS [],zS []] 35 λw1=>ak (! decide ((dI:Int)=4)) (False) (zD 0 dI (az args (λa=>aH6 w1 (a.add (Int.toNat 0*1)) λv=>ak (! (decide (v=[45,100]))) (False) (zD 1 dI (az args (λa1=>aH6 w1 (a1.add (Int.toNat 1*1)) λv1=>ak (! decide ((v1.length:Int)=1)) (False) (zD 2 dI (az args (λa2=>aH6 w1 (a2.add (Int.toNat 2*1)) λv2=>ak (! (decide (v2=[45,102]))) (False) (zD 3 dI (az args (λa3=>aH6 w1 (a3.add (Int.toNat 3*1)) λv3=>uY Dk [zS v3] w1 R λr r1 w2=>ak (! r1) (False) (ak (decide (r<1)) (False) (eW zx [zS dH] w2 R λr2 rL rC w3=>aIv 0 w3 λxI m x w4=>ak (decide (x<(rL:Int))) (zD x rL (az r2 (λa4=>aH6 w4 (a4.add (Int.toNat x*1)) λv4=>zD 1 dI (az args (λa5=>aH6 w4 (a5.add (Int.toNat 1*1)) λv5=>eW Kk [zS v4,zS v5] w4 R λr3 gj jT w5=>ak (decide ((gj:Int)=1)) (xI (i64.wrap (x+1)) w5/\m (i64.wrap (x+1)) w5<m x w4) (ak (decide (r<=(gj:Int))) (zD (i64.wrap (r-1)) gj (az r3 (λa6=>aH6 w5 (a6.add (Int.toNat (i64.wrap (r-1))*1)) λv6=>zD x rL (az r2 (λa7=>zC (a7.add (Int.toNat x*1)) w5 [zS v6] λw6=>xI (i64.wrap (x+1)) w6/\m (i64.wrap (x+1)) w6<m x w4))))) (zD x rL (az r2 (λa8=>zC (a8.add (Int.toNat x*1)) w5 [zS []] λw7=>xI (i64.wrap (x+1)) w7/\m (i64.wrap (x+1)) w7<m x w4))))))))) (b9 zo [zL r2 rL rC] w4 R λr4 w8=>nZ aJk [zS r4] w8 R λaIm aIu gu r5 w9=>zC (zA w 0) w9 [zI aIm,zS aIu,zS gu] λaO=>jD aO w.heap.size λdK gb gd=>zR R (.tuple #[.agg #[zI dK,zS gb,zS gd],zB r5]) aO)))))))))))))))):aH3 FW #[zL args dI gO,zS dH] w R:=
 pN {live:=[(506,[(57,(.leaf (.int .i64)))])],ja:=[],oz:=[26,122]} Tryz.func34 rfl (Eq.mp (by kernel_rfl) aD)
def anK(args:zO)(dI gO:Nat)(dH:zT)(aD:zM w [zI 0,zS [],zS []] 35 λw1=>iI (λxJ=>fQ (λaY=>ak (! decide ((dI:Int)=2)) (aY true w1) (zD 0 dI (az args (λa=>aH6 w1 (a.add (Int.toNat 0*1)) λv=>ak (! (decide (v=[45,100]))) (zD 1 dI (az args (λa1=>aH6 w1 (a1.add (Int.toNat 1*1)) λv1=>aY (decide (v1=[])) w1))) (aY false w1))))) λx w2=>ak x (False) (xJ w2)) λw3=>cS (w3.alloc (.cells ⟨List.replicate 256 (zI 0)⟩ 168)) (λw4=>zD 1 dI (az args (λa2=>aH6 w4 (a2.add (Int.toNat 1*1)) λv2=>eW KF [zS v2] w4 R λr rL rC w5=>iI (λfY=>zD 0 dI (az args (λa3=>aH6 w5 (a3.add (Int.toNat 0*1)) λv3=>ak (decide (v3=[45,100])) (aIv 0 w5 λxI m x1 w6=>ak (decide (x1<(rL:Int))) (zD x1 rL (az r (λa4=>Is w6 (a4.add (Int.toNat x1*1)) λv4=>zD v4 256 (zC ((zA w3 0).add (Int.toNat v4*1)) w6 [zI (-1)] λw7=>xI (i64.wrap (x1+1)) w7/\m (i64.wrap (x1+1)) w7<m x1 w6)))) (fY w6)) (zD 0 dI (az args (λa5=>aH6 w5 (a5.add (Int.toNat 0*1)) λv5=>eW KF [zS v5] w5 R λr1 gj jT w8=>aIv 0 w8 λlq m1 x2 w9=>ak (decide (x2<(gj:Int))) (zD x2 gj (az r1 (λa6=>Is w9 (a6.add (Int.toNat x2*1)) λv6=>zD (if(i64.wrap ((rL:Int)-1))<x2 then(i64.wrap ((rL:Int)-1))else x2) rL (az r (λa7=>Is w9 (a7.add (Int.toNat (if(i64.wrap ((rL:Int)-1))<x2 then(i64.wrap ((rL:Int)-1))else x2)*1)) λv7=>zD v6 256 (zC ((zA w3 0).add (Int.toNat v6*1)) w9 [zI (i64.wrap (1+(i64.wrap v7)))] λaO=>lq (i64.wrap (x2+1)) aO/\m1 (i64.wrap (x2+1)) aO<m1 x2 w9)))))) (fY w9))))))) λaX=>vb none 0 0 0 aX λVz m2 out dL eY x3 aH4=>ak (decide (x3<(dH.length:Int))) (0<=x3/\∃b:UInt8,dH[Int.toNat x3]?=some b/\zD (b.toNat:Int) 256 (bZ aH4 ((zA w3 0).add (Int.toNat (b.toNat:Int)*1)) λv8=>ak (decide (v8=0)) (0<=x3/\∃b1:UInt8,dH[Int.toNat x3]?=some b1/\zM aH4 [.int .u8 (b1.toNat:Int)] 5 λbl=>dA bl 5 1 1 out dL eY (some (zA aH4 0)) 1 (λp cp bH=>Vz p (dL+1) cp (i64.wrap (x3+1)) bH/\m2 p (dL+1) cp (i64.wrap (x3+1)) bH<m2 out dL eY x3 aH4)) (ak (decide (v8=(-1:Int))) (Vz out dL eY (i64.wrap (x3+1)) aH4/\m2 out dL eY (i64.wrap (x3+1)) aH4<m2 out dL eY x3 aH4) (zM aH4 [.int .u8 (u8.wrap (i64.wrap (v8-1)))] 5 λbQ=>dA bQ 5 1 1 out dL eY (some (zA aH4 0)) 1 (λp1 jF bW=>Vz p1 (dL+1) jF (i64.wrap (x3+1)) bW/\m2 p1 (dL+1) jF (i64.wrap (x3+1)) bW<m2 out dL eY x3 aH4))))) (∃bs:zT,aKj (λa v=>aH4.cell? a=some v) out dL bs/\nZ aJk [zS bs] aH4 R λaIm aIu gu r2 aH_=>zC (zA w 0) aH_ [zI aIm,zS aIu,zS gu] λcB=>jD cB w.heap.size λdK gb gd=>zR R (.tuple #[.agg #[zI dK,zS gb,zS gd],zB r2]) cB))))):aH3 aLl #[zL args dI gO,zS dH] w R:=
 pN {live:=[(3,[]),(6,[(29,(.leaf .bool))]),(31,[]),(1002,[(43,(.leaf (.int .i64)))]),(1006,[(55,(.leaf (.int .i64)))]),(1018,[(12,(.leaf .slc)),(75,(.leaf (.int .i64)))])],ja:=[],oz:=[26]} Tryz.func35 rfl (Eq.mp (by kernel_rfl) aD)
def amS(args:zO)(dI gO:Nat)(dH:zT)(aD:zM w [zL args dI gO] 25 λw1=>zM w1 [zI 0,zS [],zS []] 35 λw2=>It (λxJ=>aH8 w2 (zA w 0) λv vL vC=>ak (decide ((vL:Int)=2)) (aH8 w2 (zA w 0) λv1 cM dW=>zD 0 cM (az v1 (λa=>aH6 w2 (a.add (Int.toNat 0*1)) λv2=>zX w2 [zB false] 4 [zB (decide (v2=[45,118]))] λw4=>xJ (some (zA w2 0)) w4))) (zX w2 [zB false] 4 [zB false] λw6=>xJ (some (zA w2 0)) w6)) λnot w7=>iI (λaY=>fQ (λfY=>aH8 w7 (zA w 0) λv3 gB jS=>ak (! decide ((gB:Int)=1)) (az not (λa1=>ig w7 a1 λv4=>fY (! v4) w7)) (fY false w7)) λx w8=>ak x (False) (aY w8)) λw9=>eW zx [zS dH] w9 R λr rL rC aO=>eW Jv [zL r rL rC,.func (.func Kl) #[] #[zP (some (zA w 0)),zP not]] aO R λr1 gj jT aX=>ak (decide ((gj:Int)=0)) (zC (zA w1 0) aX [zI 1,zS [],zS []] λaH4=>jD aH4 w1.heap.size λdK gb gd=>zR R (.tuple #[.agg #[zI dK,zS gb,zS gd],zB true]) aH4) (b9 zo [zL r1 gj jT] aX R λr2 bl=>nZ aJk [zS r2] bl R λaIm aIu gu r3 bH=>zC (zA w1 0) bH [zI aIm,zS aIu,zS gu] λbQ=>jD bQ w1.heap.size λk9 uD uE=>zR R (.tuple #[.agg #[zI k9,zS uD,zS uE],zB r3]) bQ)):aH3 FT #[zL args dI gO,zS dH] w R:=
 pN {live:=[(3,[(6,(.leaf .ptr))]),(7,[]),(14,[(23,(.leaf .bool))])],ja:=[],oz:=[58]} Tryz.func36 rfl (Eq.mp (by kernel_rfl) aD)
def Xk(b:zO)(s:zT)(aD:bG Jx [zP b] w R λw1=>az b (λa=>aH8 w1 (a.add 1) λv vL vC=>af8 w1 5 1 1 v vL vC s (λp cp w2=>az b (λa2=>zC (a2.add 1) w2 [zL p (vL+s.length) cp] λw3=>zR R (.tuple #[zI (s.length:Int),.nilIface]) w3)))):aH3 iA #[zP b,zS s] w R:=
 aU [] [] Tryz.func40 rfl aD
def akI(s old new:zT)(aD:b9 PX [zS s,zS old,zS new,zI (-1)] w R λr w1=>zR R (zS r) w1):aH3 JR #[zS s,zS old,zS new] w R:=
 aU [] [] Tryz.func41 rfl aD
def ang(uM:Int)(aJU:Bool)(uN uO vj:zT)(uP:zO)(aJ1 uy:Nat)(aD:zM w [zI uM,zB aJU,zS uN,zS uO,zS vj,zL uP aJ1 uy] 51 λw1=>bZ w1 (zA w 0) λv=>ak (decide (v=2)) (aH6 w1 (zA w 2) λv1=>([36,40]:zT).length+v1.length<=9223372036854775807/\(([36,40]:zT)++v1).length+([41]:zT).length<=9223372036854775807/\zR R (zS ((([36,40]:zT)++v1)++[41])) w1) (ak (decide (v=3)) (aH6 w1 (zA w 2) λv2=>([36,40,40]:zT).length+v2.length<=9223372036854775807/\(([36,40,40]:zT)++v2).length+([41,41]:zT).length<=9223372036854775807/\zR R (zS ((([36,40,40]:zT)++v2)++[41,41])) w1) (ak (decide (v=1)) (aH6 w1 (zA w 4) λv3=>ak (decide (v3=[108,101,110])) (aH6 w1 (zA w 3) λv4=>([36,123,35]:zT).length+v4.length<=9223372036854775807/\(([36,123,35]:zT)++v4).length+([125]:zT).length<=9223372036854775807/\zR R (zS ((([36,123,35]:zT)++v4)++[125])) w1) (zH w1.drew λSw=>dQ Sw (zA w 3) λv5=>([36,123]:zT).length+v5.length<=9223372036854775807/\dQ Sw (zA w 4) λv6=>(([36,123]:zT)++v5).length+v6.length<=9223372036854775807/\gi Sw (zA w 5) λv7 vL vC=>b9 tv [zL v7 vL vC] w1.drew R λr w2=>Sw w2/\((([36,123]:zT)++v5)++v6).length+r.length<=9223372036854775807/\(((([36,123]:zT)++v5)++v6)++r).length+([125]:zT).length<=9223372036854775807/\zR R (zS ((((([36,123]:zT)++v5)++v6)++r)++[125])) w2)) (zR R (zS []) w1)))):aH3 KE #[.agg #[zI uM,zB aJU,zS uN,zS uO,zS vj,zL uP aJ1 uy]] w R:=
 aU [] [(9,.held)] Tryz.func42 rfl aD
def ajT(b:zO)(aD:az b (λa=>aH8 w (a.add 1) λv vL vC=>(v=none\/vC≠0)/\az b (λa1=>aH8 w (a1.add 1) λv1 cM dW=>Me 5 v (cM:Int) w.drew (λus w1=>zR R (zS us) w1)))):aH3 qj #[zP b] w R:=
 aU [] [(1,.tail 10)] Tryz.func43 rfl aD
def alp(x:zO)(HE:zT)(fnames:Bool)(aD:zM w [zS HE,zB fnames] 95 λw1=>iI (λxJ=>fQ (λaY=>zH w1.drew λSw=>az x (λa=>eu Sw (a.add 1) λv=>ak v.isNone (aY true w1.drew) (Iu Sw (zA w 1) λv1=>ak (! v1) (az x (λa1=>eu Sw (a1.add 1) λv2=>az v2 (λa2=>wU Sw (a2.add 2) λv3=>dQ Sw (zA w 0) λv4=>∃x1:Bool,(Instr.lookup 176 v3 (zS v4) false).run aM w1.drew=.ok (zB x1) w1.drew/\aY x1 w1.drew))) (aY false w1.drew)))) λx2 w2=>ak x2 (zR R (.tuple #[]) w2) (xJ w2)) λw3=>zH w3.drew λaH7=>az x (λa3=>eu aH7 (a3.add 1) λv5=>az v5 (λa4=>wU aH7 (a4.add 1) λv6=>Vl aH7 w.heap.size λax5 awU=>∃(x3:zT)(x4:Bool),(Instr.lookup 175 v6 (.agg #[zS ax5,zB awU]) true).run aM w3.drew=.ok (.tuple #[zS x3,zB x4]) w3.drew/\ak (! x4) (zH w3.drew.drew λgD=>az x (λa5=>eu gD (a5.add 1) λv7=>az v7 (λa6=>wU gD (a6.add 1) λv8=>Vl gD w.heap.size λawV avH=>az x (λa7=>eu gD (a7.add 1) λv9=>az v9 (λa8=>wU gD a8 λv10=>Vl gD w.heap.size λawW avI=>b9 PL [v10,.agg #[zS awW,zB avI]] w3.drew.drew R λr w4=>gD w4/\aIc aM 175 v8 (.agg #[zS awV,zB avH]) (zS r) w4 (λw5=>zR R (.tuple #[]) w5)))))) (zR R (.tuple #[]) w3.drew)))):aH3 PJ #[zP x,.agg #[zS HE,zB fnames]] w R:=
 aU [(3,[]),(6,[(27,(.leaf .bool))])] [(1,.held),(2,.held),(4,.held)] Tryz.func44 rfl aD
def an9(s:zO)(cwd:zT)(umask:Int)(aD:zM w [zP s,zS cwd,zI (bits .and .i64 umask 7)] 186 λw1=>zR R (zP (some (zA w 0))) w1):aH3 vW #[zP s,zS cwd,zI umask] w R:=
 aU [] [] Tryz.func46 rfl aD
def ajA(s:zO)(sL sC:Nat)(aD:ak s.isNone (zR R zN w) (zM w [] 116 λw1=>dA w1 116 6 104 (some (zA w 0)) 0 0 s sL (λp cp w2=>zR R (zL p (0+sL) cp) w2))):aH3 Ox #[zL s sL sC] w R:=
 aU [] [] Tryz.func47 rfl aD
def ak3(h:zO)(lY:Int)(aIF:Bool)(lZ:zT)(lS:zO)(lP lQ:Nat)(lK:zO)(lI lJ:Nat)(lR:zO)(lM lN:Nat)(aIG:zO)(l5 l6:Nat)(l7:zO)(lT lU:Nat)(aD:zM w [zP h] 101 λw1=>zM w1 [zI lY,zB aIF,zS lZ,zL lS lP lQ,zL lK lI lJ,zL lR lM lN,zL aIG l5 l6,zL l7 lT lU] 66 λw2=>ct w2 (zA w 0) λv=>az v (λa=>bZ w2 (a.add 9) λv1=>ak (! decide (v1=0)) (zR R (.tuple #[]) w2) (ct w2 (zA w 0) λv2=>az v2 (λa1=>ct w2 a1 λv3=>az v3 (λa2=>bZ w2 (a2.add 14) λv4=>ak (decide (v4=0)) (ct w2 (zA w 0) λv5=>az v5 (λa3=>ct w2 a3 λv6=>az v6 (λa4=>zC ((a4.add 3).add 10) w2 [zI 220] λw3=>zH w3.drew λSw=>eu Sw (zA w 0) λv7=>eu Sw (zA w 0) λv8=>az v7 (λa5=>zC ((a5.add 3).add 2) w3.drew [zI 124] λw4=>Sw w4/\az v8 (λa6=>zC (a6.add 9) w4 [zI 4] λw5=>zR R (.tuple #[]) w5))))) (ct w2 (zA w 0) λv9=>az v9 (λa7=>ct w2 a7 λv10=>az v10 (λa8=>bZ w2 (a8.add 14) λv11=>az v10 (λa9=>zC (a9.add 14) w2 [zI (i64.wrap (v11-1))] λw6=>bZ w6 (zA w1 0) λv12=>ak (decide (v12=3)) (ct w6 (zA w 0) λlp=>iJ w6 w1.heap.size λcF fO cI fH fE fF fB fy fA fG aIn aIo fP fK aIp fM fI fJ=>bG Fw [zP lp,.agg #[zI cF,zB fO,zS cI,zL fH fE fF,zL fB fy fA,zL fG aIn aIo,zL fP fK aIp,zL fM fI fJ]] w6 R λw7=>zR R (.tuple #[]) w7) (ak (decide (v12=2)) (ct w6 (zA w 0) λmX=>iJ w6 w1.heap.size λaIi kE eP kj kf kg j9 j7 j8 ki j_ ke kF kz kA kB ko kr=>bG Pn [zP mX,.agg #[zI aIi,zB kE,zS eP,zL kj kf kg,zL j9 j7 j8,zL ki j_ ke,zL kF kz kA,zL kB ko kr]] w6 R λw8=>zR R (.tuple #[]) w8) (ak (decide (v12=1)) (ct w6 (zA w 0) λoG=>iJ w6 w1.heap.size λmO uI kV tV tN tO tH tB aJQ tP tI tJ uJ aJX uq aJY tW tX=>bG Fx [zP oG,.agg #[zI mO,zB uI,zS kV,zL tV tN tO,zL tH tB aJQ,zL tP tI tJ,zL uJ aJX uq,zL aJY tW tX]] w6 R λw9=>zR R (.tuple #[]) w9) (ak (decide (v12=11)) (zH w6.drew λaH7=>eu aH7 (zA w 0) λpe=>az pe (λm_=>wU aH7 (m_.add 6) λpg=>dQ aH7 (zA w1 2) λrO=>gi aH7 (zA w1 7) λqJ vL vC=>zD 0 vL (az qJ (λrP=>zs7 aH7 (rP.add (Int.toNat 0*8)) λq_ uK pS tY tQ tR tK tD aJR aJS tL tM uL uu aJZ aJ0 tZ t_=>aIc aM 107 pg (zS rO) (.agg #[zI q_,zB uK,zS pS,zL tY tQ tR,zL tK tD aJR,zL aJS tL tM,zL uL uu aJZ,zL aJ0 tZ t_]) w6.drew (λaO=>ct aO (zA w 0) λv20=>az v20 (λa12=>zC ((a12.add 3).add 2) aO [zI 0] λaX=>zR R (.tuple #[]) aX)))))) (ak (decide (v12=0)) (ct w6 (zA w 0) λv21=>iJ w6 w1.heap.size λaLP T3 He SY Sm Sn RT Ry Rz Sp RU RV T4 TC TD TE SZ S0=>bG C5 [zP v21,.agg #[zI aLP,zB T3,zS He,zL SY Sm Sn,zL RT Ry Rz,zL Sp RU RV,zL T4 TC TD,zL TE SZ S0]] w6 R λaH4=>zR R (.tuple #[]) aH4) (ct w6 (zA w 0) λv22=>aH8 w6 (zA w1 5) λCt cM dW=>bG JM [zP v22,zL Ct cM dW,.func (.func ali) #[] #[zP (some (zA w 0)),zP (some (zA w1 0))]] w6 R λbl=>zR R (.tuple #[]) bl)))))))))))))):aH3 C_ #[zP h,.agg #[zI lY,zB aIF,zS lZ,zL lS lP lQ,zL lK lI lJ,zL lR lM lN,zL aIG l5 l6,zL l7 lT lU]] w R:=
 aU [] [(4,.held),(15,.held)] Tryz.func48 rfl aD
def ak4(h:zO)(what:zT)(ex:Int)(aD:zH w.drew λSw=>az h (λa=>eu Sw a λv=>az v (λa1=>what.length+([58,32,101,114,114,111,114,32]:zT).length<=9223372036854775807/\b9 qY [zI ex] w.drew R λr w1=>Sw w1/\(what++[58,32,101,114,114,111,114,32]).length+r.length<=9223372036854775807/\((what++[58,32,101,114,114,111,114,32])++r).length+([10]:zT).length<=9223372036854775807/\zK iA [zP (some (a1.add 15)),zS (((what++[58,32,101,114,114,111,114,32])++r)++[10])] w1 R λcV w2=>∃(r1:Int)(r2:Value),r2.oneCell'=true/\cV=.returned (.tuple #[zI r1,r2])/\az h (λa2=>zC ((a2.add 3).add 2) w2 [zI 1] λw3=>zR R (.tuple #[]) w3)))):aH3 Da #[zP h,zS what,zI ex] w R:=
 aU [] [(0,.held)] Tryz.func49 rfl aD
def anh(n:Int)(aD:ak (decide (n<1)) (zR R (.tuple #[zP none,zI 1]) w) (ak (decide (4096<n)) (zR R (.tuple #[zP none,zI 1]) w) (0<=n/\n<=n/\64*n<=281474976710656/\n<=9223372036854775807/\zR R (.tuple #[zP (some (Addr.mk (w.alloc (.cells (madeCells #[.int .u8 0,.int .u8 0,.int .u8 0,.int .u8 0,.int .u8 0,.int .u8 0,.int .u8 0,.int .u8 0,.int .u8 0,.int .u8 0,.int .u8 0,.int .u8 0,.int .u8 0,.int .u8 0,.int .u8 0,.int .u8 0,.int .u8 0,.int .u8 0,.int .u8 0,.int .u8 0,.int .u8 0,.int .u8 0,.int .u8 0,.int .u8 0,.int .u8 0,.int .u8 0,.int .u8 0,.int .u8 0,.int .u8 0,.int .u8 0,.int .u8 0,.int .u8 0,.int .u8 0,.int .u8 0,.int .u8 0,.int .u8 0,.int .u8 0,.int .u8 0,.int .u8 0,.int .u8 0,.int .u8 0,.int .u8 0,.int .u8 0,.int .u8 0,.int .u8 0,.int .u8 0,.int .u8 0,.int .u8 0,.int .u8 0,.int .u8 0,.int .u8 0,.int .u8 0,.int .u8 0,.int .u8 0,.int .u8 0,.int .u8 0,.int .u8 0,.int .u8 0,.int .u8 0,.int .u8 0,.int .u8 0,.int .u8 0,.int .u8 0,.int .u8 0] (Int.toNat n*64)) 439)).heap.size 0 none)),zI 0]) ((w.alloc (.cells (madeCells #[.int .u8 0,.int .u8 0,.int .u8 0,.int .u8 0,.int .u8 0,.int .u8 0,.int .u8 0,.int .u8 0,.int .u8 0,.int .u8 0,.int .u8 0,.int .u8 0,.int .u8 0,.int .u8 0,.int .u8 0,.int .u8 0,.int .u8 0,.int .u8 0,.int .u8 0,.int .u8 0,.int .u8 0,.int .u8 0,.int .u8 0,.int .u8 0,.int .u8 0,.int .u8 0,.int .u8 0,.int .u8 0,.int .u8 0,.int .u8 0,.int .u8 0,.int .u8 0,.int .u8 0,.int .u8 0,.int .u8 0,.int .u8 0,.int .u8 0,.int .u8 0,.int .u8 0,.int .u8 0,.int .u8 0,.int .u8 0,.int .u8 0,.int .u8 0,.int .u8 0,.int .u8 0,.int .u8 0,.int .u8 0,.int .u8 0,.int .u8 0,.int .u8 0,.int .u8 0,.int .u8 0,.int .u8 0,.int .u8 0,.int .u8 0,.int .u8 0,.int .u8 0,.int .u8 0,.int .u8 0,.int .u8 0,.int .u8 0,.int .u8 0,.int .u8 0] (Int.toNat n*64)) 439)).alloc (.cells #[zL (some (zA w 0)) (Int.toNat n) (Int.toNat n),zB true,zI 0,.int .u64 0] 191))))):aH3 QM #[zI n] w R:=
 aU [] [] Tryz.func50 rfl aD
def ani(d:zO)(aD:ie Qn [zP d] w R λr w1=>zM w1 [zP r,zN] 195 λw2=>ct w2 (zA w1 0) λv=>eW OL [zP v] w2 R λr1 rL rC w3=>aIv 0 w3 λxI m x w4=>ak (decide (x<(rL:Int))) (zD x rL (az r1 (λa=>aH6 w4 (a.add (Int.toNat x*1)) λv1=>zK an3 [zS v1] w4 R λg_ w5=>∃(agl:zT)(aej:zO)(adq adr:Nat)(ads:zO)(ace acf:Nat)(aKM:Int)(aKO:zT)(aKP:zT)(r2:Int),g_=.returned (.tuple #[.agg #[zS agl,zL aej adq adr,zL ads ace acf,zI aKM,zS aKO,zS aKP],zI r2])/\zX w5 [zS [],zN,zN,zI 0,zS [],zS []] 116 [zS agl,zL aej adq adr,zL ads ace acf,zI aKM,zS aKO,zS aKP] λw7=>ak (decide (r2=0)) (zH w7.drew λSw=>gi Sw (zA w1 1) λv2 vL vC=>∃(Ib:zT)(Hf:zO)(GP GQ:Nat)(GR:zO)(Gs Gt:Nat)(vV:Int)(aKf:zT)(v_:zT),(∀wq:zW,Sw wq->wq.cell? (zA w5 0)=some (zS Ib))/\(∀wq:zW,Sw wq->wq.cell? (zA w5 1)=some (zL Hf GP GQ))/\(∀wq:zW,Sw wq->wq.cell? (zA w5 2)=some (zL GR Gs Gt))/\(∀wq:zW,Sw wq->wq.cell? (zA w5 3)=some (zI vV))/\(∀wq:zW,Sw wq->wq.cell? (zA w5 4)=some (zS aKf))/\(∀wq:zW,Sw wq->wq.cell? (zA w5 5)=some (zS v_))/\zM w7.drew [zS Ib,zL Hf GP GQ,zL GR Gs Gt,zI vV,zS aKf,zS v_] 116 λw8=>Sw w8/\dA w8 116 6 104 v2 vL vC (some (zA w7.drew 0)) 1 (λp cp w9=>zC (zA w1 1) w9 [zL p (vL+1) cp] λaO=>xI (i64.wrap (x+1)) aO/\m (i64.wrap (x+1)) aO<m x w4)) (xI (i64.wrap (x+1)) w7/\m (i64.wrap (x+1)) w7<m x w4)))) (zR R (zP (some (zA w1 0))) w4)):aH3 QN #[zP d] w R:=
 aU [(58,[(18,(.leaf (.int .i64)))])] [(7,.held)] Tryz.func51 rfl aD
def Qu(s:zT)(w:zW)(R:zE):Prop:=ak (decide (20000<(s.length:Int))) (Wr ((w.alloc (.cells #[zN] 126)).alloc (.cells #[zI 0] 28)) (zA w 0)/\Wr (((w.alloc (.cells #[zN] 126)).alloc (.cells #[zI 0] 28)).setCell (zA w 0) zN) (Addr.mk (w.alloc (.cells #[zN] 126)).heap.size 0 none)/\∃(v:zO)(vL vC:Nat),((((w.alloc (.cells #[zN] 126)).alloc (.cells #[zI 0] 28)).setCell (zA w 0) zN).setCell (Addr.mk (w.alloc (.cells #[zN] 126)).heap.size 0 none) (zI 2)).cell? (zA w 0)=some (zL v vL vC)/\∃v1:Int,((((w.alloc (.cells #[zN] 126)).alloc (.cells #[zI 0] 28)).setCell (zA w 0) zN).setCell (Addr.mk (w.alloc (.cells #[zN] 126)).heap.size 0 none) (zI 2)).cell? (Addr.mk (w.alloc (.cells #[zN] 126)).heap.size 0 none)=some (zI v1)/\zR R (.tuple #[zL v vL vC,zI v1]) ((((w.alloc (.cells #[zN] 126)).alloc (.cells #[zI 0] 28)).setCell (zA w 0) zN).setCell (Addr.mk (w.alloc (.cells #[zN] 126)).heap.size 0 none) (zI 2))) (sQ (((w.alloc (.cells #[zN] 126)).alloc (.cells #[zI 0] 28)).alloc (.cells #[zS s] 200)) λxI m w1=>aH6 w1 (Addr.mk ((w.alloc (.cells #[zN] 126)).alloc (.cells #[zI 0] 28)).heap.size 0 none) λv2=>ak (! (decide (v2=[]))) (aH6 w1 (Addr.mk ((w.alloc (.cells #[zN] 126)).alloc (.cells #[zI 0] 28)).heap.size 0 none) λv3=>0<=(0:Int)/\∃b:UInt8,v3[Int.toNat 0]?=some b/\fQ (λxJ=>ak (decide ((b.toNat:Int)=32)) (xJ true w1) (xJ (decide ((b.toNat:Int)=9)) w1)) λx w2=>ak x (aH3 ot #[zP (some (Addr.mk ((w.alloc (.cells #[zN] 126)).alloc (.cells #[zI 0] 28)).heap.size 0 none)),zI 1] w2 (λed w3=>(ed=.returned (.tuple #[])/\xI w3/\m w3<m w1)\/(∃ch,ed=.panicked ch/\CallsD aM zn #[zP (some (zA w 0)),zP (some (Addr.mk (w.alloc (.cells #[zN] 126)).heap.size 0 none))] (.panicking ch) w3 (λcV ux w4=>(∃rv,cV=.returned rv)/\settle ux=.returning/\aH8 w4 (zA w 0) λv4 cM dW=>bZ w4 (Addr.mk (w.alloc (.cells #[zN] 126)).heap.size 0 none) λv5=>zR R (.tuple #[zL v4 cM dW,zI v5]) w4)))) (ak (decide ((b.toNat:Int)=35)) (aH3 OR #[zP (some (Addr.mk ((w.alloc (.cells #[zN] 126)).alloc (.cells #[zI 0] 28)).heap.size 0 none))] w2 (λg_ w5=>(g_=.returned (.tuple #[])/\xI w5/\m w5<m w1)\/(∃gR,g_=.panicked gR/\CallsD aM zn #[zP (some (zA w 0)),zP (some (Addr.mk (w.alloc (.cells #[zN] 126)).heap.size 0 none))] (.panicking gR) w5 (λoF rM w6=>(∃rN,oF=.returned rN)/\settle rM=.returning/\aH8 w6 (zA w 0) λv6 gB jS=>bZ w6 (Addr.mk (w.alloc (.cells #[zN] 126)).heap.size 0 none) λv7=>zR R (.tuple #[zL v6 gB jS,zI v7]) w6)))) (ak (decide ((b.toNat:Int)=10)) (aH3 ot #[zP (some (Addr.mk ((w.alloc (.cells #[zN] 126)).alloc (.cells #[zI 0] 28)).heap.size 0 none)),zI 1] w2 (λjf w7=>(jf=.returned (.tuple #[])/\aH8 w7 (zA w 0) λv8 jt aI7=>∃xs news:List Value,aV (w7.alloc (.cells #[zI 2,zS [10]] 203)) 0 203 2 (zL v8 jt aI7) jt xs/\news.length=1*2/\(∀qv:Value,qv∈news->qv.oneCell'=true)/\(0<1->∃a:Addr,(some (zA w7 0))=some a/\∀(j:Nat)(u:Value),news[j]?=some u->(w7.alloc (.cells #[zI 2,zS [10]] 203)).cell? (a.add j)=some u)/\jt+1<=9223372036854775807/\(jt+1)*24<=140737488355328/\∀(p:zO)(cp:Nat)(w8:zW),aV w8 0 203 2 (Value.slice p (jt+1) cp) (jt+1) (xs++news)->(w7.alloc (.cells #[zI 2,zS [10]] 203)).grownBy w8 (Value.ownBlock (Value.slice v8 jt aI7))->aI4 v8 p (jt+1) aI7 cp (w7.alloc (.cells #[zI 2,zS [10]] 203)).heap.size->Wr w8 (zA w 0)/\xI (w8.setCell (zA w 0) (zL p (jt+1) cp))/\m (w8.setCell (zA w 0) (zL p (jt+1) cp))<m w1)\/(∃oH,jf=.panicked oH/\CallsD aM zn #[zP (some (zA w 0)),zP (some (Addr.mk (w.alloc (.cells #[zN] 126)).heap.size 0 none))] (.panicking oH) w7 (λmh vf w9=>(∃vg,mh=.returned vg)/\settle vf=.returning/\aH8 w9 (zA w 0) λv9 vh yJ=>bZ w9 (Addr.mk (w.alloc (.cells #[zN] 126)).heap.size 0 none) λv10=>zR R (.tuple #[zL v9 vh yJ,zI v10]) w9)))) (aH3 JS #[zP (some (Addr.mk ((w.alloc (.cells #[zN] 126)).alloc (.cells #[zI 0] 28)).heap.size 0 none))] w2 (λaJw aO=>(∃r:Bool,aJw=.returned (zB r)/\ak r (zH aO.drew λSw=>gi Sw (zA w 0) λv11 mY wV=>aH3 OP #[zP (some (Addr.mk ((w.alloc (.cells #[zN] 126)).alloc (.cells #[zI 0] 28)).heap.size 0 none))] aO.drew (λve aX=>(∃r1:zT,ve=.returned (zS r1)/\Sw aX/\Sw (aX.alloc (.cells #[zI 1,zS r1] 203))/\∃xs1 Ml:List Value,aV (aX.alloc (.cells #[zI 1,zS r1] 203)) 0 203 2 (zL v11 mY wV) mY xs1/\Ml.length=1*2/\(∀qv:Value,qv∈Ml->qv.oneCell'=true)/\(0<1->∃a1:Addr,(some (zA aX 0))=some a1/\∀(j:Nat)(u:Value),Ml[j]?=some u->(aX.alloc (.cells #[zI 1,zS r1] 203)).cell? (a1.add j)=some u)/\mY+1<=9223372036854775807/\(mY+1)*24<=140737488355328/\∀(p1:zO)(jF:Nat)(aH4:zW),aV aH4 0 203 2 (Value.slice p1 (mY+1) jF) (mY+1) (xs1++Ml)->(aX.alloc (.cells #[zI 1,zS r1] 203)).grownBy aH4 (Value.ownBlock (Value.slice v11 mY wV))->aI4 v11 p1 (mY+1) wV jF (aX.alloc (.cells #[zI 1,zS r1] 203)).heap.size->Wr aH4 (zA w 0)/\xI (aH4.setCell (zA w 0) (zL p1 (mY+1) jF))/\m (aH4.setCell (zA w 0) (zL p1 (mY+1) jF))<m w1)\/(∃aJ6,ve=.panicked aJ6/\CallsD aM zn #[zP (some (zA w 0)),zP (some (Addr.mk (w.alloc (.cells #[zN] 126)).heap.size 0 none))] (.panicking aJ6) aX (λAL Ix bl=>(∃Iy,AL=.returned Iy)/\settle Ix=.returning/\aH8 bl (zA w 0) λv12 wW AN=>bZ bl (Addr.mk (w.alloc (.cells #[zN] 126)).heap.size 0 none) λlp=>zR R (.tuple #[zL v12 wW AN,zI lp]) bl)))) (zH aO.drew λaH7=>gi aH7 (zA w 0) λmX pn AO=>aH3 Po #[zP (some (Addr.mk ((w.alloc (.cells #[zN] 126)).alloc (.cells #[zI 0] 28)).heap.size 0 none))] aO.drew (λAM bH=>(∃r2:zT,AM=.returned (zS r2)/\aH7 bH/\aH7 (bH.alloc (.cells #[zI 0,zS r2] 203))/\∃xs2 Mm:List Value,aV (bH.alloc (.cells #[zI 0,zS r2] 203)) 0 203 2 (zL mX pn AO) pn xs2/\Mm.length=1*2/\(∀qv:Value,qv∈Mm->qv.oneCell'=true)/\(0<1->∃a2:Addr,(some (zA bH 0))=some a2/\∀(j:Nat)(u:Value),Mm[j]?=some u->(bH.alloc (.cells #[zI 0,zS r2] 203)).cell? (a2.add j)=some u)/\pn+1<=9223372036854775807/\(pn+1)*24<=140737488355328/\∀(p2:zO)(EI:Nat)(bQ:zW),aV bQ 0 203 2 (Value.slice p2 (pn+1) EI) (pn+1) (xs2++Mm)->(bH.alloc (.cells #[zI 0,zS r2] 203)).grownBy bQ (Value.ownBlock (Value.slice mX pn AO))->aI4 mX p2 (pn+1) AO EI (bH.alloc (.cells #[zI 0,zS r2] 203)).heap.size->Wr bQ (zA w 0)/\xI (bQ.setCell (zA w 0) (zL p2 (pn+1) EI))/\m (bQ.setCell (zA w 0) (zL p2 (pn+1) EI))<m w1)\/(∃aJ7,AM=.panicked aJ7/\CallsD aM zn #[zP (some (zA w 0)),zP (some (Addr.mk (w.alloc (.cells #[zN] 126)).heap.size 0 none))] (.panicking aJ7) bH (λAy Iz bW=>(∃IA,Ay=.returned IA)/\settle Iz=.returning/\aH8 bW (zA w 0) λoG IJ Nr=>bZ bW (Addr.mk (w.alloc (.cells #[zN] 126)).heap.size 0 none) λpe=>zR R (.tuple #[zL oG IJ Nr,zI pe]) bW)))))\/(∃AK,aJw=.panicked AK/\CallsD aM zn #[zP (some (zA w 0)),zP (some (Addr.mk (w.alloc (.cells #[zN] 126)).heap.size 0 none))] (.panicking AK) aO (λAz IB aH_=>(∃IC,Az=.returned IC)/\settle IB=.returning/\aH8 aH_ (zA w 0) λpg Vu vC9=>bZ aH_ (Addr.mk (w.alloc (.cells #[zN] 126)).heap.size 0 none) λrO=>zR R (.tuple #[zL pg Vu vC9,zI rO]) aH_))))))) (aH8 w1 (zA w 0) λqJ ML Uu=>Wr w1 (zA w 0)/\Wr (w1.setCell (zA w 0) (zL qJ ML Uu)) (Addr.mk (w.alloc (.cells #[zN] 126)).heap.size 0 none)/\CallsD aM zn #[zP (some (zA w 0)),zP (some (Addr.mk (w.alloc (.cells #[zN] 126)).heap.size 0 none))] .returning ((w1.setCell (zA w 0) (zL qJ ML Uu)).setCell (Addr.mk (w.alloc (.cells #[zN] 126)).heap.size 0 none) (zI 0)) (λUv ID cB=>(∃IE,Uv=.returned IE)/\settle ID=.returning/\aH8 cB (zA w 0) λv20 ayP ayQ=>bZ cB (Addr.mk (w.alloc (.cells #[zN] 126)).heap.size 0 none) λv21=>zR R (.tuple #[zL v20 ayP ayQ,zI v21]) cB)))
def amv(s:zT)(aD:Qu s w R):aH3 Qk #[zS s] w R:=
 Bw {live:=[(124,[]),(3978,[(29,(.leaf .bool))])],ja:=[(16,.held),(7,.held)]} Tryz.func52 rfl (Eq.mp (α:=Qu s w R) (by kernel_rfl) aD)
def akJ(p:zO)(depth:Int)(aD:zM w [zI 0,zB false,zS [],zN,zN,zN,zN,zN] 66 λw1=>zX w1 [zI 0,zB false,zS [],zN,zN,zN,zN,zN] 66 [zI 3,zB false,zS [],zN,zN,zN,zN,zN] λw3=>bG Bf [zP p] w3 R λw4=>sQ w4 λxI m w5=>eE Pp [zP p] w5 R λr w6=>ak (! r) (zH w6.drew λSw=>gi Sw (zA w1 7) λv vL vC=>Cc O_ [zP p,zI depth] w6.drew R λaIb nR rName nG aIO nD ny nu nv nE nA nB nS nK nL nM nH nI w7=>Sw w7/\zM w7 [zI aIb,zB nR,zS rName,zL nG aIO nD,zL ny nu nv,zL nE nA nB,zL nS nK nL,zL nM nH nI] 66 λw8=>Sw w8/\dA w8 66 8 152 v vL vC (some (zA w7 0)) 1 (λp1 cp w9=>zC (zA w1 7) w9 [zL p1 (vL+1) cp] λaO=>eE C7 [zP p,zI 1,zS [59]] aO R λr1 aX=>ak (! r1) (zM aX [zS [10]] 9 λaH4=>eE vN [zP p,zI 2,zL (some (zA aX 0)) 1 1] aH4 R λr2 bl=>ak (! r2) (iJ bl w1.heap.size λcF fO cI fH fE fF fB fy fA fG aIn aIo fP fK aIp fM fI fJ=>zC (zA w 0) bl [zI cF,zB fO,zS cI,zL fH fE fF,zL fB fy fA,zL fG aIn aIo,zL fP fK aIp,zL fM fI fJ] λbH=>iJ bH w.heap.size λaIi kE eP kj kf kg j9 j7 j8 ki j_ ke kF kz kA kB ko kr=>zR R (.agg #[zI aIi,zB kE,zS eP,zL kj kf kg,zL j9 j7 j8,zL ki j_ ke,zL kF kz kA,zL kB ko kr]) bH) (bG Bf [zP p] bl R λbQ=>xI bQ/\m bQ<m w5)) (bG Bf [zP p] aX R λbW=>xI bW/\m bW<m w5))) (iJ w6 w1.heap.size λmO uI kV tV tN tO tH tB aJQ tP tI tJ uJ aJX uq aJY tW tX=>zC (zA w 0) w6 [zI mO,zB uI,zS kV,zL tV tN tO,zL tH tB aJQ,zL tP tI tJ,zL uJ aJX uq,zL aJY tW tX] λaH_=>iJ aH_ w.heap.size λq_ uK pS tY tQ tR tK tD aJR aJS tL tM uL uu aJZ aJ0 tZ t_=>zR R (.agg #[zI q_,zB uK,zS pS,zL tY tQ tR,zL tK tD aJR,zL aJS tL tM,zL uL uu aJZ,zL aJ0 tZ t_]) aH_)):aH3 Pm #[zP p,zI depth] w R:=
 aU [(58,[])] [(5,.held)] Tryz.func54 rfl aD
def amT(ok:Bool)(aD:ak (! ok) (R (.panicked [{v:=(.iface 28 (zI 100)),recovered:=false}]) w) (zR R (.tuple #[]) w)):aH3 Dr #[zB ok] w R:=
 aU [] [] Tryz.func55 rfl aD
def alX(lY:Int)(aIF:Bool)(lZ:zT)(lS:zO)(lP lQ:Nat)(lK:zO)(lI lJ:Nat)(lR:zO)(lM lN:Nat)(aIG:zO)(l5 l6:Nat)(l7:zO)(lT lU:Nat)(aD:zM w [zI lY,zB aIF,zS lZ,zL lS lP lQ,zL lK lI lJ,zL lR lM lN,zL aIG l5 l6,zL l7 lT lU] 66 λw1=>aH8 w1 (zA w 5) λv vL vC=>eW JB [zL v vL vC,.func (.func YG) #[] #[]] w1 R λr rL rC w2=>aH8 w2 (zA w 4) λv1 cM dW=>eW OM [zL v1 cM dW,.func (.func amM) #[] #[]] w2 R λr1 gj jT w3=>dA w3 9 1 16 r rL rC r1 gj (λp cp w4=>aH8 w4 (zA w 3) λv2 gB jS=>eW XD [zL v2 gB jS,.func (.func tv) #[] #[]] w4 R λr2 sU wY w5=>dA w5 9 1 16 p (rL+gj) cp r2 sU (λp1 jF w6=>b9 Ql [zL p1 ((rL+gj)+sU) jF] w6 R λr3 w7=>zR R (zS r3) w7))):aH3 FG #[.agg #[zI lY,zB aIF,zS lZ,zL lS lP lQ,zL lK lI lJ,zL lR lM lN,zL aIG l5 l6,zL l7 lT lU]] w R:=
 aU [] [] Tryz.func56 rfl aD
def amw(lY:Int)(aIF:Bool)(lZ:zT)(lS:zO)(lP lQ:Nat)(lK:zO)(lI lJ:Nat)(lR:zO)(lM lN:Nat)(aIG:zO)(l5 l6:Nat)(l7:zO)(lT lU:Nat)(aD:zM w [zI lY,zB aIF,zS lZ,zL lS lP lQ,zL lK lI lJ,zL lR lM lN,zL aIG l5 l6,zL l7 lT lU] 66 λw1=>aH8 w1 (zA w 7) λv vL vC=>eW XE [zL v vL vC,.func (.func Di) #[] #[]] w1 R λr rL rC w2=>b9 zw [zL r rL rC,zS [59,32]] w2 R λr1 w3=>zR R (zS r1) w3):aH3 Ko #[.agg #[zI lY,zB aIF,zS lZ,zL lS lP lQ,zL lK lI lJ,zL lR lM lN,zL aIG l5 l6,zL l7 lT lU]] w R:=
 aU [] [] Tryz.func59 rfl aD
def amx(l:zO)(lL lC:Nat)(w:zW)(R:zE)(aD:b9 zw [zL l lL lC,zS [32]] w R λr w1=>zR R (zS r) w1):aH3 Ql #[zL l lL lC] w R:=
 aU [] [] Tryz.func68 rfl aD
def ajU(l:zO)(lL lC:Nat)(f:Value)(aD:0<=(lL:Int)/\(lL:Int)<=(lL:Int)/\16*(lL:Int)<=281474976710656/\(lL:Int)<=9223372036854775807/\cS (w.alloc (.cells (madeCells #[zS []] (Int.toNat (lL:Int)*1)) 9)) (λw1=>aIv 0 w1 λxI m x w2=>ak (decide (x<(lL:Int))) (zD x lL (az l (λa=>Iv w2 (a.add (Int.toNat x*2)) λkZ kW kT kU=>zX w2 [zS [],zN] 138 [zS kZ,zL kW kT kU] λw4=>wP w4 w2.heap.size λCg BR BE BF=>gN f (λg first cap=>ak (dP aM g) (aH3 g ⟨first++([.agg #[zS Cg,zL BR BE BF]]++cap)⟩ w4 (λed w5=>(∃r:zT,ed=.returned (zS r)/\zD x (Int.toNat (lL:Int)) (zC ((zA w 0).add (Int.toNat x*1)) w5 [zS r] λw6=>xI (i64.wrap (x+1)) w6/\m (i64.wrap (x+1)) w6<m x w2))\/(∃ch,ed=.panicked ch/\R (.panicked ch) w5))) False)))) (zR R (zL (some (zA w 0)) (Int.toNat (lL:Int)) (Int.toNat (lL:Int))) w2))):aH3 JB #[zL l lL lC,f] w R:=
 aU [(58,[(13,(.leaf (.int .i64)))])] [] Tryz.func69 rfl aD
def alF(aD:zM w [zS [60,60],zS [62,62],zS [60,61],zS [62,61],zS [61,61],zS [33,61],zS [38,38],zS [124,124],zS [43,61],zS [45,61],zS [42,61],zS [47,61],zS [37,61],zS [43],zS [45],zS [42],zS [47],zS [37],zS [60],zS [62],zS [38],zS [124],zS [94],zS [63],zS [58],zS [61],zS [33],zS [126],zS [40],zS [41]] 9 λw1=>zR R (zL (some (zA w 0)) 30 30) w1):aH3 PW #[] w R:=
 aU [] [] Tryz.func72 rfl aD
def ajY(p:zO)(aD:b9 De [zP p] w R λr w1=>az p (λa=>aH6 w1 a λv=>b9 Br [zS v] w1 R λr1 w2=>az p (λa1=>aH6 w2 a1 λv1=>0<=(r1.length:Int)/\(r1.length:Int)<=v1.length/\zM w2 [zS (v1.drop (Int.toNat (r1.length:Int)))] 72 λw3=>zM w3 [zS [61],zS [43,61],zS [45,61],zS [42,61],zS [47,61],zS [37,61]] 9 λw4=>b9 aKd [zP (some (zA w2 0)),zL (some (zA w3 0)) 6 6] w4 R λr2 w5=>ak (decide (r1=[])) (zR R (.tuple #[zS [],zS [],zB false]) w5) (ak (decide (r2=[])) (zR R (.tuple #[zS [],zS [],zB false]) w5) (aH6 w5 (zA w2 0) λv2=>az p (λa2=>zC a2 w5 [zS v2] λw6=>zR R (.tuple #[zS r1,zS r2,zB true]) w6)))))):aH3 OQ #[zP p] w R:=
 aU [] [] Tryz.func74 rfl aD
def akj(p:zO)(depth:Int)(aD:ie Fu [zP p,zI 0,zI depth] w R λr w1=>zM w1 [zS [63]] 9 λw2=>b9 aKd [zP p,zL (some (zA w1 0)) 1 1] w2 R λr1 w3=>ak (decide (r1=[])) (zR R (zP r) w3) (ie C9 [zP p,zI (i64.wrap (depth+1))] w3 R λr2 w4=>zM w4 [zS [58]] 9 λw5=>b9 aKd [zP p,zL (some (zA w4 0)) 1 1] w5 R λr3 w6=>bG aJz [zB (! (decide (r3=[]))),zI 130] w6 R λw7=>ie JL [zP p,zI (i64.wrap (depth+1))] w7 R λr4 w8=>zM w8 [zP r,zP r2,zP r4] 74 λw9=>zM w9 [zI 6,zI 0,zS [],zS [],zL (some (zA w8 0)) 3 3] 147 λaO=>zR R (zP (some (zA w9 0))) aO)):aH3 JL #[zP p,zI depth] w R:=
 aU [] [] Tryz.func76 rfl aD
def amy(op:zT)(a b:Int)(aD:iI (λxJ=>ak (! decide (b=0)) (bG aJz [zB true,zI 131] w R λw1=>xJ w1) (ak (! (decide (op=[47]))) (bG aJz [zB (! (decide (op=[37]))),zI 131] w R λw2=>xJ w2) (bG aJz [zB false,zI 131] w R λw3=>xJ w3))) λw4=>ak (decide (op=[43])) (zR R (zI (i64.wrap (a+b))) w4) (ak (decide (op=[45])) (zR R (zI (i64.wrap (a-b))) w4) (ak (decide (op=[42])) (zR R (zI (i64.wrap (a*b))) w4) (ak (decide (op=[47])) (b≠0/\zR R (zI (i64.wrap (Int.tdiv a b))) w4) (ak (decide (op=[37])) (b≠0/\zR R (zI (Int.tmod a b)) w4) (ak (decide (op=[60,60])) (0<=(bits .and .u64 (u64.wrap b) 63)/\zR R (zI (i64.wrap (a*2^(min (Int.toNat (bits .and .u64 (u64.wrap b) 63)) i64.bits)))) w4) (ak (decide (op=[62,62])) (0<=(bits .and .u64 (u64.wrap b) 63)/\zR R (zI (Int.fdiv a (2^(min (Int.toNat (bits .and .u64 (u64.wrap b) 63)) i64.bits)))) w4) (ak (decide (op=[38])) (zR R (zI (bits .and .i64 a b)) w4) (ak (decide (op=[124])) (zR R (zI (bits .or .i64 a b)) w4) (ak (decide (op=[94])) (zR R (zI (bits .xor .i64 a b)) w4) (AJ (λaY=>ak (decide (op=[61,61])) (ak (decide (a=b)) (bt bU [zB true] w4 R λr w5=>aY r w5) (ak (decide (op=[33,61])) (ak (! decide (a=b)) (bt bU [zB true] w4 R λr1 w6=>aY r1 w6) (ak (decide (op=[60])) (ak (decide (a<b)) (bt bU [zB true] w4 R λr2 w7=>aY r2 w7) (ak (decide (op=[60,61])) (ak (decide (a<=b)) (bt bU [zB true] w4 R λr3 w8=>aY r3 w8) (ak (decide (op=[62])) (ak (decide (b<a)) (bt bU [zB true] w4 R λr4 w9=>aY r4 w9) (ak (decide (op=[62,61])) (bt bU [zB (decide (b<=a))] w4 R λr5 aO=>aY r5 aO) (bt bU [zB false] w4 R λr6 aX=>aY r6 aX))) (ak (decide (op=[62,61])) (bt bU [zB (decide (b<=a))] w4 R λr7 aH4=>aY r7 aH4) (bt bU [zB false] w4 R λr8 bl=>aY r8 bl)))) (ak (decide (op=[62])) (ak (decide (b<a)) (bt bU [zB true] w4 R λr9 bH=>aY r9 bH) (ak (decide (op=[62,61])) (bt bU [zB (decide (b<=a))] w4 R λaIe bQ=>aY aIe bQ) (bt bU [zB false] w4 R λaIk bW=>aY aIk bW))) (ak (decide (op=[62,61])) (bt bU [zB (decide (b<=a))] w4 R λey aH_=>aY ey aH_) (bt bU [zB false] w4 R λjE cB=>aY jE cB))))) (ak (decide (op=[60,61])) (ak (decide (a<=b)) (bt bU [zB true] w4 R λaI8 dM=>aY aI8 dM) (ak (decide (op=[62])) (ak (decide (b<a)) (bt bU [zB true] w4 R λqK eF=>aY qK eF) (ak (decide (op=[62,61])) (bt bU [zB (decide (b<=a))] w4 R λr16 eL=>aY r16 eL) (bt bU [zB false] w4 R λaI9 aIf=>aY aI9 aIf))) (ak (decide (op=[62,61])) (bt bU [zB (decide (b<=a))] w4 R λwX kI=>aY wX kI) (bt bU [zB false] w4 R λsS je=>aY sS je)))) (ak (decide (op=[62])) (ak (decide (b<a)) (bt bU [zB true] w4 R λqM mZ=>aY qM mZ) (ak (decide (op=[62,61])) (bt bU [zB (decide (b<=a))] w4 R λCx oE=>aY Cx oE) (bt bU [zB false] w4 R λyL pq=>aY yL pq))) (ak (decide (op=[62,61])) (bt bU [zB (decide (b<=a))] w4 R λCy vi=>aY Cy vi) (bt bU [zB false] w4 R λNs IK=>aY Ns IK)))))) (ak (decide (op=[60])) (ak (decide (a<b)) (bt bU [zB true] w4 R λCz n_=>aY Cz n_) (ak (decide (op=[60,61])) (ak (decide (a<=b)) (bt bU [zB true] w4 R λAR AP=>aY AR AP) (ak (decide (op=[62])) (ak (decide (b<a)) (bt bU [zB true] w4 R λAS Nq=>aY AS Nq) (ak (decide (op=[62,61])) (bt bU [zB (decide (b<=a))] w4 R λr28 Vo=>aY r28 Vo) (bt bU [zB false] w4 R λVA Vp=>aY VA Vp))) (ak (decide (op=[62,61])) (bt bU [zB (decide (b<=a))] w4 R λwZ gC=>aY wZ gC) (bt bU [zB false] w4 R λr31 w36=>aY r31 w36)))) (ak (decide (op=[62])) (ak (decide (b<a)) (bt bU [zB true] w4 R λr32 AQ=>aY r32 AQ) (ak (decide (op=[62,61])) (bt bU [zB (decide (b<=a))] w4 R λr33 EG=>aY r33 EG) (bt bU [zB false] w4 R λr34 Cu=>aY r34 Cu))) (ak (decide (op=[62,61])) (bt bU [zB (decide (b<=a))] w4 R λNt IG=>aY Nt IG) (bt bU [zB false] w4 R λVB II=>aY VB II))))) (ak (decide (op=[60,61])) (ak (decide (a<=b)) (bt bU [zB true] w4 R λNu Cw=>aY Nu Cw) (ak (decide (op=[62])) (ak (decide (b<a)) (bt bU [zB true] w4 R λVC EH=>aY VC EH) (ak (decide (op=[62,61])) (bt bU [zB (decide (b<=a))] w4 R λVD w44=>aY VD w44) (bt bU [zB false] w4 R λVE w45=>aY VE w45))) (ak (decide (op=[62,61])) (bt bU [zB (decide (b<=a))] w4 R λVF w46=>aY VF w46) (bt bU [zB false] w4 R λrQ w47=>aY rQ w47)))) (ak (decide (op=[62])) (ak (decide (b<a)) (bt bU [zB true] w4 R λrR w48=>aY rR w48) (ak (decide (op=[62,61])) (bt bU [zB (decide (b<=a))] w4 R λr44 w49=>aY r44 w49) (bt bU [zB false] w4 R λr45 w50=>aY r45 w50))) (ak (decide (op=[62,61])) (bt bU [zB (decide (b<=a))] w4 R λr46 w51=>aY r46 w51) (bt bU [zB false] w4 R λr47 w52=>aY r47 w52))))))) (ak (decide (op=[33,61])) (ak (! decide (a=b)) (bt bU [zB true] w4 R λr48 w53=>aY r48 w53) (ak (decide (op=[60])) (ak (decide (a<b)) (bt bU [zB true] w4 R λr49 w54=>aY r49 w54) (ak (decide (op=[60,61])) (ak (decide (a<=b)) (bt bU [zB true] w4 R λr50 w55=>aY r50 w55) (ak (decide (op=[62])) (ak (decide (b<a)) (bt bU [zB true] w4 R λr51 w56=>aY r51 w56) (ak (decide (op=[62,61])) (bt bU [zB (decide (b<=a))] w4 R λr52 w57=>aY r52 w57) (bt bU [zB false] w4 R λr53 w58=>aY r53 w58))) (ak (decide (op=[62,61])) (bt bU [zB (decide (b<=a))] w4 R λr54 w59=>aY r54 w59) (bt bU [zB false] w4 R λr55 w60=>aY r55 w60)))) (ak (decide (op=[62])) (ak (decide (b<a)) (bt bU [zB true] w4 R λr56 w61=>aY r56 w61) (ak (decide (op=[62,61])) (bt bU [zB (decide (b<=a))] w4 R λr57 w62=>aY r57 w62) (bt bU [zB false] w4 R λr58 w63=>aY r58 w63))) (ak (decide (op=[62,61])) (bt bU [zB (decide (b<=a))] w4 R λr59 w64=>aY r59 w64) (bt bU [zB false] w4 R λr60 w65=>aY r60 w65))))) (ak (decide (op=[60,61])) (ak (decide (a<=b)) (bt bU [zB true] w4 R λr61 w66=>aY r61 w66) (ak (decide (op=[62])) (ak (decide (b<a)) (bt bU [zB true] w4 R λr62 w67=>aY r62 w67) (ak (decide (op=[62,61])) (bt bU [zB (decide (b<=a))] w4 R λr63 w68=>aY r63 w68) (bt bU [zB false] w4 R λr64 w69=>aY r64 w69))) (ak (decide (op=[62,61])) (bt bU [zB (decide (b<=a))] w4 R λr65 w70=>aY r65 w70) (bt bU [zB false] w4 R λr66 w71=>aY r66 w71)))) (ak (decide (op=[62])) (ak (decide (b<a)) (bt bU [zB true] w4 R λIL w72=>aY IL w72) (ak (decide (op=[62,61])) (bt bU [zB (decide (b<=a))] w4 R λr68 w73=>aY r68 w73) (bt bU [zB false] w4 R λr69 w74=>aY r69 w74))) (ak (decide (op=[62,61])) (bt bU [zB (decide (b<=a))] w4 R λr70 w75=>aY r70 w75) (bt bU [zB false] w4 R λr71 w76=>aY r71 w76)))))) (ak (decide (op=[60])) (ak (decide (a<b)) (bt bU [zB true] w4 R λr72 w77=>aY r72 w77) (ak (decide (op=[60,61])) (ak (decide (a<=b)) (bt bU [zB true] w4 R λr73 w78=>aY r73 w78) (ak (decide (op=[62])) (ak (decide (b<a)) (bt bU [zB true] w4 R λr74 w79=>aY r74 w79) (ak (decide (op=[62,61])) (bt bU [zB (decide (b<=a))] w4 R λr75 w80=>aY r75 w80) (bt bU [zB false] w4 R λr76 w81=>aY r76 w81))) (ak (decide (op=[62,61])) (bt bU [zB (decide (b<=a))] w4 R λr77 w82=>aY r77 w82) (bt bU [zB false] w4 R λr78 w83=>aY r78 w83)))) (ak (decide (op=[62])) (ak (decide (b<a)) (bt bU [zB true] w4 R λr79 w84=>aY r79 w84) (ak (decide (op=[62,61])) (bt bU [zB (decide (b<=a))] w4 R λr80 w85=>aY r80 w85) (bt bU [zB false] w4 R λr81 w86=>aY r81 w86))) (ak (decide (op=[62,61])) (bt bU [zB (decide (b<=a))] w4 R λr82 w87=>aY r82 w87) (bt bU [zB false] w4 R λr83 w88=>aY r83 w88))))) (ak (decide (op=[60,61])) (ak (decide (a<=b)) (bt bU [zB true] w4 R λr84 w89=>aY r84 w89) (ak (decide (op=[62])) (ak (decide (b<a)) (bt bU [zB true] w4 R λr85 w90=>aY r85 w90) (ak (decide (op=[62,61])) (bt bU [zB (decide (b<=a))] w4 R λr86 w91=>aY r86 w91) (bt bU [zB false] w4 R λr87 w92=>aY r87 w92))) (ak (decide (op=[62,61])) (bt bU [zB (decide (b<=a))] w4 R λr88 w93=>aY r88 w93) (bt bU [zB false] w4 R λr89 w94=>aY r89 w94)))) (ak (decide (op=[62])) (ak (decide (b<a)) (bt bU [zB true] w4 R λr90 w95=>aY r90 w95) (ak (decide (op=[62,61])) (bt bU [zB (decide (b<=a))] w4 R λr91 w96=>aY r91 w96) (bt bU [zB false] w4 R λr92 w97=>aY r92 w97))) (ak (decide (op=[62,61])) (bt bU [zB (decide (b<=a))] w4 R λr93 w98=>aY r93 w98) (bt bU [zB false] w4 R λr94 w99=>aY r94 w99))))))) λx ayR=>zR R (zI x) ayR))))))))))):aH3 Kp #[zS op,zI a,zI b] w R:=
 aU [(3,[]),(15,[(6,(.leaf (.int .i64)))])] [] Tryz.func79 rfl aD
end Go.Proofs.YtihaaoehhgmphaaGreatDoor
