/- Texts of one proof, one behind the other. Conditions: as each theorem names them. -/
import Derived.Test.YtihaaoehhgmphaaGreatDoorQ1
import Derived.Defers
import Derived.Recover
import Derived.RangeFuncRecord
import Derived.OrdersIn
import Derived.Test.YtihaaoehhgmphaaGreatDoorProg
set_option linter.all false
namespace Go.Proofs
noncomputable abbrev aM:=Tryz.prog
abbrev aq:=Calls Tryz.prog
end Go.Proofs
namespace Go.Proofs.YtihaaoehhgmphaaGreatDoor.Vc
open IntKind Go.RowKit
def Ec:List Oper->Option (List Oper×Oper×Operand×List Operand)
 |[]=>none
 |[o]=>match o.op with
  |.defer ⟨.value f,⟨xs⟩,_⟩=>some ([],o,f,xs)
  |_=>none
 |o::r=>match Ec r with
  |some (pre,d,f,xs)=>some (o::pre,d,f,xs)
  |none=>none
def AT(ws:List Nat):List ResultVar->Bool
 |[]=>true
 |.tmp t::r=>!(ws.contains t)&&AT ws r
 |.cell a _::r=>!(ws.contains a)&&AT ws r
def Mx(P:Program)(rs:List ResultVar)(R:Ending->World->Prop)(g:FuncId)(dargs:List Value)(l0:Fr):CF where
 normal:=λl w=>CallsD P g ⟨dargs⟩ .returning w λe u' w'=>(∃v,e=.returned v)/\settle u'=.returning/\aIB P w' rs l λvs=>R (.returned (xm vs)) w'
 exit:=λ_ _ _=>False
 ret:=λl w=>CallsD P g ⟨dargs⟩ .returning w λe u' w'=>(∃v,e=.returned v)/\settle u'=.returning/\aIB P w' rs l λvs=>R (.returned (xm vs)) w'
 panic:=λc w=>CallsD P g ⟨dargs⟩ (.panicking c) w λe u' w'=>(∃v,e=.returned v)/\settle u'=.returning/\aIB P w' rs l0 λvs=>R (.returned (xm vs)) w'
def Uq(P:Program)(rs:List ResultVar)(R:Ending->World->Prop)(g:FuncId)(dargs:List Value)(l0:Fr):CF:={Mx P rs R g dargs l0 with panic:=λ_ _=>False}
def zk(P:Program)(pl:nX)(rs:List ResultVar)(R:Ending->World->Prop):Code->Nat->Fr->World->Prop
 |.seq a b,p,l,w=>match a with
  |.region _ ⟨ops⟩ false=>match Ec ops with
   |some (pre,d,f,xs)=>aI9 P ops (λl' w'=>cR l' f λfv=>gu fv λg first cap=>xj l' xs λvs=>an (dD P g&&d.guard.isNone&&d.dst.isNone) (an (AT (written b) rs) (vc P pl b (2*p+1) (Mx P rs R g (first++(vs++cap)) l') l' w') (vc P pl b (2*p+1) (Uq P rs R g (first++(vs++cap)) l') l' w')) False)
     (λc w'=>R (.panicked c) w') pre l w
   |none=>aI9 P ops (λl' w'=>zk P pl rs R b (2*p+1) l' w') (λc w'=>R (.panicked c) w') ops l w
  |a=>vc P pl a (2*p) {kL P rs R with normal:=λl' w'=>zk P pl rs R b (2*p+1) l' w'} l w
 |c,p,l,w=>vc P pl c p (kL P rs R) l w
def RY:∀{ops pre:List Oper} {d:Oper} {f:Operand} {xs:List Operand},Ec ops=some (pre,d,f,xs)->ops=pre++[d]/\∃ts,d.op=.defer ⟨.value f,⟨xs⟩,ts⟩
 |[],_,_,_,_,h=>by cases h
 |[o],pre,d,f,xs,h=>by
  simp only[Ec]at h;split at h
  .rename_i f' xs' ts ho
   simp only[F7,aIN]at h;obtain⟨rfl,rfl,rfl,rfl⟩:=h;exact⟨rfl,ts,ho⟩
  .cases h
 |o::o2::r,pre,d,f,xs,h=>by
  simp only[Ec]at h;split at h
  .rename_i pre' d' f' xs' h2
   simp only[F7,aIN]at h;obtain⟨rfl,rfl,rfl,rfl⟩:=h;obtain⟨h3,h4⟩:=RY (ops:=o2::r) h2;exact⟨by rw[h3];rfl,h4⟩
  .cases h
def abR{α:Type}{f g:α->Sem Value}:∀{rs:List α},(∀r∈rs,f r=g r)->rs.mapM f=rs.mapM g
 |[],_=>rfl
 |r::rs,h=>by rw[yf,yf,h r (by simp),abR λx hx=>h x (by simp[hx])]
def at7{ws:List Nat}{l l':Fr}{ds:List Deferred}(ha:cu ws l l'):∀{rs:List ResultVar},AT ws rs=true->∀r∈rs,aJC (act l ds).tmps r=aJC (act l' ds).tmps r:=by
 have get:∀t,(!(ws.contains t))=true->(act l ds).tmps.getD t undef=(act l' ds).tmps.getD t undef:=by
  intro t ht;have hn:t∉ws:=by simpa using ht
  have h2:=ha.2 t hn;simp only[act,J3,BN,h2]
 intro rs
 induction rs with
 |nil=>intro _ r hr;cases hr
 |cons x rs ih=>
  intro h r hr;cases x with
  |tmp t=>
   simp only[AT,aHo]at h;rcases aHs.1 hr with rfl|hr
   .simp only[aJC,get t h.1]
   .exact ih h.2 r hr
  |cell a t=>
   simp only[AT,aHo]at h;rcases aHs.1 hr with rfl|hr
   .simp only[aJC,get a h.1]
   .exact ih h.2 r hr
def apA{fn:Func}{ws:List Nat}{l l':Fr}{ds:List Deferred}(ha:cu ws l l')(h:AT ws fn.results.toList=true):results fn (act l ds).tmps=results fn (act l' ds).tmps:=by
 have e:∀tmps:Array Value,results fn tmps=(do
   let vs<-fn.results.mapM (aJC tmps)
   pure (if h:vs.size=1 then vs[0]else .tuple vs)):=by
  intro tmps;unfold results;congr 2
 rw[e,e,J8,J8,abR (at7 ha h)]
def abS{P:Program}{ops:List Oper}{ds:List Deferred}{K:Fr->World->Prop}{E:List PanicEntry->World->Prop}{Q:Exit->Act->World->Prop}{rest:List Oper}(hE:∀l' c w',E c w'->Q (.panic c) (act l' ds) w'):
  ∀{pre:List Oper} {l:Fr} {w:World},aI9 P ops K E pre l w->(∀l' w',K l' w'->wpList P ⟨ops⟩ Q rest (act l' ds) w')->wpList P ⟨ops⟩ Q (pre++rest) (act l ds) w:=by
 intro pre
 induction pre with
 |nil=>intro l w h hK;exact hK l w h
 |cons o r ih=>
  intro l w h hK;have next:∀v w',aI9 P ops K E r (put l o.dst v) w'->wpList P ⟨ops⟩ Q (r++rest) ((act l ds).put o.dst v) w':=by intro v w' h;rw[wV];exact ih h hK
  rw[BX];unfold wpList;rcases yo (ds:=ds) h with⟨hw,h⟩|⟨hw,h⟩
  .rw[aL hw]
   exact .inl (Sq h (λv w' hk=>next v w' (kX hk)) (λc w' he=>hE l c w' he))
  .rw[aG (by simp[hw])]
   exact next undef w (kX h)
def abT{P:Program}{l:Fr}{ds:List Deferred}{o:Oper}{f:Operand}{xs:List Operand}{ts:Array TypeId}(ho:o.op=.defer ⟨.value f,⟨xs⟩,ts⟩){g:FuncId}{first cap:List Value}
  (hf:(act l ds).eval f=.func (.func g) ⟨first⟩ ⟨cap⟩)(w:World):
  (execOp (act l ds).eval o).run P w=.ok (.defer {target:=.fn (.func g) ⟨cap⟩,args:=⟨first++xs.map (act l ds).eval⟩}) w:=by
 have e:({toList:=first}:Array Value)++Array.map (act l ds).eval {toList:=xs}=⟨first++xs.map (act l ds).eval⟩:=by apply jF;simp
 simp only[execOp,ho,resolve,hf,Deferred.ofValue,Sem.run_bind,Sem.run_pure,Result.andThen_ok];rw[e]
def Ap:Code->Bool
 |.region _ ⟨ops⟩ _=>ops.any λo=>match o.op with
  |.defer _=>true
  |_=>false
 |.seq a b=>Ap a||Ap b
 |.cond _ a b=>Ap a||Ap b
 |_=>false
def xo(P:Program)(Q:Exit->Act->World->Prop):List Code->Act->World->Prop
 |[]=>Q .normal
 |c::r=>c.wp P (Exit.then (xo P Q r) Q)
def We(P:Program)(pl:nX)(C:CF):List (Code×Nat)->Fr->World->Prop
 |[],l,w=>C.normal l w
 |(c,p)::r,l,w=>vc P pl c p {C with normal:=λl' w'=>We P pl C r l' w'} l w
def vq(P:Program)(pl:nX)(rs:List ResultVar)(R:Ending->World->Prop):Nat->List (Code×Nat)->Fr->World->Prop
 |0,_,_,_=>False
 |_+1,[],l,w=>(kL P rs R).normal l w
 |n+1,(c,p)::r,l,w=>match c with
  |.seq a b=>an (Ap (.seq a b)) (vq P pl rs R n ((a,2*p)::(b,2*p+1)::r) l w) (vc P pl (.seq a b) p {kL P rs R with normal:=λl' w'=>vq P pl rs R n r l' w'} l w)
  |.cond v x y=>an (Ap (.cond v x y)) (cR l v λv=>match v with
    |.bool t=>an t (vq P pl rs R n ((x,2*p)::r) l w) (vq P pl rs R n ((y,2*p+1)::r) l w)
    |_=>False) (vc P pl (.cond v x y) p {kL P rs R with normal:=λl' w'=>vq P pl rs R n r l' w'} l w)
  |.region id ⟨ops⟩ false=>match Ec ops with
   |some (pre,d,f,xs)=>aI9 P ops (λl' w'=>cR l' f λfv=>gu fv λg first cap=>xj l' xs λvs=>an (dD P g&&d.guard.isNone&&d.dst.isNone) (We P pl (Uq P rs R g (first++(vs++cap)) l') r l' w') False)
     (λc w'=>R (.panicked c) w') pre l w
   |none=>vc P pl (.region id ⟨ops⟩ false) p {kL P rs R with normal:=λl' w'=>vq P pl rs R n r l' w'} l w
  |c=>vc P pl c p {kL P rs R with normal:=λl' w'=>vq P pl rs R n r l' w'} l w
def asu{P:Program}{pl:nX}{fn:Func}{R:Ending->World->Prop}:∀(c:Code) (p:Nat) (l:Fr) (w:World),zk P pl fn.results.toList R c p l w->c.wp P (bodyPostD P fn R) (act l []) w:=by
 have plain:∀(c:Code) (p:Nat) (l:Fr) (w:World) (N:Fr->World->Prop) (Q:Exit->Act->World->Prop),vc P pl c p {kL P fn.results.toList R with normal:=N} l w->(∀l' w',N l' w'->Q .normal (act l' []) w')->
   (∀a w',bodyPostD P fn R .ret a w'->Q .ret a w')->(∀ch a w',bodyPostD P fn R (.panic ch) a w'->Q (.panic ch) a w')->c.wp P Q (act l []) w:=by
  intro c p l w N Q h hN hQr hQp;refine ny (ds:=[]) c p _ l w Q h (λl' w' _ hk=>hN l' w' hk) (λi l' w' _ hk=>hk.elim) (λl' w' hk=>hQr _ _ ?_) (λl' ch w' _ hk=>hQp _ _ _ hk);obtain⟨vs,h1,h2⟩:=o7 (ds:=[]) hk;exact⟨_,h1,h2⟩
 have ends:∀(c:Code) (p:Nat) (l:Fr) (w:World),vc P pl c p (kL P fn.results.toList R) l w->c.wp P (bodyPostD P fn R) (act l []) w:=by intro c p l w h;refine plain c p l w _ _ h (λl' w' hk=>?_) (λ_ _ h=>h) (λ_ _ _ h=>h);obtain⟨vs,h1,h2⟩:=o7 (ds:=[]) hk;exact⟨_,h1,h2⟩
 intro c
 induction c with
 |seq a b iha ihb=>
  intro p l w h;simp only[zk]at h;have CR:∀(N:Fr->World->Prop),vc P pl a (2*p) {kL P fn.results.toList R with normal:=N} l w->(∀l' w',N l' w'->b.wp P (bodyPostD P fn R) (act l' []) w')->(Code.seq a b).wp P (bodyPostD P fn R) (act l []) w:=by intro N h hN;refine wp_seq (plain a (2*p) l w N _ h (λl' w' hk=>hN l' w' hk) (λa w' hq=>hq) (λch a w' hq=>hq))
  split at h
  .rename_i id ops
   split at h
   .rename_i pre d f xs hcut
    obtain⟨Vp,ts,hd⟩:=RY hcut;refine wp_seq (wp_region_list ?_);have h2:wpList P ⟨ops⟩ (Exit.then (b.wp P (bodyPostD P fn R)) (bodyPostD P fn R)) (pre++[d]) (act l []) w:=by
     refine abS (λl' c w' he=>he) h λl' w' hk=>?_;obtain⟨g,first,cap,hf,hk⟩:=Gw (cM (ds:=[]) hk);have hk:=An (ds:=[]) hk;obtain⟨hb,hk⟩:=dZ hk;simp only[aHo]at hb;obtain⟨⟨HZ,hgd⟩,Vq⟩:=hb;have hg:d.guard=none:=by simpa using hgd
     have hds:d.dst=none:=by simpa using Vq
     unfold wpList;rw[aL (by simp[Region.wanted,hg])];refine .inl ?_;unfold Oper.wp;rw[abT hd hf,Oper.upon_defer,hds];show b.wp P (bodyPostD P fn R) (act l' [{target:=.fn (.func g) ⟨cap⟩,args:=⟨first++xs.map (act l' []).eval⟩}]) w'
     have inv:∀w:World,(invoke (.fn (.func g) ⟨cap⟩) ⟨first++xs.map (act l' []).eval⟩).run P w=.ok (.enter g ⟨first++(xs.map (act l' []).eval++cap)⟩) w:=by intro w;simp only[invoke];rw[Lj HZ];simp
     rw[gK]at hk;have Oj:∀l2 w2,(Mx P fn.results.toList R g (first++(xs.map (act l' []).eval++cap)) l').normal l2 w2->bodyPostD P fn R .normal (act l2 [{target:=.fn (.func g) ⟨cap⟩,args:=⟨first++xs.map (act l' []).eval⟩}]) w2:=λl2 w2 hk2=>by refine leaves_cons (by simp) (inv w2) (hk2.mono ?_);rintro e u' w3 ⟨⟨v,rfl⟩,hu,hr⟩;dsimp only;rw[hu];obtain⟨vs,h1,h2⟩:=o7 (ds:=[{target:=.fn (.func g) ⟨cap⟩,args:=⟨first++xs.map (act l' []).eval⟩}]) hr;exact⟨_,h1,h2⟩
     have Ny:∀l2 w2,(Mx P fn.results.toList R g (first++(xs.map (act l' []).eval++cap)) l').ret l2 w2->bodyPostD P fn R .ret (act l2 [{target:=.fn (.func g) ⟨cap⟩,args:=⟨first++xs.map (act l' []).eval⟩}]) w2:=λl2 w2 hk2=>by refine leaves_cons (by simp) (inv w2) (hk2.mono ?_);rintro e u' w3 ⟨⟨v,rfl⟩,hu,hr⟩;dsimp only;rw[hu];obtain⟨vs,h1,h2⟩:=o7 (ds:=[{target:=.fn (.func g) ⟨cap⟩,args:=⟨first++xs.map (act l' []).eval⟩}]) hr;exact⟨_,h1,h2⟩
     cases hoff:AT (written b) fn.results.toList with
     |false=>exact ny (ds:=[{target:=.fn (.func g) ⟨cap⟩,args:=⟨first++xs.map (act l' []).eval⟩}]) b _ _ l' w' _ (hk.2 hoff) (λl2 w2 _ hk2=>Oj l2 w2 hk2) (λi l2 w2 _ hk2=>hk2.elim) (λl2 w2 hk2=>Ny l2 w2 hk2) (λl2 ch w2 ha hk2=>hk2.elim)
     |true=>refine ny (ds:=[{target:=.fn (.func g) ⟨cap⟩,args:=⟨first++xs.map (act l' []).eval⟩}]) b _ _ l' w' _ (hk.1 hoff) (λl2 w2 _ hk2=>Oj l2 w2 hk2) (λi l2 w2 _ hk2=>hk2.elim) (λl2 w2 hk2=>Ny l2 w2 hk2) (λl2 ch w2 ha hk2=>?_);refine leaves_cons (by simp) (inv w2) (hk2.mono ?_);rintro e u' w3 ⟨⟨v,rfl⟩,hu,hr⟩;dsimp only;rw[hu];obtain⟨vs,h1,h2⟩:=o7 (ds:=[{target:=.fn (.func g) ⟨cap⟩,args:=⟨first++xs.map (act l' []).eval⟩}]) hr;rw[apA ha hoff]at h1;exact⟨_,h1,h2⟩
    rw[<-Vp]at h2;exact h2
   .refine CR (λl' w'=>zk P pl fn.results.toList R b (2*p+1) l' w') h (λl' w' hk=>ihb _ _ _ hk)
  .exact CR (λl' w'=>zk P pl fn.results.toList R b (2*p+1) l' w') h (λl' w' hk=>ihb _ _ _ hk)
 |_=>intro p l w h;exact ends _ p l w h
def asv(A X:Act->World->Prop)(Q:Exit->Act->World->Prop):Exit.then A (Exit.then X Q)=Exit.then A Q:=by funext e a w;cases e<;>rfl
def abU{P:Program}{pl:nX}{C:CF}{ds:List Deferred}{Q:Exit->Act->World->Prop}(hn:∀l w,C.normal l w->Q .normal (act l ds) w)(hx:∀i l w,C.exit i l w->Q (.exit i) (act l ds) w)(hr:∀l w,C.ret l w->Q .ret (act l ds) w)(hp:∀l ch w,C.panic ch w->Q (.panic ch) (act l ds) w):
  ∀(r:List (Code×Nat)) (l:Fr) (w:World),We P pl C r l w->xo P Q (r.map Prod.fst) (act l ds) w
 |[],l,w,h=>hn l w h
 |(c,p)::r,l,w,h=>ny (ds:=ds) c p _ l w (Exit.then (xo P Q (r.map Prod.fst)) Q) h (λl' w' _ hk=>abU hn hx hr hp r l' w' hk) (λi l' w' _ hk=>hx i l' w' hk) (λl' w' hk=>hr l' w' hk) (λl' ch w' _ hk=>hp l' ch w' hk)
def aqD{P:Program}{pl:nX}{fn:Func}{R:Ending->World->Prop}:∀(n:Nat) (r:List (Code×Nat)) (l:Fr) (w:World),vq P pl fn.results.toList R n r l w->xo P (bodyPostD P fn R) (r.map Prod.fst) (act l []) w:=by
 intro n
 induction n with
 |zero=>intro r l w h;exact h.elim
 |succ n ih=>
  intro r l w h;have fin:∀l w,(kL P fn.results.toList R).normal l w->bodyPostD P fn R .normal (act l []) w:=λl w h=>by obtain⟨vs,h1,h2⟩:=o7 (ds:=[]) h;exact⟨_,h1,h2⟩
  have Ny:∀l w,(kL P fn.results.toList R).ret l w->bodyPostD P fn R .ret (act l []) w:=λl w h=>by obtain⟨vs,h1,h2⟩:=o7 (ds:=[]) h;exact⟨_,h1,h2⟩
  have CR:∀(c:Code) (p:Nat) (r:List (Code×Nat)),vc P pl c p {kL P fn.results.toList R with normal:=λl' w'=>vq P pl fn.results.toList R n r l' w'} l w->xo P (bodyPostD P fn R) (c::r.map Prod.fst) (act l []) w:=λc p r h=>
   ny (ds:=[]) c p _ l w (Exit.then (xo P (bodyPostD P fn R) (r.map Prod.fst)) (bodyPostD P fn R)) h (λl' w' _ hk=>ih r l' w' hk) (λi l' w' _ hk=>hk.elim) (λl' w' hk=>Ny l' w' hk) (λl' ch w' _ hk=>hk)
  cases r with
  |nil=>exact fin l w h
  |cons x r=>
   obtain⟨c,p⟩:=x;simp only[vq]at h;split at h
   .rename_i a b
    rw[gK]at h;cases hd:Ap (Code.seq a b)with
    |true=>have h2:=ih _ _ _ (h.1 hd);simp only[gI,xo]at h2⊢;refine wp_seq ?_;rw[asv];exact h2
    |false=>exact CR _ _ _ (h.2 hd)
   .rename_i v x y
    rw[gK]at h;cases hd:Ap (Code.cond v x y)with
    |true=>
     have h:=cM (ds:=[]) (h.1 hd);split at h
     .rename_i t hv
      rw[gK]at h;refine wp_cond_split hv (λht=>?_) (λhf=>?_)
      .exact ih _ _ _ (h.1 ht)
      .exact ih _ _ _ (h.2 hf)
     .exact h.elim
    |false=>exact CR _ _ _ (h.2 hd)
   .rename_i id ops
    split at h
    .rename_i pre d f xs hcut
     obtain⟨Vp,ts,hd⟩:=RY hcut;refine wp_region_list ?_;have h2:wpList P ⟨ops⟩ (Exit.then (xo P (bodyPostD P fn R) (r.map Prod.fst)) (bodyPostD P fn R)) (pre++[d]) (act l []) w:=by
      refine abS (λl' c w' he=>he) h λl' w' hk=>?_;obtain⟨g,first,cap,hf,hk⟩:=Gw (cM (ds:=[]) hk);have hk:=An (ds:=[]) hk;obtain⟨hb,hk⟩:=dZ hk;simp only[aHo]at hb;obtain⟨⟨HZ,hgd⟩,Vq⟩:=hb;have hg:d.guard=none:=by simpa using hgd
      have hds:d.dst=none:=by simpa using Vq
      unfold wpList;rw[aL (by simp[Region.wanted,hg])];refine .inl ?_;unfold Oper.wp;rw[abT hd hf,Oper.upon_defer,hds];show xo P (bodyPostD P fn R) (r.map Prod.fst) (act l' [{target:=.fn (.func g) ⟨cap⟩,args:=⟨first++xs.map (act l' []).eval⟩}]) w'
      have inv:∀w:World,(invoke (.fn (.func g) ⟨cap⟩) ⟨first++xs.map (act l' []).eval⟩).run P w=.ok (.enter g ⟨first++(xs.map (act l' []).eval++cap)⟩) w:=by intro w;simp only[invoke];rw[Lj HZ];simp
      refine abU (C:=Uq P fn.results.toList R g (first++(xs.map (act l' []).eval++cap)) l') (λl2 w2 hk2=>?_) (λi l2 w2 hk2=>False.elim hk2) (λl2 w2 hk2=>?_) (λl2 ch w2 hk2=>False.elim hk2) r l' w' hk
      .refine leaves_cons (by simp) (inv w2) (hk2.mono ?_)
       rintro e u' w3 ⟨⟨v,rfl⟩,hu,hr⟩;dsimp only;rw[hu];obtain⟨vs,h1,h2⟩:=o7 (ds:=[{target:=.fn (.func g) ⟨cap⟩,args:=⟨first++xs.map (act l' []).eval⟩}]) hr;exact⟨_,h1,h2⟩
      .refine leaves_cons (by simp) (inv w2) (hk2.mono ?_)
       rintro e u' w3 ⟨⟨v,rfl⟩,hu,hr⟩;dsimp only;rw[hu];obtain⟨vs,h1,h2⟩:=o7 (ds:=[{target:=.fn (.func g) ⟨cap⟩,args:=⟨first++xs.map (act l' []).eval⟩}]) hr;exact⟨_,h1,h2⟩
     rw[<-Vp]at h2;exact h2
    .exact CR _ _ _ h
   .exact CR _ _ _ h
def aqE{P:Program}{f:FuncId}{fn:Func}{c:Code}{args:List Value}{w:World}{R:Ending->World->Prop}(pl:nX)(hf:P.funcs[f]?=some fn)(hb:fn.body=some c)
  (h:vq P pl fn.results.toList R 100 [(c,1)] (nI fn.ntmps args) w):Calls P f ⟨args⟩ w R:=by
 refine calls_of_wp_defers hf hb ?_;have e:(Array.mk args)++Array.replicate (fn.ntmps-(Array.mk args).size) undef=⟨nI fn.ntmps args⟩:=by apply jF;simp[Cb]
 rw[e];have h2:=aqD 100 [(c,1)] _ w h;have e2:Exit.then (bodyPostD P fn R .normal) (bodyPostD P fn R)=bodyPostD P fn R:=by funext e a w;cases e<;>rfl
 simp only[gI,rK,xo,e2]at h2;exact h2
def Cc{P:Program}{f:FuncId}{fn:Func}{c:Code}{args:List Value}{w:World}{R:Ending->World->Prop}(pl:nX)(hf:P.funcs[f]?=some fn)(hb:fn.body=some c)
  (h:zk P pl fn.results.toList R c 1 (nI fn.ntmps args) w):Calls P f ⟨args⟩ w R:=by
 refine calls_of_wp_defers hf hb ?_;have e:(Array.mk args)++Array.replicate (fn.ntmps-(Array.mk args).size) undef=⟨nI fn.ntmps args⟩:=by apply jF;simp[Cb]
 rw[e];exact asu c 1 _ w h
abbrev mN(ro:Option Nat):Fence:={Fence.wide with round:=ro}
def aaM{ro:Option Nat}{n:Nat}{P:Program}{f:FuncId}{args:Array Value}{w:World}{R:Ending->World->Prop}(h:Calls P f args w R):CallsIn (mN ro) n P f args w R:=(callsIn_wide (n:=n)).2 h
def asw{ro:Option Nat}{n:Nat}{P:Program}{row:String}{args:Array Value}{w:World}{R:Value->World->Prop}(h:Rows P row args w R):RowsIn (mN ro) n P row args w R:=λc cs _=>
 let⟨v,w',r,s⟩:=h c cs
 ⟨v,w',r,stepsIn_wide.2 s⟩
def wW:Op->Bool
 |.defer _=>false
 |_=>true
def Lp{op:Op}(h:wW op=true):∀c,op≠.defer c:=by intro c e;rw[e]at h;cases h
def Sr{ro:Option Nat}{n:Nat}{P:Program}{o:Oper}{a:Act}{w:World}{next:Act->World->Prop}{Q:Exit->Act->World->Prop}(hd:wW o.op=true)(h:o.wp P a w next Q):o.wpIn (mN ro) n P a w next Q:=by
 refine⟨λ_ _=>trivial,?_⟩;rw[Oper.semAt_eq _ _ _ (Lp hd)];unfold Oper.wp at h;generalize(execOp a.eval o).run P w=r at h;cases r with
 |ok x w'=>
  cases x<;>simp only[Oper.upon,Oper.uponIn]at h⊢<;>first|exact h|exact h.elim|skip
  .exact⟨λe=>(by cases e),aaM h⟩
  .exact⟨λe=>(by cases e),asw h⟩
 |halt x w'=>cases x<;>simp only[Oper.upon,Oper.uponIn]at h⊢<;>first|exact h|exact h.elim
def Aq(P:Program)(k:Nat)(args:List Value)(w:World)(R:Ending->World->Prop):Prop:=
 ∃fn tmps assign body,(Instr.yield k ⟨args⟩).run P w=.ok (.round k fn tmps assign body) w/\RoundIn Fence.wide 0 P k fn tmps assign body w R
def Aq.mono{P:Program}{k:Nat}{args:List Value}{w:World}{R R':Ending->World->Prop}(h:Aq P k args w R)(hr:∀e w',R e w'->R' e w'):Aq P k args w R':=by obtain⟨fn,tmps,a,b,h1,h2⟩:=h;exact⟨fn,tmps,a,b,h1,h2.mono hr⟩
def aqF{ro:Option Nat}{n l:Nat}{P:Program}{f:FuncId}{tmps:Array Value}{assign body:Code}{w:World}{R:Ending->World->Prop}(h:RoundIn Fence.wide 0 P l f tmps assign body w R):RoundIn (mN ro) n P l f tmps assign body w R:=
 ⟨h.1,λc cs _=>h.2 c cs (room_wide _)⟩
abbrev Cx(k:Nat):Value:=.func (.yield k) #[] #[]
def aeP(f:Value)(Y:Nat->Prop):Prop:=match f with
 |.func (.yield k) ⟨[]⟩ ⟨[]⟩=>Y k
 |_=>False
def TL(P:Program)(t:TypeId)(x lo hi mx:Value)(K:Value->Prop):Prop:=match x,lo,hi,mx with
 |.slice p _ c,.int _ i,.int _ j,.int _ m=>match P.underlying t with
  |some (.slice e)=>an (iI P e) (0<=i/\i<=j/\j<=m/\m<=c/\K (.slice (if m.toNat=i.toNat then p else p.map (·.add (i.toNat*ei P e))) (j.toNat-i.toNat) (m.toNat-i.toNat))) False
  |_=>False
 |_,_,_,_=>False
def apB{P:Program}{t:TypeId}{x lo hi mx:Value}{K:Value->Prop}(h:TL P t x lo hi mx K):∃v,K v/\∀w,(Instr.sliceAt t x (some lo) (some hi) (some mx)).run P w=.ok v w:=by
 unfold TL at h;split at h
 .rename_i p n c k i k' j k2 m
  split at h
  .rename_i e ht
   obtain⟨hi',h0,h1,h2,h3,hk⟩:=dZ h;refine⟨_,hk,λw=>?_⟩;have b:∀w,(Instr.sliceBounds true n c (some (.int k i)) (some (.int k' j)) (some (.int k2 m))).run P w=.ok (i.toNat,j.toNat,m.toNat) w:=λw=>by simp[Instr.sliceBounds,Ca (show 0<=m by omega) h3,Ca (show 0<=j by omega) (show j<=((m.toNat:Nat):Int) by omega),Ca h0 (show i<=((j.toNat:Nat):Int) by omega)]
   simp only[Instr.sliceAt,Instr.slice,Sem.run_bind,run_underlying ht,Result.andThen_ok,b,pZ hi',Sem.run_pure]
  .exact h.elim
 .exact h.elim
def Nz(P:Program)(r:List Oper)(l:Fr)(o:Oper)(w:World)(K:KW):Prop:=match o.op with
 |.call ⟨.value (.func _),_,_⟩=>aIG P l o w K λ_ _=>False
 |.call ⟨.value f0,⟨xs⟩,_⟩=>cR l f0 λf=>aeP f λk=>xj l xs λvs=>Aq P k vs w λe w'=>∃b,e=.returned (.bool b)/\K (.bool b) w'
 |.slice t x (some lo) (some hi) (some mx)=>cR l x λx=>cR l lo λlo=>cR l hi λhi=>cR l mx λmx=>TL P t x lo hi mx λv=>K v w
 |_=>Nu P r l o w K λ_ _=>False
def aaN{ro:Option Nat}{n:Nat}{P:Program}{r:List Oper}{l:Fr}{ds:List Deferred}{o:Oper}{w:World}{K:KW}{next:Act->World->Prop}{Q:Exit->Act->World->Prop}
  (hd:wW o.op=true)(h:Nz P r l o w K)(hK:∀v w',K v w'->next ((act l ds).put o.dst v) w'):o.wpIn (mN ro) n P (act l ds) w next Q:=by
 have plain:aIG P l o w K (λ_ _=>False)->o.wpIn (mN ro) n P (act l ds) w next Q:=λh=>Sr hd (LM h hK λ_ _ h=>h.elim);unfold Nz at h;split at h
 .exact plain h
 .rename_i f0 xs ts _ ho
  have h:=cM (ds:=ds) h;unfold aeP at h;split at h
  .rename_i k hf
   obtain⟨fn,tmps,as',body,hy,hr⟩:=An (ds:=ds) h;refine⟨λ_ _=>trivial,?_⟩;rw[Oper.semAt_eq _ _ _ (Lp hd)];have e:({toList:=[]}:Array Value)++Array.map (act l ds).eval {toList:=xs}=⟨xs.map (act l ds).eval⟩:=by apply jF;simp
   have hrun:(execOp (act l ds).eval o).run P w=.ok (.round k fn tmps as' body) w:=by simp only[execOp,ho,resolve,hf,Deferred.ofValue,invoke,Sem.run_bind,Sem.run_pure,Result.andThen_ok];rw[e];exact hy
   rw[hrun,Oper.uponIn_round];refine⟨λe=>(by cases e),(aqF hr).mono ?_⟩;rintro _ w' ⟨b,rfl,hk⟩;exact hK _ _ hk
  .exact h.elim
 .rename_i t x lo hi mx ho
  obtain⟨v,hk,hr⟩:=apB (cM (ds:=ds) (cM (ds:=ds) (cM (ds:=ds) (cM (ds:=ds) h))));refine Sr hd ?_;unfold Oper.wp;have:(execOp (act l ds).eval o).run P w=.ok (.value v) w:=by simp only[execOp,ho,Gc];exact o_ (hr w)
  rw[this];exact hK v w hk
 .exact Sr hd (Sq h hK λ_ _ h=>h.elim)
def HG(P:Program)(ops:List Oper)(K:Fr->World->Prop):List Oper->Fr->World->Prop
 |[],l,w=>K l w
 |o::r,l,w=>yC ops l o.guard (λl=>an (wW o.op) (Nz P r l o w λv w'=>qe l o.dst v λl'=>HG P ops K r l' w') False) (λl=>qe l o.dst undef λl'=>HG P ops K r l' w)
def aoS{ro:Option Nat}{n:Nat}{P:Program}{ops:List Oper}{ds:List Deferred}{K:Fr->World->Prop}{Q:Exit->Act->World->Prop}:
  ∀{rest:List Oper} {l:Fr} {w:World},HG P ops K rest l w->(∀l' w',cu (e9 rest) l l'->K l' w'->Q .normal (act l' ds) w')->wpListIn (mN ro) n P ⟨ops⟩ Q rest (act l ds) w:=by
 intro rest
 induction rest with
 |nil=>intro l w h hK;exact hK l w (cu.refl _ _) h
 |cons o r ih=>
  intro l w h hK;have next:∀v w',HG P ops K r (put l o.dst v) w'->wpListIn (mN ro) n P ⟨ops⟩ Q r ((act l ds).put o.dst v) w':=by intro v w' h;rw[wV];exact ih h λl' w' ha hk=>hK l' w' (SL ha) hk
  unfold wpListIn;rcases yo (ds:=ds) h with⟨hw,h⟩|⟨hw,h⟩
  .rw[aL hw]
   obtain⟨hd,h⟩:=dZ h;exact aaN hd h λv w' hk=>next v w' (kX hk)
  .rw[aG (by simp[hw])]
   exact⟨λ_ _=>trivial,next undef w (kX h)⟩
section
variable{ro:Option Nat}{n:Nat}{P:Program}{ops:List Oper}{Q:Exit->Act->World->Prop}{S:World->Prop}
def aae{i:Nat}{o:Oper}{v:Value}{a:Act}(hd:wW o.op=true)(hi:(Array.mk ops)[i]?=some o)(hy:YieldsIf P ⟨ops⟩ S o v a){K:Act->World->Prop}{w:World}(hS:S w)(h:K (a.put o.dst v) w):wpOpIn (mN ro) n P ⟨ops⟩ Q i K a w:=by
 unfold Go.wpOpIn;simp only[hi];rcases hy with⟨hw,hv⟩|⟨hw,rfl⟩
 .simp only[hw,nu,Oper.wpIn,Oper.semAt_eq _ _ _ (Lp hd),hv w hS,Oper.uponIn]
  exact⟨λ_ _=>trivial,h⟩
 .simp only[hw,kV,iV]
  exact⟨λ_ _=>trivial,h⟩
def aua{j:Nat}{oi oj:Oper}{v:Value}(hj:(Array.mk ops)[j]?=some oj)(hd:wW oj.op=true)(hap:oi.apart ⟨ops⟩ oj=true)(hsi:∀cs b,oi.op≠.select cs b)(hsj:∀cs b,oj.op≠.select cs b)
  (hQ:∀c a w,Q (.panic c) (a.put oi.dst v) w->Q (.panic c) a w){K:Act->World->Prop}{a:Act}{w:World}(hy:YieldsIf P ⟨ops⟩ S oi v a)(h:wpOpIn (mN ro) n P ⟨ops⟩ Q j K (a.put oi.dst v) w):
  wpOpIn (mN ro) n P ⟨ops⟩ Q j (λa' w'=>YieldsIf P ⟨ops⟩ S oi v a'/\K (a'.put oi.dst v) w') a w:=by
 obtain⟨h1,h2,h3⟩:=Oper.apart_spec hap;have keep:∀u,YieldsIf P ⟨ops⟩ S oi v (a.put oj.dst u):=λu=>hy.of_same (execOp_put oi hsi a oj.dst u h3) (wanted_put oi a oj.dst u h3);unfold wpOpIn at*;simp only[hj]at*;rw[wanted_put oj a oi.dst v h1]at h;split
 .rename_i hw
  simp only[hw,nu,Oper.wpIn,Oper.semAt_eq _ _ _ (Lp hd)]at h⊢;refine⟨λ_ _=>trivial,?_⟩;have h:=h.2;rw[execOp_put oj hsj a oi.dst v h1]at h;generalize(execOp a.eval oj).run P w=r at*;cases r with
  |ok x w'=>
   cases x<;>simp only[Oper.uponIn]at h⊢
   case value u=>exact⟨keep u,by rw[<-Act.put_comm a v u h2];exact h⟩
   case skip=>exact⟨keep _,by rw[<-Act.put_comm a v undef h2];exact h⟩
   case defer d=>refine⟨(show YieldsIf P ⟨ops⟩ S oi v {a with defers:=d::a.defers}from hy.of_same rfl rfl).of_same (execOp_put oi hsi _ oj.dst undef h3) (wanted_put oi _ oj.dst undef h3),?_⟩;rw[<-Act.put_comm _ v undef h2,<-Act.put_defers];exact h
   case enter f args=>
    refine⟨h.1,CallsIn.mono h.2 λe w'' he=>?_⟩;cases e with
    |returned u=>exact⟨keep u,by rw[<-Act.put_comm a v u h2];exact he⟩
    |panicked c=>exact hQ _ _ _ he
    |outgrown=>exact he
   case row row args=>exact⟨h.1,RowsIn.mono h.2 λu w'' he=>⟨keep u,by rw[<-Act.put_comm a v u h2];exact he⟩⟩
   case round l f tmps assign body=>
    refine⟨h.1,RoundIn.mono h.2 λe w'' he=>?_⟩;cases e with
    |returned u=>exact⟨keep u,by rw[<-Act.put_comm a v u h2];exact he⟩
    |panicked c=>exact hQ _ _ _ he
    |outgrown=>exact he
  |halt x w'=>
   cases x<;>simp only[Oper.uponIn]at h⊢
   case panic u=>exact hQ _ _ _ h
 .rename_i hw
  simp only[hw]at h;exact⟨λ_ _=>trivial,keep _,by rw[<-Act.put_comm a v undef h2];exact h.2⟩
def Cy(ro:Option Nat)(n:Nat)(P:Program)(ops:List Oper)(Q:Exit->Act->World->Prop)(S:World->Prop):Nat->Array Bool->Act->World->Prop
 |0,listed,a,w=>Region.ready .any ⟨ops⟩ listed=[]/\Q .normal a w
 |fuel+1,listed,a,w=>
  (Region.ready .any ⟨ops⟩ listed=[]->Q .normal a w)/\
  ∀i∈Region.ready .any ⟨ops⟩ listed,wpOpIn (mN ro) n P ⟨ops⟩ Q i (λa' w'=>M3 ops S i w w'/\Cy ro n P ops Q S fuel (listed.setIfInBounds i true) a' w') a w
def aaO:∀(fuel:Nat) (listed:Array Bool) (a:Act) (w:World),Cy ro n P ops Q S fuel listed a w->wpAnyIn (mN ro) n P .any ⟨ops⟩ Q fuel listed a w
 |0,_,_,_,h=>h
 |fuel+1,_,_,_,h=>⟨h.1,λi hi=>Go.wpOpIn_mono (λa' w' h'=>aaO fuel _ a' w' h'.2) (h.2 i hi)⟩
def aoT{i:Nat}{oi:Oper}{v:Value}(hq:aIj ops i=true)(hi:(Array.mk ops)[i]?=some oi)(hsel:∀(j:Nat) (o:Oper) cs b,(Array.mk ops)[j]?=some o->o.op≠.select cs b)(NA:∀o∈ops,wW o.op=true)
  (hQ:∀c a w,Q (.panic c) (a.put oi.dst v) w->Q (.panic c) a w):
  ∀(fuel:Nat) (listed:Array Bool) (a:Act) (w:World),AF ops listed->
   (∀j oj,(Array.mk ops)[j]?=some oj->j≠i->listed.getD j true=false->(∀e∈oj.after,Region.binds .any e=true->e.on≠i)->oi.apart ⟨ops⟩ oj=true)->
   i∈Region.ready .any ⟨ops⟩ listed->YieldsIf P ⟨ops⟩ (λw=>oG ops i=true->S w) oi v a->(oG ops i=true->S w)->
   Cy ro n P ops Q S fuel (listed.setIfInBounds i true) (a.put oi.dst v) w->Cy ro n P ops Q S (fuel+1) listed a w:=by
 have hmem:∀{j:Nat} {o:Oper},(Array.mk ops)[j]?=some o->wW o.op=true:=λh=>NA _ (aJk (by simpa using h));intro fuel
 induction fuel with
 |zero=>
  intro listed a w hcl _ hr hy hS H;refine⟨λh=>(by rw[h]at hr;cases hr),λj hj=>?_⟩
  by_cases hji:j=i
  .subst hji;exact aae (hmem hi) hi hy hS ⟨⟨λ_=>rfl,λh=>by rw[hq]at h;cases h⟩,H⟩
  .have:=ready_mono hj hji
   rw[H.1]at this;cases this
 |succ fuel ih=>
  intro listed a w hcl hfree hr hy hS H;refine⟨λh=>(by rw[h]at hr;cases hr),λj hj=>?_⟩
  by_cases hji:j=i
  .subst hji;exact aae (hmem hi) hi hy hS ⟨⟨λ_=>rfl,λh=>by rw[hq]at h;cases h⟩,H⟩
  .have h1:=H.2 j (ready_mono hj hji)
   obtain⟨Iz,oj,Bk,hall⟩:=mem_ready.1 hj;have hnot:∀e∈oj.after,Region.binds .any e=true->e.on≠i:=λe he hb heq=>by
    have h1:=hall e he hb;have h0:=(mem_ready.1 hr).1;rw[heq]at h1;rcases yl i listed.size with h'|h'
    .simp[h']at h0 h1;rw[h0]at h1;cases h1
    .simp[PR h']at h1
   have h2:=aua Bk (hmem Bk) (hfree j oj Bk hji Iz hnot) (λcs b=>hsel i oi cs b hi) (λcs b=>hsel j oj cs b Bk) hQ hy h1;have Uo:∀k ok,(Array.mk ops)[k]?=some ok->k≠i->(listed.setIfInBounds j true).getD k true=false->
     (∀e∈ok.after,Region.binds .any e=true->e.on≠i)->oi.apart ⟨ops⟩ ok=true:=λk ok hk hki hun hno=>by
    refine hfree k ok hk hki ?_ hno
    by_cases hjk:j=k
    .subst hjk;exact Iz
    .rw[getD_set_ne true hjk]at hun;exact hun
   refine Go.wpOpIn_mono (λa' w' h3=>⟨h3.2.1,ih (listed.setIfInBounds j true) a' w' (D1 hcl hj) Uo (ready_mono hr (yq hji)) h3.1 (λhl=>?_) ?_⟩) h2
   .cases I4:aIj ops j with
    |true=>rw[h3.2.1.1 I4];exact hS hl
    |false=>exact h3.2.1.2 I4 (L9 hcl (mem_ready.1 hr).1 hji hl hj)
   .rw[aKX _ _ hji]
    exact h3.2.2
end
def aIy(P:Program)(ops:List Oper)(S:World->Prop)(K:Fr->World->Prop):Nat->Array Bool->Fr->World->Prop
 |0,listed,l,w=>an (Region.ready .any ⟨ops⟩ listed).isEmpty (K l w) False
 |n+1,listed,l,w=>match Region.ready .any ⟨ops⟩ listed with
  |[]=>K l w
  |i::rs=>match(i::rs).find? (aIj ops)with
   |some i=>match ops[i]? with
    |some o=>an (Region.free .any ⟨ops⟩ listed i) (yC ops l o.guard
      (λl=>vE P l o (λa v=>∀w1,S w1->w1.cell? a=some v) λv=>qe l o.dst v λl'=>aIy P ops S K n (listed.setIfInBounds i true) l' w)
      (λl=>qe l o.dst undef λl'=>aIy P ops S K n (listed.setIfInBounds i true) l' w)) False
    |none=>False
   |none=>aIa.M4 (λi=>match ops[i]? with
    |some o=>yC ops l o.guard
      (λl=>Nz P [] l o w λv w'=>qe l o.dst v λl'=>an (aIw ops i) (S w'/\aIy P ops S K n (listed.setIfInBounds i true) l' w') (aIy P ops S K n (listed.setIfInBounds i true) l' w'))
      (λl=>qe l o.dst undef λl'=>an (aIw ops i) (S w/\aIy P ops S K n (listed.setIfInBounds i true) l' w) (aIy P ops S K n (listed.setIfInBounds i true) l' w))
    |none=>False) (i::rs)
def apC{ro:Option Nat}{m:Nat}{P:Program}{ops:List Oper}{ds:List Deferred}{S:World->Prop}{K:Fr->World->Prop}{Q:Exit->Act->World->Prop}{l0:Fr}
  (hsel:Region.noSelect ⟨ops⟩=true)(NA:∀o∈ops,wW o.op=true)(hQ:∀c a w,¬Q (.panic c) a w)(hK:∀l' w',cu (e9 ops) l0 l'->K l' w'->Q .normal (act l' ds) w'):
  ∀(n:Nat) (listed:Array Bool) (l:Fr) (w:World),aIy P ops S K n listed l w->AF ops listed->cu (e9 ops) l0 l->((∃i,listed.getD i true=false/\oG ops i=true)->S w)->
   Cy ro m P ops Q S n listed (act l ds) w:=by
 intro n
 induction n with
 |zero=>intro listed l w h hc ha hS;obtain⟨hr,h⟩:=dZ h;exact⟨QO.1 hr,hK l w ha h⟩
 |succ n ih=>
  intro listed l w h hc ha hS;unfold aIy at h;split at h
  .rename_i hr
   exact⟨λ_=>hK l w ha h,by rw[hr];simp⟩
  .rename_i i0 rs hr
   split at h
   .rename_i i hf
    have hq:aIj ops i=true:=Q5 hf;have hmem:i∈Region.ready .any ⟨ops⟩ listed:=by rw[hr];exact PG hf
    split at h
    .rename_i o ho
     obtain⟨hfree,h⟩:=dZ h;have aIH:(Array.mk ops)[i]?=some o:=by simpa using ho
     have hun:=(mem_ready.1 hmem).1;have step:∀v,YieldsIf P ⟨ops⟩ (λw=>oG ops i=true->S w) o v (act l ds)->aIy P ops S K n (listed.setIfInBounds i true) (put l o.dst v) w->Cy ro m P ops Q S (n+1) listed (act l ds) w:=by
      intro v hy hn;refine aoT hq aIH (Region.noSelect_spec hsel) NA (λc a w h=>(hQ c _ w h).elim) n listed _ w hc (Region.free_spec aIH hfree) hmem hy (λhl=>hS ⟨i,hun,hl⟩) ?_;rw[wV];refine ih _ _ w hn (D1 hc hmem) (LN ho ha) ?_;rintro⟨k,hk,hl⟩;refine hS ⟨k,?_,hl⟩
      by_cases hki:i=k
      .subst hki
       exact hun
      .rwa[getD_set_ne true hki]at hk
     rcases yo (ds:=ds) h with⟨hw,h⟩|⟨hw,h⟩
     .cases hl:AE o.op with
      |false=>obtain⟨v,hk,hrun⟩:=Eg (ds:=ds) (aaJ (Wd:=λ_ _=>False) hl h);exact step v (.inl ⟨hw,λw _=>hrun w (λ_ _ h=>h.elim)⟩) (kX hk)
      |true=>
       obtain⟨v,hk,hrun⟩:=Eg (ds:=ds) h;have hlb:oG ops i=true:=by unfold oG;rw[ho];exact hl
       exact step v (.inl ⟨hw,λw hs=>hrun w (λa u h=>h w (hs hlb))⟩) (kX hk)
     .exact step undef (.inr ⟨hw,rfl⟩) (kX h)
    .exact h.elim
   .rename_i hnone
    have h:=abP h;refine⟨λh0=>(by rw[hr]at h0;cases h0),λi hi=>?_⟩;have hi':i∈i0::rs:=by rw[<-hr];exact hi
    have h:=h i hi';have hq:aIj ops i=false:=by have:=Yy.1 hnone i hi';simpa using this
    split at h
    .rename_i o ho
     have aIH:(Array.mk ops)[i]?=some o:=by simpa using ho
     have next:∀v w',an (aIw ops i) (S w'/\aIy P ops S K n (listed.setIfInBounds i true) (put l o.dst v) w') (aIy P ops S K n (listed.setIfInBounds i true) (put l o.dst v) w')->
       M3 ops S i w w'/\Cy ro m P ops Q S n (listed.setIfInBounds i true) ((act l ds).put o.dst v) w':=by
      intro v w' h;rw[wV];have rest:aIy P ops S K n (listed.setIfInBounds i true) (put l o.dst v) w':=by
       rw[gK]at h;cases hb:aIw ops i with
       |true=>exact(h.1 hb).2
       |false=>exact h.2 hb
      have need:aIw ops i=true->S w':=λhb=>by rw[gK]at h;exact(h.1 hb).1
      refine⟨⟨λI5=>(by rw[hq]at I5;cases I5),λ_=>need⟩,ih _ _ w' rest (D1 hc hi) (LN ho ha) ?_⟩;rintro⟨k,hk,hl⟩
      by_cases hki:i=k
      .subst hki
       unfold oG at hl;unfold aIj at hq;rw[ho]at hl hq;have h1:AE o.op=true:=hl;have h2:L8 o.op=false:=hq;rw[aaK h1]at h2;cases h2
      .rw[getD_set_ne true hki]at hk
       exact need (L9 hc hk hki hl hi)
     unfold wpOpIn;simp only[aIH];rcases yo (ds:=ds) h with⟨hw,h⟩|⟨hw,h⟩
     .rw[aL hw]
      exact aaN (NA _ (aJk ho)) h λv w' hk=>next v w' (kX hk)
     .rw[aG (by simp[hw])]
      exact⟨λ_ _=>trivial,next undef w (kX h)⟩
    .exact h.elim
def aeQ(P:Program)(ops:List Oper)(K:Fr->World->Prop)(l:Fr)(w:World):Prop:=
 an (P.follows .mixedOrders&&Region.noSelect ⟨ops⟩&&ops.all λo=>wW o.op) (∃S:World->Prop,S w.drew/\aIy P ops S K ops.length (Array.replicate ops.length false) l w.drew) False
def aoU{ro:Option Nat}{n:Nat}{P:Program}{id:Nat}{ops:List Oper}{ds:List Deferred}{K:Fr->World->Prop}{Q:Exit->Act->World->Prop}{l:Fr}{w:World}
  (h:aeQ P ops K l w)(hK:∀l' w',cu (e9 ops) l l'->K l' w'->Q .normal (act l' ds) w'):(Code.region id ⟨ops⟩ true).wpIn (mN ro) n P Q (act l ds) w:=by
 obtain⟨hb,S,hs,h⟩:=dZ h;rw[aHo,aHo,pY]at hb
 let Q':Exit->Act->World->Prop:=λe a w=>match e with
  |.normal=>Q .normal a w
  |_=>False
 have h1:(Code.region id ⟨ops⟩ true).wpIn (mN ro) n P Q' (act l ds) w:=by refine wpIn_region_any hb.1.1 (aaO (S:=S) _ _ _ _ ?_);refine apC (Q:=Q') (l0:=l) hb.1.2 hb.2 (λc a w h=>h) (λl' w' ha hk=>hK l' w' ha hk) _ _ _ _ h ?_ (cu.refl _ _) (λ_=>hs);intro j o _ hl;exfalso;simp only[J3,X_]at hl;split at hl<;>cases hl
 refine Go.wpIn_mono h1 λe a w' hq=>?_;cases e<;>simp only[Q']at hq<;>first|exact hq|exact hq.elim
structure HH where
 normal:List Nat->Fr->World->Prop
 exit:Nat->List Nat->Fr->World->Prop
 ret:List Nat->Fr->World->Prop
def marks(ms:List Nat):List Deferred:=ms.map λr=>{target:=.collected r,args:=#[]}
def nA:Code->List Nat
 |.region _ ⟨ops⟩ _=>e9 ops
 |.seq a b=>nA a++nA b
 |.cond _ a b=>nA a++nA b
 |.block _ c=>nA c
 |.loop c=>nA c
 |_=>[]
def aIU(r:Loop):Obj:=.loop {r with state:=.busy}
def Ex(r:Loop)(j:Code):Obj:=.loop {r with state:=.done,pending:=some j}
def Lz(k:Nat)(rec:Loop)(R:Ending->World->Prop):HH where
 normal:=λ_ _ w=>w.heap[k]?=some (aIU rec)/\R (.returned (.bool true)) (w.putObj k (.loop rec))
 exit:=λi _ _ w=>w.heap[k]?=some (aIU rec)/\R (.returned (.bool false)) (w.putObj k (Ex rec (.exit i)))
 ret:=λ_ _ w=>w.heap[k]?=some (aIU rec)/\R (.returned (.bool false)) (w.putObj k (Ex rec .ret))
def axV(k:Nat)(rec:Loop)(C:HH)(ms:List Nat)(l:Fr)(w:World):Prop:=
 (w.heap[k]?=some (.loop rec)/\C.normal ms l (w.putObj k (.loop {rec with state:=.exhausted})))\/
 (w.heap[k]?=some (Ex rec .ret)/\C.ret ms l (w.putObj k (.loop {rec with state:=.exhausted,pending:=some .ret})))\/
 (∃i,w.heap[k]?=some (Ex rec (.exit i))/\C.exit i ms l (w.putObj k (.loop {rec with state:=.exhausted,pending:=some (.exit i)})))
def oP(P:Program)(pl:nX)(out:Bool):Code->Nat->HH->List Nat->Fr->World->Prop
 |.skip,_,C,ms,l,w=>C.normal ms l w
 |.region _ ⟨ops⟩ false,_,C,ms,l,w=>HG P ops (C.normal ms) ops l w
 |.region _ ⟨ops⟩ true,_,C,ms,l,w=>aeQ P ops (C.normal ms) l w
 |.seq a b,p,C,ms,l,w=>match lookup pl.live p with
  |none=>oP P pl out a (2*p) {C with normal:=λms' l' w'=>oP P pl out b (2*p+1) C ms' l' w'} ms l w
  |some sp=>∃J:dQ (ga sp) (World->Prop),
    oP P pl out a (2*p) {C with normal:=λms' l' w'=>ms'=ms/\AR l' sp λvs=>dQ.app (ga sp) J vs λq=>q w'} ms l w/\
    AD (ga sp) λvs=>∀(us:Nat->Value) (w':World),(dQ.app (ga sp) J vs λq=>q w')->AG us (nA a) l λl1=>AS sp vs l1 λl2=>oP P pl out b (2*p+1) C ms l2 w'
 |.cond c a b,p,C,ms,l,w=>cR l c λv=>match v with
  |.bool t=>an t (oP P pl out a (2*p) C ms l w) (oP P pl out b (2*p+1) C ms l w)
  |_=>False
 |.block id c,p,C,ms,l,w=>oP P pl out c (2*p) {C with exit:=λi ms' l' w'=>an (Nat.beq i id) (C.normal ms' l' w') (C.exit i ms' l' w')} ms l w
 |.loop c,p,C,ms,l,w=>match lookup pl.live p with
  |none=>False
  |some sp=>∃(I:dQ (ga sp) (List Nat->World->Prop)) (m:dQ (ga sp) (World->Nat)),
    (AR l sp λvs=>dQ.app (ga sp) I vs λq=>q ms w)/\
    AD (ga sp) λvs=>∀(us:Nat->Value) (ms':List Nat) (w':World),(dQ.app (ga sp) I vs λq=>q ms' w')->AG us (nA c) l λl1=>AS sp vs l1 λl2=>
     oP P pl out c (2*p) {C with normal:=λms3 l3 w3=>AR l3 sp λvs'=>(dQ.app (ga sp) I vs' λq=>q ms3 w3)/\dQ.app (ga sp) m vs' λm1=>dQ.app (ga sp) m vs λm0=>m1 w3<m0 w'} ms' l2 w'
 |.rangeFunc g ⟨ps⟩ as' body,p,C,ms,l,w=>cR l g λgv=>gu gv λf first cap=>match lookup pl.live p with
  |none=>False
  |some sp=>an (out&&decide (sp.map (·.1)=ps)&&dD P f)
   (∀rec:Loop,rec.state=.ready->rec.pending=none->
    (AD (ga sp) λvs=>∀(w1:World) (R:Ending->World->Prop),w1.heap[w.heap.size+1]?=some (.loop rec)->
     (AS sp vs l λl1=>oP P pl false as' (2*p) {normal:=λm2 l2 w2=>m2=[]/\w2.heap[w.heap.size+1]?=some (.loop rec)/\c7 (w2.putObj (w.heap.size+1) (aIU rec)) λw3=>oP P pl false body (2*p+1) (Lz (w.heap.size+1) rec R) [] l2 w3,exit:=λ_ _ _ _=>False,ret:=λ_ _ _=>False} [] l1 w1)->
     Aq P (w.heap.size+1) vs w1 R)->
    Calls P f ⟨first++(Cx (w.heap.size+1)::cap)⟩ ((w.alloc (.deferred (some []))).alloc (.loop rec)) λe w3=>(∃v,e=.returned v)/\axV (w.heap.size+1) rec C (w.heap.size::ms) l w3) False
 |.exit i,_,C,ms,l,w=>C.exit i ms l w
 |.ret,_,C,ms,l,w=>C.ret ms l w
 |_,_,_,_,_,_=>False
def ZF{x:iZ}{K:Value->Prop}(h:∀v,K v):Hf x K:=by cases x<;>simp only[Hf]<;>intros<;>exact h _
def anG{l:List iZ}:∀{K:List Value->Prop},(∀vs:List Value,vs.length=l.length->K vs)->LK l K:=by
 induction l with
 |nil=>intro K h;exact h [] rfl
 |cons x r ih=>intro K h;exact ZF λv=>ih λvs hl=>h (v::vs) (by simp[hl])
def apD{x:Ty}{K:Value->Prop}(h:∀v,K v):UN x K:=by
 cases x with
 |leaf x=>exact ZF h
 |agg l=>exact anG λvs _=>h _
 |eN n=>exact λcs _=>h _
def aoV{l:List Ty}:∀{K:List Value->Prop},(∀vs:List Value,vs.length=l.length->K vs)->AD l K:=by
 induction l with
 |nil=>intro K h;exact h [] rfl
 |cons x r ih=>intro K h;exact apD λv=>ih λvs hl=>h (v::vs) (by simp[hl])
def ZQ:∀sp:List (Nat×Ty),(ga sp).length=sp.length
 |[]=>rfl
 |_::r=>by simp[ga,ZQ r]
def abV:∀{sp:List (Nat×Ty)} {vs:List Value} {l:Fr},vs.length=sp.length->sets sp vs l=((sp.map (·.1)).zip vs).foldl (λl x=>l.set x.1 x.2) l
 |[],[],_,_=>rfl
 |[],_::_,_,h=>by simp at h
 |_::_,[],_,h=>by simp at h
 |x::r,v::vs,l,h=>by simp only[sets,gI,List.zip_cons_cons,zZ];exact abV (by simpa using h)
def aub(zs:List (Nat×Value)):∀l:Fr,zs.foldl (λ(tmps:Array Value) (x:Nat×Value)=>tmps.setIfInBounds x.1 x.2) ⟨l⟩=⟨zs.foldl (λl x=>l.set x.1 x.2) l⟩:=by
 induction zs with
 |nil=>intro l;rfl
 |cons x r ih=>intro l;simp only[zZ,PB,ih]
def aoq{P:Program}{a:Act}{w:World}{g:Operand}{k:Nat}{f:FuncId}{first cap:List Value}(hg:a.eval g=.func (.func f) ⟨first⟩ ⟨cap⟩):
  (resolve a.eval (rangeCall g k) 0).run P w=.ok {target:=.fn (.func f) ⟨cap⟩,args:=⟨first++[Cx k]⟩} w:=by
 simp only[resolve,rangeCall,hg,Deferred.ofValue,Sem.run_pure];congr 2;apply jF;simp[Act.eval]
def asx{P:Program}{k:Nat}{rec:Loop}{R:Ending->World->Prop}(hst:rec.state=.ready)(hp:rec.pending=none){c:Code}{l:Fr}{w:World}{n:Nat}
  (h:∀Q:Exit->Act->World->Prop,(∀ms' l' w',cu (nA c) l l'->(Lz k rec R).normal ms' l' w'->Q .normal (act l' (marks ms')) w')->(∀i ms' l' w',cu (nA c) l l'->(Lz k rec R).exit i ms' l' w'->Q (.exit i) (act l' (marks ms')) w')->
   (∀ms' l' w',(Lz k rec R).ret ms' l' w'->Q .ret (act l' (marks ms')) w')->c.wpIn (mN (some k)) n P Q (act l []) w):c.wpIn (mN (some k)) n P (roundPost P k R) (act l []) w:=by
 refine h _ (λms' l' w' _ hk=>?_) (λi ms' l' w' _ hk=>?_) (λms' l' w' hk=>?_)
 .refine⟨_,_,run_endRound none hk.1,?_⟩
  have e:(Obj.loop {({rec with state:=.busy}:Loop)with state:=if(none:Option Code).isNone=true then .ready else .done,pending:=none})=.loop rec:=by cases rec;simp only at hst hp;subst hst hp;rfl
  have h2:=hk.2;rw[<-e]at h2;exact h2
 .exact⟨_,_,run_endRound (some (.exit i)) hk.1,hk.2⟩
 .exact⟨_,_,run_endRound (some .ret) hk.1,hk.2⟩
def aI4{P:Program}{pl:nX}{n:Nat}:∀(c:Code) (out:Bool) (ro:Option Nat) (p:Nat) (C:HH) (ms:List Nat) (l:Fr) (w:World) (Q:Exit->Act->World->Prop),(out=true->ro=none)->oP P pl out c p C ms l w->
  (∀ms' l' w',cu (nA c) l l'->C.normal ms' l' w'->Q .normal (act l' (marks ms')) w')->(∀i ms' l' w',cu (nA c) l l'->C.exit i ms' l' w'->Q (.exit i) (act l' (marks ms')) w')->
  (∀ms' l' w',C.ret ms' l' w'->Q .ret (act l' (marks ms')) w')->c.wpIn (mN ro) n P Q (act l (marks ms)) w
 |.skip,out,ro,p,C,ms,l,w,Q,ho,h,hn,_,_=>wpIn_skip (hn ms l w (cu.refl _ _) h)
 |.region id ⟨ops⟩ false,out,ro,p,C,ms,l,w,Q,ho,h,hn,_,_=>wpIn_region_list (aoS h λl' w' ha hk=>hn ms l' w' ha hk)
 |.region id ⟨ops⟩ true,out,ro,p,C,ms,l,w,Q,ho,h,hn,_,_=>aoU h λl' w' ha hk=>hn ms l' w' ha hk
 |.seq a b,out,ro,p,C,ms,l,w,Q,ho,h,hn,he,hr=>by
  simp only[oP]at h;have left:∀{l':Fr},cu (nA a) l l'->cu (nA (.seq a b)) l l':=λha=>ha.mono λt ht=>sX _ ht;have both:∀{l' l2:Fr},cu (nA a) l l'->cu (nA b) l' l2->cu (nA (.seq a b)) l l2:=λha hb=>ha.trans hb (λt ht=>sX _ ht) (λt ht=>aI0 _ ht);refine wpIn_seq ?_;split at h
  .refine aI4 a out ro (2*p) _ ms l w _ ho h (λms' l' w' ha hk=>?_) (λi ms' l' w' ha hk=>he i ms' l' w' (left ha) hk) (λms' l' w' hk=>hr ms' l' w' hk)
   exact aI4 b out ro (2*p+1) C ms' l' w' Q ho hk (λm2 l2 w2 hb hk=>hn m2 l2 w2 (both ha hb) hk) (λi m2 l2 w2 hb hk=>he i m2 l2 w2 (both ha hb) hk) hr
  .rename_i sp _
   obtain⟨J,h1,h2⟩:=h;refine aI4 a out ro (2*p) _ ms l w _ ho h1 (λms' l' w' ha hk=>?_) (λi ms' l' w' ha hk=>he i ms' l' w' (left ha) hk) (λms' l' w' hk=>hr ms' l' w' hk);obtain⟨rfl,hk⟩:=hk;obtain⟨vs,hrd,hj⟩:=D7 hk;have h3:=dQ.uI hj h2;have h4:=GC ha hrd λus=>h3 us w' hj;exact aI4 b out ro (2*p+1) C ms' l' w' Q ho h4 (λm2 l2 w2 hb hk=>hn m2 l2 w2 (both ha hb) hk) (λi m2 l2 w2 hb hk=>he i m2 l2 w2 (both ha hb) hk) hr
 |.cond c a b,out,ro,p,C,ms,l,w,Q,ho,h,hn,he,hr=>by
  simp only[oP]at h;have h:=cM (ds:=marks ms) h;split at h
  .rename_i v t hv
   rw[gK]at h;refine wpIn_cond_split hv (λht=>?_) (λhf=>?_)
   .exact aI4 a out ro (2*p) C ms l w Q ho (h.1 ht) (λms' l' w' ha hk=>hn ms' l' w' (ha.mono λt ht=>sX _ ht) hk) (λi ms' l' w' ha hk=>he i ms' l' w' (ha.mono λt ht=>sX _ ht) hk) hr
   .exact aI4 b out ro (2*p+1) C ms l w Q ho (h.2 hf) (λms' l' w' ha hk=>hn ms' l' w' (ha.mono λt ht=>aI0 _ ht) hk) (λi ms' l' w' ha hk=>he i ms' l' w' (ha.mono λt ht=>aI0 _ ht) hk) hr
  .exact h.elim
 |.block id c,out,ro,p,C,ms,l,w,Q,ho,h,hn,he,hr=>by
  simp only[oP]at h;refine wpIn_block (aI4 c out ro (2*p) _ ms l w _ ho h (λms' l' w' ha hk=>hn ms' l' w' ha hk) (λi ms' l' w' ha hk=>?_) (λms' l' w' hk=>hr ms' l' w' hk))
  replace hk:an (Nat.beq i id) (C.normal ms' l' w') (C.exit i ms' l' w'):=hk
  rw[gK]at hk;simp only[Exit.inBlock]
  by_cases hi:i=id
  .rw[aL hi]
   exact hn ms' l' w' ha (hk.1 (by rw[hi];exact Nat.beq_refl id))
  .rw[aG hi]
   refine he i ms' l' w' ha (hk.2 ?_);cases hb:Nat.beq i id with
   |false=>rfl
   |true=>exact(hi (oz hb)).elim
 |.loop c,out,ro,p,C,ms,l,w,Q,ho,h,hn,he,hr=>by
  simp only[oP]at h;split at h
  .exact h.elim
  .rename_i sp _
   obtain⟨I,m,h0,h1⟩:=h;refine wpIn_loop (λa w'=>∃ms' l' vs,a=act l' (marks ms')/\cu (nA c) l l'/\Reads l' sp vs/\dQ.app (ga sp) I vs λq=>q ms' w') (Nx sp m) ?_ ?_
   .obtain⟨vs,hrd,hi⟩:=D7 h0
    exact⟨ms,l,vs,rfl,cu.refl _ _,hrd,hi⟩
   .rintro a w' ⟨ms',l',vs,rfl,ha,hrd,hi⟩
    have h3:=dQ.uI hi h1;have h4:=GC ha hrd λus=>h3 us ms' w' hi;refine aI4 c out ro (2*p) _ ms' l' w' _ ho h4 (λm2 l2 w2 hb hk=>?_) (λi m2 l2 w2 hb hk=>he i m2 l2 w2 (ha.trans hb (λ_ h=>h) (λ_ h=>h)) hk) (λm2 l2 w2 hk=>hr m2 l2 w2 hk);obtain⟨vs',IA,hi',hm⟩:=D7 hk;refine⟨⟨m2,l2,vs',rfl,ha.trans hb (λ_ h=>h) (λ_ h=>h),IA,hi'⟩,?_⟩;obtain⟨m1,bW,e1⟩:=L_ (a:=act l2 (marks m2)) (w:=w2) IA hm;obtain⟨m0,hm0,e0⟩:=L_ (a:=act l' (marks ms')) (w:=w') hrd bW;rw[e1,e0];exact hm0
 |.rangeFunc g ⟨ps⟩ as' body,out,ro,p,C,ms,l,w,Q,ho,h,hn,he,hr=>by
  simp only[oP]at h;obtain⟨f,first,cap,hf,h⟩:=Gw (cM (ds:=marks ms) h);split at h
  .exact h.elim
  rename_i sp _;obtain⟨hb,h2⟩:=dZ h;rw[aHo,aHo]at hb;obtain rfl:=ho hb.1.1;obtain rfl:=aR hb.1.2;refine wpIn_rangeFunc λfn _=>?_;refine⟨w.heap.size+1,[{target:=.collected w.heap.size,args:=#[]}],_,{target:=.fn (.func f) ⟨cap⟩,args:=⟨first++[Cx (w.heap.size+1)]⟩},_,f,⟨first++(Cx (w.heap.size+1)::cap)⟩,(w.alloc (.deferred (some []))).alloc (.loop {state:=.ready,pending:=none,fn,tmps:=(act l (marks ms)).tmps,params:=⟨sp.map (·.1)⟩,assign:=as',body,defers:=w.heap.size}),run_enterLoop_outer fn (act l (marks ms)).tmps ⟨sp.map (·.1)⟩ as' body,aoq hf,λ_ _=>trivial,?_,λe=>(by cases e),?_⟩
  .simp only[invoke]
   rw[Lj hb.2];congr 2;apply jF;simp
  .refine aaM ((h2 {state:=.ready,pending:=none,fn,tmps:=(act l (marks ms)).tmps,params:=⟨sp.map (·.1)⟩,assign:=as',body,defers:=w.heap.size} rfl rfl ?_).mono ?_)
   .refine aoV λvs hlen w1 R h1 hv=>?_
    rw[ZQ]at hlen;have hv:=abQ hv;rw[abV hlen]at hv;refine⟨fn,_,as',body,run_yield h1 (by simp[hlen]),?_⟩;have e:((⟨sp.map (·.1)⟩:Array Nat).zip (⟨vs⟩:Array Value)).foldl (λ(tmps:Array Value) (x:Nat×Value)=>tmps.setIfInBounds x.1 x.2) (act l (marks ms)).tmps=⟨((sp.map (·.1)).zip vs).foldl (λl x=>l.set x.1 x.2) l⟩:=by rw[<-aub];simp[act]
    refine roundIn_of_wpIn trivial ?_;have e2:({tmps:=((⟨sp.map (·.1)⟩:Array Nat).zip (⟨vs⟩:Array Value)).foldl (λ(tmps:Array Value) (x:Nat×Value)=>tmps.setIfInBounds x.1 x.2) (act l (marks ms)).tmps,defers:=[]}:Act)=act (((sp.map (·.1)).zip vs).foldl (λl x=>l.set x.1 x.2) l) (marks []):=by rw[e];rfl
    have go:=aI4 (n:=0) as' false (some (w.heap.size+1)) (2*p) _ [] _ w1 (Exit.then (λa₁ w₁=>∃w₂,(Instr.beginRound (w.heap.size+1)).run P w₁=.ok () w₂/\body.wpIn (mN (some (w.heap.size+1))) 0 P (roundPost P (w.heap.size+1) R) a₁ w₂) (λ_ _ _=>False)) (λe=>by cases e) hv (λms' l' w' _ hk=>?_) (λ_ _ _ _ _ hk=>hk.elim) (λ_ _ _ hk=>hk.elim)
    .rw[<-e2]at go
     exact go
    .obtain⟨rfl,h5,h6⟩:=hk
     refine⟨_,run_beginRound h5 rfl,?_⟩;refine asx (rec:={state:=.ready,pending:=none,fn,tmps:=(act l (marks ms)).tmps,params:=⟨sp.map (·.1)⟩,assign:=as',body,defers:=w.heap.size}) rfl rfl λQ hn he hr=>?_;exact aI4 body false (some (w.heap.size+1)) (2*p+1) _ [] l' _ Q (λe=>by cases e) h6 hn he hr
   .rintro _ w3 ⟨⟨v,rfl⟩,hk⟩
    have ayS:({act l (marks ms)with defers:=[{target:=.collected w.heap.size,args:=#[]}]++(act l (marks ms)).defers}:Act)=act l (marks (w.heap.size::ms)):=rfl;rw[ayS];rcases hk with⟨h1,h2⟩|⟨h1,h2⟩|⟨i,h1,h2⟩
    .exact⟨_,_,run_endLoop h1 (by simp),hn _ l _ (cu.refl _ _) h2⟩
    .exact⟨_,_,run_endLoop h1 (by simp),wpIn_ret (hr _ l _ h2)⟩
    .exact⟨_,_,run_endLoop h1 (by simp),wpIn_exit (he i _ l _ (cu.refl _ _) h2)⟩
 |.exit i,out,ro,p,C,ms,l,w,Q,ho,h,_,he,_=>wpIn_exit (he i ms l w (cu.refl _ _) h)
 |.ret,out,ro,p,C,ms,l,w,Q,ho,h,_,_,hr=>wpIn_ret (hr ms l w h)
 |.label _,_,_,_,_,_,_,_,_,_,h,_,_,_=>h.elim
 |.goto _,_,_,_,_,_,_,_,_,_,h,_,_,_=>h.elim
 |.scope _,_,_,_,_,_,_,_,_,_,h,_,_,_=>h.elim
 |.refuse _,_,_,_,_,_,_,_,_,_,h,_,_,_=>h.elim
def En:List Nat->World->(World->Prop)->Prop
 |[],w,K=>K w
 |r::ms,w,K=>w.heap[r]?=some (.deferred (some []))/\En ms (w.putObj r (.deferred none)) K
def auc(P:Program)(rs:List ResultVar)(R:Ending->World->Prop):HH where
 normal:=λms l w=>En ms w λw'=>aIB P w' rs l λvs=>R (.returned (xm vs)) w'
 exit:=λ_ _ _ _=>False
 ret:=λms l w=>En ms w λw'=>aIB P w' rs l λvs=>R (.returned (xm vs)) w'
def RZ{P:Program}{n:Nat}{fn:Func}{l:Fr}{ds:List Deferred}{R:Ending->World->Prop}:∀{ms:List Nat} {w:World},En ms w (λw'=>aIB P w' fn.results.toList l λvs=>R (.returned (xm vs)) w')->
  LeavesInM Fence.wide n P fn (act l ds).tmps R (marks ms) .returning w
 |[],w,h=>by obtain⟨vs,h1,h2⟩:=o7 (ds:=ds) (show aIB P w fn.results.toList l _ from h);exact⟨_,h1,h2⟩
 |r::ms,w,h=>⟨by simp,.inl ⟨r,_,rfl,run_takeDeferred h.1,RZ h.2⟩⟩
def abW{P:Program}{f:FuncId}{fn:Func}{c:Code}{args:List Value}{w:World}{R:Ending->World->Prop}(pl:nX)(hf:P.funcs[f]?=some fn)(hb:fn.body=some c)
  (h:oP P pl true c 1 (auc P fn.results.toList R) [] (nI fn.ntmps args) w):Calls P f ⟨args⟩ w R:=by
 refine(callsIn_wide (n:=0)).1 (callsIn_of_wp_marks hf hb trivial ?_);have e:(Array.mk args)++Array.replicate (fn.ntmps-(Array.mk args).size) undef=⟨nI fn.ntmps args⟩:=by apply jF;simp[Cb]
 rw[e];exact aI4 c true none 1 _ [] _ w _ (λ_=>rfl) h (λms' l' w' _ hk=>RZ (ds:=marks ms') hk) (λi ms' l' w' _ hk=>hk.elim) (λms' l' w' hk=>RZ (ds:=marks ms') hk)
end Go.Proofs.YtihaaoehhgmphaaGreatDoor.Vc
namespace Go.Proofs.YtihaaoehhgmphaaGreatDoor
open IntKind Go.RowKit Vc
set_option maxRecDepth 100000
abbrev zW:=World
abbrev zT:=List UInt8
abbrev zO:=Option Addr
abbrev zU:=Nat->Value
abbrev zV:=World->Prop
abbrev zE:=Ending->World->Prop
abbrev zI(n:Int):Value:=.int .i64 n
abbrev zS(s:zT):Value:=.string (S s)
abbrev zB(b:Bool):Value:=.bool b
abbrev zP(p:zO):Value:=.pointer p
abbrev zL(p:zO)(n c:Nat):Value:=.slice p n c
abbrev zN:Value:=.slice none 0 0
abbrev zA(w:World)(o:Nat):Addr:=Addr.mk w.heap.size o none
abbrev zM(w:zW)(c:List Value)(t:TypeId)(K:zV):Prop:=c7 (w.alloc (.cells ⟨c⟩ t)) K
abbrev zJ(x:zW)(a:Addr)(v:Value)(K:zV):Prop:=Wr x a/\K (x.setCell a v)
abbrev zX(w:zW)(c:List Value)(t:TypeId)(d:List Value)(K:zV):Prop:=c7 (w.alloc (.cells ⟨c⟩ t)) λw1=>cJ (Addr.mk w.heap.size 0 none) K 0 d w1
abbrev zC(a:Addr)(w:zW)(d:List Value)(K:zV):Prop:=cJ a K 0 d w
abbrev zR(R:zE)(v:Value)(w:zW):Prop:=R (.returned v) w
abbrev zD(i:Int)(n:Nat)(K:Prop):Prop:=0<=i/\i<(n:Int)/\K
abbrev zH(w:zW)(K:zV->Prop):Prop:=∃J:zV,J w/\K J
abbrev zK(f:FuncId)(a:List Value)(w:zW)(R:zE)(K:zE):Prop:=aq f ⟨a⟩ w λe w=>K e w\/(∃c,e=.panicked c/\R (.panicked c) w)
abbrev zF(f:FuncId)(a:List Value)(w:zW)(K:zE):Prop:=aq f ⟨a⟩ w λe w=>K e w\/(∃c,e=.panicked c/\False)
abbrev aHn(f:FuncId)(a:List Value)(w:zW)(R:zE)(K:Bool->zW->Prop):Prop:=aq f ⟨a⟩ w λe w=>(∃(x0:Bool),e=.returned (zB x0)/\K x0 w)\/(∃c,e=.panicked c/\R (.panicked c) w)
abbrev cj(f:FuncId)(a:List Value)(w:zW)(R:zE)(K:zT->zW->Prop):Prop:=aq f ⟨a⟩ w λe w=>(∃(x0:zT),e=.returned (zS x0)/\K x0 w)\/(∃c,e=.panicked c/\R (.panicked c) w)
abbrev Wf(f:FuncId)(a:List Value)(w:zW)(R:zE)(K:Int->zO->Nat->Nat->Int->zW->Prop):Prop:=aq f ⟨a⟩ w λe w=>(∃(x0:Int)(x1:zO)(x2:Nat)(x3:Nat)(x4:Int),e=.returned (.tuple #[zI x0,zL x1 x2 x3,zI x4])/\K x0 x1 x2 x3 x4 w)\/(∃c,e=.panicked c/\R (.panicked c) w)
abbrev zK3(f:FuncId)(a:List Value)(w:zW)(R:zE)(K:zO->Int->zT->zT->zO->Nat->Nat->zT->zO->Nat->Nat->zO->Nat->Nat->Int->Int->Int->Int->zW->Prop):Prop:=aq f ⟨a⟩ w λe w=>(∃(x0:zO)(x1:Int)(x2:zT)(x3:zT)(x4:zO)(x5:Nat)(x6:Nat)(x7:zT)(x8:zO)(x9:Nat)(iz:Nat)(iA:zO)(iB:Nat)(iN:Nat)(ji:Int)(jj:Int)(jb:Int)(k8:Int),e=.returned (.tuple #[zP x0,.agg #[zI x1,zS x2,zS x3,zL x4 x5 x6,zS x7,zL x8 x9 iz,zL iA iB iN,zI ji,zI jj,zI jb,zI k8]])/\K x0 x1 x2 x3 x4 x5 x6 x7 x8 x9 iz iA iB iN ji jj jb k8 w)\/(∃c,e=.panicked c/\R (.panicked c) w)
abbrev bZ(w:zW)(a:Addr)(K:Int->Prop):Prop:=∃(x0:Int),w.cell? a=some (zI x0)/\K x0
abbrev bK(w:zW)(a:Addr)(K:zT->Prop):Prop:=∃(x0:zT),w.cell? a=some (zS x0)/\K x0
abbrev aHd(w:zW)(a:Addr)(K:zO->Nat->Nat->Prop):Prop:=∃(x0:zO)(x1:Nat)(x2:Nat),w.cell? a=some (zL x0 x1 x2)/\K x0 x1 x2
abbrev C2(f:FuncId)(a:List Value)(w:zW)(R:zE)(K:Int->zT->zT->Bool->zW->Prop):Prop:=aq f ⟨a⟩ w λe w=>(∃(x0:Int)(x1:zT)(x2:zT)(x3:Bool),e=.returned (.tuple #[.agg #[zI x0,zS x1,zS x2],zB x3])/\K x0 x1 x2 x3 w)\/(∃c,e=.panicked c/\R (.panicked c) w)
abbrev vF(w:zW)(a:Nat)(K:Int->zT->zT->Prop):Prop:=∃(x0:Int)(x1:zT)(x2:zT),w.cell? (Addr.mk a 0 none)=some (zI x0)/\w.cell? (Addr.mk a 1 none)=some (zS x1)/\w.cell? (Addr.mk a 2 none)=some (zS x2)/\K x0 x1 x2
abbrev zl0(i0:zT)(i1:Int)(w:zW)(K:(zT->Int->zW->Prop)->(zT->Int->zW->Nat)->zT->Int->zW->Prop):Prop:=∃(I:zT->Int->zW->Prop)(m:zT->Int->zW->Nat),I i0 i1 w/\∀x0 x1(_:zU)w1,I x0 x1 w1->K I m x0 x1 w1
abbrev kD(A:(zW->Prop)->Prop)(K:zW->Prop):Prop:=∃J:zW->Prop,A J/\∀(_:zU)w1,J w1->K w1
abbrev gN(A:(Bool->zW->Prop)->Prop)(K:Bool->zW->Prop):Prop:=∃J:Bool->zW->Prop,A J/\∀x0(_:zU)w1,J x0 w1->K x0 w1
abbrev fR(f:FuncId)(a:List Value)(w:zW)(R:zE)(K:zO->Nat->Nat->zW->Prop):Prop:=aq f ⟨a⟩ w λe w=>(∃(x0:zO)(x1:Nat)(x2:Nat),e=.returned (zL x0 x1 x2)/\K x0 x1 x2 w)\/(∃c,e=.panicked c/\R (.panicked c) w)
abbrev zj2(A:(zT->zW->Prop)->Prop)(K:zT->zW->Prop):Prop:=∃J:zT->zW->Prop,A J/\∀x0(_:zU)w1,J x0 w1->K x0 w1
abbrev zd3(w:zW)(a:Addr)(K:Int->Prop):Prop:=∃(x0:Int),w.cell? a=some (.int .u8 x0)/\K x0
abbrev g_(f:FuncId)(a:List Value)(w:zW)(R:zE)(K:zO->zW->Prop):Prop:=aq f ⟨a⟩ w λe w=>(∃(x0:zO),e=.returned (zP x0)/\K x0 w)\/(∃c,e=.panicked c/\R (.panicked c) w)
abbrev zK7(f:FuncId)(a:List Value)(w:zW)(R:zE)(K:Int->zT->zT->zO->Nat->Nat->zT->zO->Nat->Nat->zO->Nat->Nat->Int->Int->Int->Int->zW->Prop):Prop:=aq f ⟨a⟩ w λe w=>(∃(x0:Int)(x1:zT)(x2:zT)(x3:zO)(x4:Nat)(x5:Nat)(x6:zT)(x7:zO)(x8:Nat)(x9:Nat)(iz:zO)(iA:Nat)(iB:Nat)(iN:Int)(ji:Int)(jj:Int)(jb:Int),e=.returned (.agg #[zI x0,zS x1,zS x2,zL x3 x4 x5,zS x6,zL x7 x8 x9,zL iz iA iB,zI iN,zI ji,zI jj,zI jb])/\K x0 x1 x2 x3 x4 x5 x6 x7 x8 x9 iz iA iB iN ji jj jb w)\/(∃c,e=.panicked c/\R (.panicked c) w)
abbrev Ol(f:FuncId)(a:List Value)(w:zW)(R:zE)(K:zO->Int->zW->Prop):Prop:=aq f ⟨a⟩ w λe w=>(∃(x0:zO)(x1:Int),e=.returned (.tuple #[zP x0,zI x1])/\K x0 x1 w)\/(∃c,e=.panicked c/\R (.panicked c) w)
abbrev zK9(f:FuncId)(a:List Value)(w:zW)(R:zE)(K:Int->Bool->zT->zO->Nat->Nat->zO->Nat->Nat->zO->Nat->Nat->zO->Nat->Nat->zO->Nat->Nat->Int->zW->Prop):Prop:=aq f ⟨a⟩ w λe w=>(∃(x0:Int)(x1:Bool)(x2:zT)(x3:zO)(x4:Nat)(x5:Nat)(x6:zO)(x7:Nat)(x8:Nat)(x9:zO)(iz:Nat)(iA:Nat)(iB:zO)(iN:Nat)(ji:Nat)(jj:zO)(jb:Nat)(k8:Nat)(x18:Int),e=.returned (.tuple #[.agg #[zI x0,zB x1,zS x2,zL x3 x4 x5,zL x6 x7 x8,zL x9 iz iA,zL iB iN ji,zL jj jb k8],zI x18])/\K x0 x1 x2 x3 x4 x5 x6 x7 x8 x9 iz iA iB iN ji jj jb k8 x18 w)\/(∃c,e=.panicked c/\R (.panicked c) w)
abbrev iC(w:zW)(a:Nat)(K:Int->Bool->zT->zO->Nat->Nat->zO->Nat->Nat->zO->Nat->Nat->zO->Nat->Nat->zO->Nat->Nat->Prop):Prop:=∃(x0:Int)(x1:Bool)(x2:zT)(x3:zO)(x4:Nat)(x5:Nat)(x6:zO)(x7:Nat)(x8:Nat)(x9:zO)(iz:Nat)(iA:Nat)(iB:zO)(iN:Nat)(ji:Nat)(jj:zO)(jb:Nat)(k8:Nat),w.cell? (Addr.mk a 0 none)=some (zI x0)/\w.cell? (Addr.mk a 1 none)=some (zB x1)/\w.cell? (Addr.mk a 2 none)=some (zS x2)/\w.cell? (Addr.mk a 3 none)=some (zL x3 x4 x5)/\w.cell? (Addr.mk a 4 none)=some (zL x6 x7 x8)/\w.cell? (Addr.mk a 5 none)=some (zL x9 iz iA)/\w.cell? (Addr.mk a 6 none)=some (zL iB iN ji)/\w.cell? (Addr.mk a 7 none)=some (zL jj jb k8)/\K x0 x1 x2 x3 x4 x5 x6 x7 x8 x9 iz iA iB iN ji jj jb k8
abbrev pJ(w:zV)(a:Addr)(K:Int->Prop):Prop:=∃(x0:Int),(∀q,w q->q.cell? a=some (zI x0))/\K x0
abbrev gd(w:zV)(a:Addr)(K:zO->Nat->Nat->Prop):Prop:=∃(x0:zO)(x1:Nat)(x2:Nat),(∀q,w q->q.cell? a=some (zL x0 x1 x2))/\K x0 x1 x2
abbrev zs2(w:zW)(a:Nat)(K:Int->zT->zT->zO->Nat->Nat->zT->zO->Nat->Nat->zO->Nat->Nat->Int->Int->Int->Int->Prop):Prop:=∃(x0:Int)(x1:zT)(x2:zT)(x3:zO)(x4:Nat)(x5:Nat)(x6:zT)(x7:zO)(x8:Nat)(x9:Nat)(iz:zO)(iA:Nat)(iB:Nat)(iN:Int)(ji:Int)(jj:Int)(jb:Int),w.cell? (Addr.mk a 0 none)=some (zI x0)/\w.cell? (Addr.mk a 1 none)=some (zS x1)/\w.cell? (Addr.mk a 2 none)=some (zS x2)/\w.cell? (Addr.mk a 3 none)=some (zL x3 x4 x5)/\w.cell? (Addr.mk a 4 none)=some (zS x6)/\w.cell? (Addr.mk a 5 none)=some (zL x7 x8 x9)/\w.cell? (Addr.mk a 6 none)=some (zL iz iA iB)/\w.cell? (Addr.mk a 7 none)=some (zI iN)/\w.cell? (Addr.mk a 8 none)=some (zI ji)/\w.cell? (Addr.mk a 9 none)=some (zI jj)/\w.cell? (Addr.mk a 10 none)=some (zI jb)/\K x0 x1 x2 x3 x4 x5 x6 x7 x8 x9 iz iA iB iN ji jj jb
abbrev aHE(i0:Int)(w:zW)(K:(Int->zW->Prop)->(Int->zW->Nat)->Int->zW->Prop):Prop:=∃(I:Int->zW->Prop)(m:Int->zW->Nat),I i0 w/\∀x0(_:zU)w1,I x0 w1->K I m x0 w1
abbrev Om(w:zW)(a:Addr)(K:Int->Bool->zT->zT->zT->zO->Nat->Nat->Prop):Prop:=∃(x0:Int)(x1:Bool)(x2:zT)(x3:zT)(x4:zT)(x5:zO)(x6:Nat)(x7:Nat),w.cell? a=some (zI x0)/\w.cell? (a.add 1)=some (zB x1)/\w.cell? (a.add 2)=some (zS x2)/\w.cell? (a.add 3)=some (zS x3)/\w.cell? (a.add 4)=some (zS x4)/\w.cell? (a.add 5)=some (zL x5 x6 x7)/\K x0 x1 x2 x3 x4 x5 x6 x7
abbrev hO(w:zW)(a:Addr)(K:Bool->Prop):Prop:=∃(x0:Bool),w.cell? a=some (zB x0)/\K x0
abbrev aKe(w:zW)(a:Nat)(K:Int->Bool->zT->zT->zT->zO->Nat->Nat->Prop):Prop:=∃(x0:Int)(x1:Bool)(x2:zT)(x3:zT)(x4:zT)(x5:zO)(x6:Nat)(x7:Nat),w.cell? (Addr.mk a 0 none)=some (zI x0)/\w.cell? (Addr.mk a 1 none)=some (zB x1)/\w.cell? (Addr.mk a 2 none)=some (zS x2)/\w.cell? (Addr.mk a 3 none)=some (zS x3)/\w.cell? (Addr.mk a 4 none)=some (zS x4)/\w.cell? (Addr.mk a 5 none)=some (zL x5 x6 x7)/\K x0 x1 x2 x3 x4 x5 x6 x7
abbrev bD(f:FuncId)(a:List Value)(w:zW)(R:zE)(K:zW->Prop):Prop:=aq f ⟨a⟩ w λe w=>(e=.returned (.tuple #[])/\K w)\/(∃c,e=.panicked c/\R (.panicked c) w)
abbrev zl(w:zW)(a:Addr)(K:Value->Prop):Prop:=∃(x0:Value),x0.oneCell'=true/\w.cell? a=some (x0)/\K x0
abbrev On(A:(zO->zW->Prop)->Prop)(K:zO->zW->Prop):Prop:=∃J:zO->zW->Prop,A J/\∀x0(_:zU)w1,J x0 w1->K x0 w1
abbrev Oo(w:zV)(a:Addr)(K:Bool->Prop):Prop:=∃(x0:Bool),(∀q,w q->q.cell? a=some (zB x0))/\K x0
abbrev dR(w:zV)(a:Addr)(K:zT->Prop):Prop:=∃(x0:zT),(∀q,w q->q.cell? a=some (zS x0))/\K x0
abbrev aHj(w:zV)(a:Addr)(K:zO->Prop):Prop:=∃(x0:zO),(∀q,w q->q.cell? a=some (zP x0))/\K x0
abbrev cv(w:zW)(a:Addr)(K:zO->Prop):Prop:=∃(x0:zO),w.cell? a=some (zP x0)/\K x0
abbrev A6(f:FuncId)(a:List Value)(w:zW)(R:zE)(K:zO->Nat->Nat->Int->zW->Prop):Prop:=aq f ⟨a⟩ w λe w=>(∃(x0:zO)(x1:Nat)(x2:Nat)(x3:Int),e=.returned (.tuple #[zL x0 x1 x2,zI x3])/\K x0 x1 x2 x3 w)\/(∃c,e=.panicked c/\R (.panicked c) w)
abbrev xB(w:zV)(a:Addr)(K:Value->Prop):Prop:=∃(x0:Value),x0.oneCell'=true/\(∀q,w q->q.cell? a=some (x0))/\K x0
abbrev zs5(w:zV)(a:Nat)(K:Int->Bool->zT->zO->Nat->Nat->zO->Nat->Nat->zO->Nat->Nat->zO->Nat->Nat->zO->Nat->Nat->Prop):Prop:=∃(x0:Int)(x1:Bool)(x2:zT)(x3:zO)(x4:Nat)(x5:Nat)(x6:zO)(x7:Nat)(x8:Nat)(x9:zO)(iz:Nat)(iA:Nat)(iB:zO)(iN:Nat)(ji:Nat)(jj:zO)(jb:Nat)(k8:Nat),(∀q,w q->q.cell? (Addr.mk a 0 none)=some (zI x0))/\(∀q,w q->q.cell? (Addr.mk a 1 none)=some (zB x1))/\(∀q,w q->q.cell? (Addr.mk a 2 none)=some (zS x2))/\(∀q,w q->q.cell? (Addr.mk a 3 none)=some (zL x3 x4 x5))/\(∀q,w q->q.cell? (Addr.mk a 4 none)=some (zL x6 x7 x8))/\(∀q,w q->q.cell? (Addr.mk a 5 none)=some (zL x9 iz iA))/\(∀q,w q->q.cell? (Addr.mk a 6 none)=some (zL iB iN ji))/\(∀q,w q->q.cell? (Addr.mk a 7 none)=some (zL jj jb k8))/\K x0 x1 x2 x3 x4 x5 x6 x7 x8 x9 iz iA iB iN ji jj jb k8
abbrev agt(f:FuncId)(a:List Value)(w:zW)(R:zE)(K:zT->zT->Bool->zW->Prop):Prop:=aq f ⟨a⟩ w λe w=>(∃(x0:zT)(x1:zT)(x2:Bool),e=.returned (.tuple #[zS x0,zS x1,zB x2])/\K x0 x1 x2 w)\/(∃c,e=.panicked c/\R (.panicked c) w)
abbrev aG_(f:FuncId)(a:List Value)(w:zW)(R:zE)(K:Int->zW->Prop):Prop:=aq f ⟨a⟩ w λe w=>(∃(x0:Int),e=.returned (zI x0)/\K x0 w)\/(∃c,e=.panicked c/\R (.panicked c) w)
abbrev xp(f:FuncId)(a:List Value)(w:zW)(R:zE)(K:Int->Bool->zW->Prop):Prop:=aq f ⟨a⟩ w λe w=>(∃(x0:Int)(x1:Bool),e=.returned (.tuple #[zI x0,zB x1])/\K x0 x1 w)\/(∃c,e=.panicked c/\R (.panicked c) w)
abbrev zj4(A:(zO->Nat->Nat->zW->Prop)->Prop)(K:zO->Nat->Nat->zW->Prop):Prop:=∃J:zO->Nat->Nat->zW->Prop,A J/\∀x0 x1 x2(_:zU)w1,J x0 x1 x2 w1->K x0 x1 x2 w1
abbrev zl2(i0:zO)(i1:Nat)(i2:Nat)(w:zW)(K:(zO->Nat->Nat->zW->Prop)->(zO->Nat->Nat->zW->Nat)->zO->Nat->Nat->zW->Prop):Prop:=∃(I:zO->Nat->Nat->zW->Prop)(m:zO->Nat->Nat->zW->Nat),I i0 i1 i2 w/\∀x0 x1 x2(_:zU)w1,I x0 x1 x2 w1->K I m x0 x1 x2 w1
abbrev aJv(i0:zO)(i1:Nat)(i2:Nat)(i3:Int)(w:zW)(K:(zO->Nat->Nat->Int->zW->Prop)->(zO->Nat->Nat->Int->zW->Nat)->zO->Nat->Nat->Int->zW->Prop):Prop:=∃(I:zO->Nat->Nat->Int->zW->Prop)(m:zO->Nat->Nat->Int->zW->Nat),I i0 i1 i2 i3 w/\∀x0 x1 x2 x3(_:zU)w1,I x0 x1 x2 x3 w1->K I m x0 x1 x2 x3 w1
abbrev Wg(w:zV)(a:Nat)(K:zT->Bool->Prop):Prop:=∃(x0:zT)(x1:Bool),(∀q,w q->q.cell? (Addr.mk a 0 none)=some (zS x0))/\(∀q,w q->q.cell? (Addr.mk a 1 none)=some (zB x1))/\K x0 x1
abbrev zs7(w:zV)(a:Addr)(K:Int->Bool->zT->zO->Nat->Nat->zO->Nat->Nat->zO->Nat->Nat->zO->Nat->Nat->zO->Nat->Nat->Prop):Prop:=∃(x0:Int)(x1:Bool)(x2:zT)(x3:zO)(x4:Nat)(x5:Nat)(x6:zO)(x7:Nat)(x8:Nat)(x9:zO)(iz:Nat)(iA:Nat)(iB:zO)(iN:Nat)(ji:Nat)(jj:zO)(jb:Nat)(k8:Nat),(∀q,w q->q.cell? a=some (zI x0))/\(∀q,w q->q.cell? (a.add 1)=some (zB x1))/\(∀q,w q->q.cell? (a.add 2)=some (zS x2))/\(∀q,w q->q.cell? (a.add 3)=some (zL x3 x4 x5))/\(∀q,w q->q.cell? (a.add 4)=some (zL x6 x7 x8))/\(∀q,w q->q.cell? (a.add 5)=some (zL x9 iz iA))/\(∀q,w q->q.cell? (a.add 6)=some (zL iB iN ji))/\(∀q,w q->q.cell? (a.add 7)=some (zL jj jb k8))/\K x0 x1 x2 x3 x4 x5 x6 x7 x8 x9 iz iA iB iN ji jj jb k8
abbrev tJ(w:zW)(K:(zW->Prop)->(zW->Nat)->zW->Prop):Prop:=∃(I:zW->Prop)(m:zW->Nat),I w/\∀(_:zU)w1,I w1->K I m w1
abbrev CS(f:FuncId)(a:List Value)(w:zW)(R:zE)(K:Int->Bool->zT->zO->Nat->Nat->zO->Nat->Nat->zO->Nat->Nat->zO->Nat->Nat->zO->Nat->Nat->zW->Prop):Prop:=aq f ⟨a⟩ w λe w=>(∃(x0:Int)(x1:Bool)(x2:zT)(x3:zO)(x4:Nat)(x5:Nat)(x6:zO)(x7:Nat)(x8:Nat)(x9:zO)(iz:Nat)(iA:Nat)(iB:zO)(iN:Nat)(ji:Nat)(jj:zO)(jb:Nat)(k8:Nat),e=.returned (.agg #[zI x0,zB x1,zS x2,zL x3 x4 x5,zL x6 x7 x8,zL x9 iz iA,zL iB iN ji,zL jj jb k8])/\K x0 x1 x2 x3 x4 x5 x6 x7 x8 x9 iz iA iB iN ji jj jb k8 w)\/(∃c,e=.panicked c/\R (.panicked c) w)
abbrev aKf(w:zW)(a:Addr)(K:Int->Bool->zT->zO->Nat->Nat->zO->Nat->Nat->zO->Nat->Nat->zO->Nat->Nat->zO->Nat->Nat->Prop):Prop:=∃(x0:Int)(x1:Bool)(x2:zT)(x3:zO)(x4:Nat)(x5:Nat)(x6:zO)(x7:Nat)(x8:Nat)(x9:zO)(iz:Nat)(iA:Nat)(iB:zO)(iN:Nat)(ji:Nat)(jj:zO)(jb:Nat)(k8:Nat),w.cell? a=some (zI x0)/\w.cell? (a.add 1)=some (zB x1)/\w.cell? (a.add 2)=some (zS x2)/\w.cell? (a.add 3)=some (zL x3 x4 x5)/\w.cell? (a.add 4)=some (zL x6 x7 x8)/\w.cell? (a.add 5)=some (zL x9 iz iA)/\w.cell? (a.add 6)=some (zL iB iN ji)/\w.cell? (a.add 7)=some (zL jj jb k8)/\K x0 x1 x2 x3 x4 x5 x6 x7 x8 x9 iz iA iB iN ji jj jb k8
abbrev I6(w:zW)(a:Addr)(K:zT->zO->Nat->Nat->Prop):Prop:=∃(x0:zT)(x1:zO)(x2:Nat)(x3:Nat),w.cell? a=some (zS x0)/\w.cell? (a.add 1)=some (zL x1 x2 x3)/\K x0 x1 x2 x3
abbrev xq(w:zW)(a:Nat)(K:zT->zO->Nat->Nat->Prop):Prop:=∃(x0:zT)(x1:zO)(x2:Nat)(x3:Nat),w.cell? (Addr.mk a 0 none)=some (zS x0)/\w.cell? (Addr.mk a 1 none)=some (zL x1 x2 x3)/\K x0 x1 x2 x3
abbrev aKt(f:FuncId)(a:List Value)(w:zW)(R:zE)(K:zT->zT->Bool->Bool->Bool->zW->Prop):Prop:=aq f ⟨a⟩ w λe w=>(∃(x0:zT)(x1:zT)(x2:Bool)(x3:Bool)(x4:Bool),e=.returned (.tuple #[.agg #[zS x0,zS x1,zB x2,zB x3],zB x4])/\K x0 x1 x2 x3 x4 w)\/(∃c,e=.panicked c/\R (.panicked c) w)
abbrev Bl(A:(Int->zW->Prop)->Prop)(K:Int->zW->Prop):Prop:=∃J:Int->zW->Prop,A J/\∀x0(_:zU)w1,J x0 w1->K x0 w1
abbrev zl5(i0:zT)(i1:zO)(i2:Nat)(i3:Nat)(w:zW)(K:(zT->zO->Nat->Nat->zW->Prop)->(zT->zO->Nat->Nat->zW->Nat)->zT->zO->Nat->Nat->zW->Prop):Prop:=∃(I:zT->zO->Nat->Nat->zW->Prop)(m:zT->zO->Nat->Nat->zW->Nat),I i0 i1 i2 i3 w/\∀x0 x1 x2 x3(_:zU)w1,I x0 x1 x2 x3 w1->K I m x0 x1 x2 x3 w1
abbrev C5(i0:Int)(i1:Int)(w:zW)(K:(Int->Int->zW->Prop)->(Int->Int->zW->Nat)->Int->Int->zW->Prop):Prop:=∃(I:Int->Int->zW->Prop)(m:Int->Int->zW->Nat),I i0 i1 w/\∀x0 x1(_:zU)w1,I x0 x1 w1->K I m x0 x1 w1
abbrev aJd(f:FuncId)(a:List Value)(w:zW)(R:zE)(K:Int->Int->zT->zW->Prop):Prop:=aq f ⟨a⟩ w λe w=>(∃(x0:Int)(x1:Int)(x2:zT),e=.returned (.agg #[zI x0,zI x1,zS x2])/\K x0 x1 x2 w)\/(∃c,e=.panicked c/\R (.panicked c) w)
abbrev EL(f:FuncId)(a:List Value)(w:zW)(R:zE)(K:zO->Nat->Nat->Bool->zW->Prop):Prop:=aq f ⟨a⟩ w λe w=>(∃(x0:zO)(x1:Nat)(x2:Nat)(x3:Bool),e=.returned (.tuple #[zL x0 x1 x2,zB x3])/\K x0 x1 x2 x3 w)\/(∃c,e=.panicked c/\R (.panicked c) w)
abbrev A7(f:FuncId)(a:List Value)(w:zW)(R:zE)(K:zT->Bool->zW->Prop):Prop:=aq f ⟨a⟩ w λe w=>(∃(x0:zT)(x1:Bool),e=.returned (.tuple #[zS x0,zB x1])/\K x0 x1 w)\/(∃c,e=.panicked c/\R (.panicked c) w)
abbrev aIl(f:FuncId)(a:List Value)(w:zW)(R:zE)(K:Int->zT->zW->Prop):Prop:=aq f ⟨a⟩ w λe w=>(∃(x0:Int)(x1:zT),e=.returned (.agg #[zI x0,zS x1])/\K x0 x1 w)\/(∃c,e=.panicked c/\R (.panicked c) w)
abbrev NC(w:zW)(a:Addr)(K:zT->zT->Bool->Bool->Prop):Prop:=∃(x0:zT)(x1:zT)(x2:Bool)(x3:Bool),w.cell? a=some (zS x0)/\w.cell? (a.add 1)=some (zS x1)/\w.cell? (a.add 2)=some (zB x2)/\w.cell? (a.add 3)=some (zB x3)/\K x0 x1 x2 x3
abbrev CT(w:zW)(a:Nat)(K:zT->zT->Bool->Bool->Prop):Prop:=∃(x0:zT)(x1:zT)(x2:Bool)(x3:Bool),w.cell? (Addr.mk a 0 none)=some (zS x0)/\w.cell? (Addr.mk a 1 none)=some (zS x1)/\w.cell? (Addr.mk a 2 none)=some (zB x2)/\w.cell? (Addr.mk a 3 none)=some (zB x3)/\K x0 x1 x2 x3
abbrev IB(w:zW)(a:Nat)(K:Int->Int->zT->Prop):Prop:=∃(x0:Int)(x1:Int)(x2:zT),w.cell? (Addr.mk a 0 none)=some (zI x0)/\w.cell? (Addr.mk a 1 none)=some (zI x1)/\w.cell? (Addr.mk a 2 none)=some (zS x2)/\K x0 x1 x2
abbrev zF0(f:FuncId)(a:List Value)(w:zW)(K:zT->Bool->zW->Prop):Prop:=aq f ⟨a⟩ w λe w=>(∃(x0:zT)(x1:Bool),e=.returned (.tuple #[zS x0,zB x1])/\K x0 x1 w)\/(∃c,e=.panicked c/\False)
abbrev zF1(f:FuncId)(a:List Value)(w:zW)(K:Bool->zW->Prop):Prop:=aq f ⟨a⟩ w λe w=>(∃(x0:Bool),e=.returned (zB x0)/\K x0 w)\/(∃c,e=.panicked c/\False)
abbrev Wh(A:(zO->Nat->Nat->Int->zW->Prop)->Prop)(K:zO->Nat->Nat->Int->zW->Prop):Prop:=∃J:zO->Nat->Nat->Int->zW->Prop,A J/\∀x0 x1 x2 x3(_:zU)w1,J x0 x1 x2 x3 w1->K x0 x1 x2 x3 w1
abbrev agu(f:FuncId)(a:List Value)(w:zW)(R:zE)(K:zO->Nat->Nat->zO->Nat->Nat->zO->Nat->Nat->Int->Int->zW->Prop):Prop:=aq f ⟨a⟩ w λe w=>(∃(x0:zO)(x1:Nat)(x2:Nat)(x3:zO)(x4:Nat)(x5:Nat)(x6:zO)(x7:Nat)(x8:Nat)(x9:Int)(iz:Int),e=.returned (.tuple #[zL x0 x1 x2,.agg #[zL x3 x4 x5,zL x6 x7 x8,zI x9],zI iz])/\K x0 x1 x2 x3 x4 x5 x6 x7 x8 x9 iz w)\/(∃c,e=.panicked c/\R (.panicked c) w)
abbrev zj7(A:(zO->Bool->zW->Prop)->Prop)(K:zO->Bool->zW->Prop):Prop:=∃J:zO->Bool->zW->Prop,A J/\∀x0 x1(_:zU)w1,J x0 x1 w1->K x0 x1 w1
abbrev agv(f:FuncId)(a:List Value)(w:zW)(R:zE)(K:zO->Nat->Nat->zO->Nat->Nat->zW->Prop):Prop:=aq f ⟨a⟩ w λe w=>(∃(x0:zO)(x1:Nat)(x2:Nat)(x3:zO)(x4:Nat)(x5:Nat),e=.returned (.tuple #[zL x0 x1 x2,zL x3 x4 x5])/\K x0 x1 x2 x3 x4 x5 w)\/(∃c,e=.panicked c/\R (.panicked c) w)
abbrev aKQ(w:zV)(a:Nat)(K:Int->Int->zT->Prop):Prop:=∃(x0:Int)(x1:Int)(x2:zT),(∀q,w q->q.cell? (Addr.mk a 0 none)=some (zI x0))/\(∀q,w q->q.cell? (Addr.mk a 1 none)=some (zI x1))/\(∀q,w q->q.cell? (Addr.mk a 2 none)=some (zS x2))/\K x0 x1 x2
abbrev ND(f:FuncId)(a:List Value)(w:zW)(R:zE)(K:zT->Int->zW->Prop):Prop:=aq f ⟨a⟩ w λe w=>(∃(x0:zT)(x1:Int),e=.returned (.tuple #[zS x0,zI x1])/\K x0 x1 w)\/(∃c,e=.panicked c/\R (.panicked c) w)
abbrev NF(w:zW)(a:Addr)(K:Int->zT->Prop):Prop:=∃(x0:Int)(x1:zT),w.cell? a=some (zI x0)/\w.cell? (a.add 1)=some (zS x1)/\K x0 x1
abbrev IC(w:zW)(a:Nat)(K:Int->zT->Prop):Prop:=∃(x0:Int)(x1:zT),w.cell? (Addr.mk a 0 none)=some (zI x0)/\w.cell? (Addr.mk a 1 none)=some (zS x1)/\K x0 x1
abbrev CU(w:zW)(a:Nat)(K:zO->Nat->Nat->zO->Nat->Nat->Int->Prop):Prop:=∃(x0:zO)(x1:Nat)(x2:Nat)(x3:zO)(x4:Nat)(x5:Nat)(x6:Int),w.cell? (Addr.mk a 0 none)=some (zL x0 x1 x2)/\w.cell? (Addr.mk a 1 none)=some (zL x3 x4 x5)/\w.cell? (Addr.mk a 2 none)=some (zI x6)/\K x0 x1 x2 x3 x4 x5 x6
abbrev agw(w:zV)(a:Addr)(K:zO->Nat->Nat->zO->Nat->Nat->Int->Prop):Prop:=∃(x0:zO)(x1:Nat)(x2:Nat)(x3:zO)(x4:Nat)(x5:Nat)(x6:Int),(∀q,w q->q.cell? a=some (zL x0 x1 x2))/\(∀q,w q->q.cell? (a.add 1)=some (zL x3 x4 x5))/\(∀q,w q->q.cell? (a.add 2)=some (zI x6))/\K x0 x1 x2 x3 x4 x5 x6
abbrev agx(w:zW)(a:Addr)(K:Int->zT->zT->Prop):Prop:=∃(x0:Int)(x1:zT)(x2:zT),w.cell? a=some (zI x0)/\w.cell? (a.add 1)=some (zS x1)/\w.cell? (a.add 2)=some (zS x2)/\K x0 x1 x2
abbrev zF2(f:FuncId)(a:List Value)(w:zW)(K:zT->Int->Int->zT->zW->Prop):Prop:=aq f ⟨a⟩ w λe w=>(∃(x0:zT)(x1:Int)(x2:Int)(x3:zT),e=.returned (.tuple #[zS x0,.agg #[zI x1,zI x2,zS x3]])/\K x0 x1 x2 x3 w)\/(∃c,e=.panicked c/\False)
abbrev zF3(f:FuncId)(a:List Value)(w:zW)(K:zW->Prop):Prop:=aq f ⟨a⟩ w λe w=>(e=.returned (.tuple #[])/\K w)\/(∃c,e=.panicked c/\False)
abbrev agy(w:zW)(a:Nat)(K:Int->zT->zT->Prop):Prop:=∃(x0:Int)(x1:zT)(x2:zT),w.cell? (Addr.mk a 3 none)=some (zI x0)/\w.cell? (Addr.mk a 4 none)=some (zS x1)/\w.cell? (Addr.mk a 5 none)=some (zS x2)/\K x0 x1 x2
abbrev agz(f:FuncId)(a:List Value)(w:zW)(R:zE)(K:Int->zT->zW->Prop):Prop:=aq f ⟨a⟩ w λe w=>(∃(x0:Int)(x1:zT),e=.returned (.tuple #[.int .u8 x0,zS x1])/\K x0 x1 w)\/(∃c,e=.panicked c/\R (.panicked c) w)
abbrev Wi(i0:zT)(w:zW)(K:(zT->zW->Prop)->(zT->zW->Nat)->zT->zW->Prop):Prop:=∃(I:zT->zW->Prop)(m:zT->zW->Nat),I i0 w/\∀x0(_:zU)w1,I x0 w1->K I m x0 w1
abbrev agA(f:FuncId)(a:List Value)(w:zW)(R:zE)(K:zT->zO->Nat->Nat->zW->Prop):Prop:=aq f ⟨a⟩ w λe w=>(∃(x0:zT)(x1:zO)(x2:Nat)(x3:Nat),e=.returned (.agg #[zS x0,zL x1 x2 x3])/\K x0 x1 x2 x3 w)\/(∃c,e=.panicked c/\R (.panicked c) w)
abbrev zj9(A:(zT->Int->zW->Prop)->Prop)(K:zT->Int->zW->Prop):Prop:=∃J:zT->Int->zW->Prop,A J/\∀x0 x1(_:zU)w1,J x0 x1 w1->K x0 x1 w1
abbrev EM(f:FuncId)(a:List Value)(w:zW)(R:zE)(K:Int->zW->Prop):Prop:=aq f ⟨a⟩ w λe w=>(∃(x0:Int),e=.returned (.int .u8 x0)/\K x0 w)\/(∃c,e=.panicked c/\R (.panicked c) w)
abbrev agB(A:(Bool->Int->zW->Prop)->Prop)(K:Bool->Int->zW->Prop):Prop:=∃J:Bool->Int->zW->Prop,A J/\∀x0 x1(_:zU)w1,J x0 x1 w1->K x0 x1 w1
abbrev EN(w:zV)(a:Addr)(K:zT->Bool->zT->Prop):Prop:=∃(x0:zT)(x1:Bool)(x2:zT),(∀q,w q->q.cell? a=some (zS x0))/\(∀q,w q->q.cell? (a.add 1)=some (zB x1))/\(∀q,w q->q.cell? (a.add 2)=some (zS x2))/\K x0 x1 x2
abbrev I7(w:zW)(a:Addr)(K:Int->Prop):Prop:=∃(x0:Int),w.cell? a=some (.int .u32 x0)/\K x0
abbrev tK(w:zV)(a:Addr)(K:Int->Prop):Prop:=∃(x0:Int),(∀q,w q->q.cell? a=some (.int .u32 x0))/\K x0
abbrev tB(f:FuncId)(a:List Value)(w:zW)(R:zE)(K:Int->zW->Prop):Prop:=aq f ⟨a⟩ w λe w=>(∃(x0:Int),e=.returned (.int .u32 x0)/\K x0 w)\/(∃c,e=.panicked c/\R (.panicked c) w)
abbrev Vs(w:zV)(a:Nat)(K:Int->Bool->zT->zT->zT->zO->Nat->Nat->Prop):Prop:=∃(x0:Int)(x1:Bool)(x2:zT)(x3:zT)(x4:zT)(x5:zO)(x6:Nat)(x7:Nat),(∀q,w q->q.cell? (Addr.mk a 0 none)=some (zI x0))/\(∀q,w q->q.cell? (Addr.mk a 1 none)=some (zB x1))/\(∀q,w q->q.cell? (Addr.mk a 2 none)=some (zS x2))/\(∀q,w q->q.cell? (Addr.mk a 3 none)=some (zS x3))/\(∀q,w q->q.cell? (Addr.mk a 4 none)=some (zS x4))/\(∀q,w q->q.cell? (Addr.mk a 5 none)=some (zL x5 x6 x7))/\K x0 x1 x2 x3 x4 x5 x6 x7
abbrev Zh:Nat:=3
abbrev R1:Nat:=6
abbrev Rm:Nat:=7
abbrev KT:Nat:=8
abbrev Gq:Nat:=9
abbrev aKC:Nat:=10
abbrev La:Nat:=11
abbrev uh:Nat:=13
abbrev Gs:Nat:=15
abbrev Lb:Nat:=16
abbrev RN:Nat:=17
abbrev KU:Nat:=18
abbrev DQ:Nat:=19
abbrev B7:Nat:=20
abbrev wE:Nat:=21
abbrev DO:Nat:=22
abbrev DH:Nat:=23
abbrev qG:Nat:=24
abbrev pX:Nat:=25
abbrev ZG:Nat:=26
abbrev ZR:Nat:=27
abbrev B4:Nat:=28
abbrev Zw:Nat:=29
abbrev Zx:Nat:=30
abbrev ZS:Nat:=31
abbrev Gn:Nat:=32
abbrev Zy:Nat:=33
abbrev ZH:Nat:=34
abbrev ZT:Nat:=35
abbrev Zz:Nat:=36
abbrev YT:Nat:=37
abbrev Y1:Nat:=38
abbrev iT:Nat:=40
abbrev Ks:Nat:=41
abbrev Lc:Nat:=42
abbrev rI:Nat:=43
abbrev QF:Nat:=44
abbrev amc:Nat:=45
abbrev aJm:Nat:=46
abbrev Pw:Nat:=47
abbrev DI:Nat:=48
abbrev DJ:Nat:=49
abbrev RO:Nat:=50
abbrev RP:Nat:=51
abbrev Rn:Nat:=52
abbrev KI:Nat:=53
abbrev Qk:Nat:=54
abbrev DV:Nat:=55
abbrev Gd:Nat:=56
abbrev Zi:Nat:=57
abbrev Y8:Nat:=58
abbrev aKl:Nat:=59
abbrev Y9:Nat:=60
abbrev ZA:Nat:=61
abbrev Y2:Nat:=62
abbrev Zj:Nat:=63
abbrev YU:Nat:=64
abbrev Y_:Nat:=65
abbrev Zk:Nat:=66
abbrev YL:Nat:=67
abbrev Ro:Nat:=68
abbrev J_:Nat:=69
abbrev Za:Nat:=70
abbrev QG:Nat:=71
abbrev QV:Nat:=72
abbrev DK:Nat:=73
abbrev aKw:Nat:=74
abbrev Ql:Nat:=75
abbrev Kl:Nat:=76
abbrev KD:Nat:=77
abbrev RC:Nat:=78
abbrev aKm:Nat:=79
abbrev bS:Nat:=80
abbrev F_:Nat:=81
abbrev K5:Nat:=82
abbrev DT:Nat:=83
abbrev Rp:Nat:=86
abbrev KR:Nat:=87
abbrev wF:Nat:=88
abbrev am7:Nat:=89
abbrev J4:Nat:=91
abbrev aKu:Nat:=92
abbrev Rf:Nat:=93
abbrev PD:Nat:=94
abbrev aJX:Nat:=95
abbrev ajQ:Nat:=96
abbrev X0:Nat:=97
abbrev Zl:Nat:=99
abbrev Rg:Nat:=100
abbrev Pv:Nat:=102
abbrev QH:Nat:=104
abbrev akJ:Nat:=107
abbrev J7:Nat:=108
abbrev QW:Nat:=109
abbrev QI:Nat:=110
abbrev P0:Nat:=111
abbrev F3:Nat:=113
abbrev Qm:Nat:=114
abbrev F4:Nat:=115
abbrev BP:Nat:=116
abbrev Km:Nat:=117
abbrev alm:Nat:=118
abbrev Rq:Nat:=120
abbrev PK:Nat:=121
abbrev an3:Nat:=122
abbrev aJ3:Nat:=123
abbrev oA:Nat:=124
abbrev PT:Nat:=125
abbrev Kt:Nat:=126
abbrev PO:Nat:=127
abbrev Qn:Nat:=128
abbrev BQ:Nat:=129
abbrev Qo:Nat:=130
abbrev P8:Nat:=131
abbrev DF:Nat:=132
abbrev wC:Nat:=133
abbrev PL:Nat:=134
abbrev amO:Nat:=135
abbrev Yh:Nat:=136
abbrev Yi:Nat:=137
abbrev ajK:Nat:=143
abbrev B9:Nat:=144
abbrev wz:Nat:=145
abbrev F0:Nat:=147
abbrev Gx:Nat:=148
abbrev RD:Nat:=149
abbrev Gy:Nat:=150
abbrev ak2:Nat:=151
abbrev am8:Nat:=155
abbrev FQ:Nat:=156
abbrev Zb:Nat:=158
abbrev YE:Nat:=161
abbrev Yj:Nat:=163
abbrev ajJ:Nat:=164
abbrev B3:Nat:=165
abbrev K6:Nat:=166
abbrev Ge:Nat:=167
abbrev Ka:Nat:=168
abbrev DL:Nat:=170
abbrev P9:Nat:=171
abbrev P_:Nat:=172
abbrev PU:Nat:=173
abbrev Qv:Nat:=174
abbrev Qw:Nat:=175
abbrev DM:Nat:=176
abbrev Kb:Nat:=177
abbrev KE:Nat:=178
abbrev Qx:Nat:=179
abbrev Qy:Nat:=181
abbrev P3:Nat:=186
abbrev aln:Nat:=187
abbrev aKV:Nat:=188
abbrev aKx:Nat:=189
abbrev ym:Nat:=191
abbrev ya:Nat:=192
abbrev aJ1:Nat:=193
abbrev KJ:Nat:=194
abbrev Ku:Nat:=195
abbrev BV:Nat:=196
abbrev uc:Nat:=197
abbrev K7:Nat:=200
abbrev Ld:Nat:=201
abbrev KX:Nat:=203
abbrev Kn:Nat:=204
abbrev Ll:Nat:=205
abbrev K8:Nat:=206
abbrev aKy:Nat:=207
abbrev RQ:Nat:=208
abbrev QX:Nat:=224
abbrev Pu:Nat:=230
abbrev DP:Nat:=231
abbrev Px:Nat:=232
abbrev J2:Nat:=233
abbrev PV:Nat:=234
abbrev Kc:Nat:=235
abbrev Gf:Nat:=236
abbrev BW:Nat:=237
abbrev DB:Nat:=238
abbrev RR:Nat:=239
abbrev P4:Nat:=241
abbrev F5:Nat:=242
abbrev Ko:Nat:=243
abbrev KK:Nat:=244
abbrev Kw:Nat:=245
abbrev Ga:Nat:=246
abbrev aIP:Nat:=247
abbrev aKk:Nat:=248
abbrev jX:Nat:=249
abbrev YF:Nat:=250
abbrev Q9:Nat:=251
abbrev QY:Nat:=252
abbrev Pk:Nat:=253
abbrev Kv:Nat:=258
abbrev Rt:Nat:=259
abbrev YV:Nat:=260
abbrev alB:Nat:=261
abbrev anH:Nat:=262
abbrev an4:Nat:=263
abbrev BR:Nat:=266
abbrev Ke:Nat:=267
abbrev DW:Nat:=269
abbrev Pm:Nat:=270
abbrev B5:Nat:=271
abbrev amt:Nat:=272
abbrev anI:Nat:=273
abbrev QJ:Nat:=274
abbrev Py:Nat:=275
abbrev KA:Nat:=289
abbrev PE:Nat:=290
abbrev Qa:Nat:=291
abbrev Qp:Nat:=292
abbrev alV:Nat:=293
abbrev ak3:Nat:=294
abbrev QZ:Nat:=296
abbrev ak4:Nat:=297
abbrev Le:Nat:=298
abbrev Rh:Nat:=299
abbrev Qb:Nat:=300
abbrev aKv:Nat:=301
abbrev R2:Nat:=302
abbrev Kf:Nat:=303
abbrev ak5:Nat:=305
abbrev akl:Nat:=306
abbrev ajY:Nat:=307
abbrev akf:Nat:=308
abbrev alW:Nat:=309
abbrev alo:Nat:=310
abbrev akK:Nat:=311
abbrev alC:Nat:=312
abbrev alD:Nat:=313
abbrev amd:Nat:=314
abbrev amu:Nat:=315
abbrev ame:Nat:=316
abbrev alX:Nat:=317
abbrev alY:Nat:=318
abbrev Sa:Nat:=321
abbrev Ru:Nat:=322
abbrev QK:Nat:=323
abbrev Gt:Nat:=324
abbrev DC:Nat:=325
abbrev RE:Nat:=326
abbrev Q0:Nat:=327
abbrev Pn:Nat:=328
abbrev Pq:Nat:=329
abbrev aJ6:Nat:=330
abbrev Po:Nat:=331
abbrev aKz:Nat:=332
abbrev Q_:Nat:=333
abbrev qE:Nat:=334
abbrev Gr:Nat:=335
abbrev RS:Nat:=336
abbrev QL:Nat:=338
abbrev RT:Nat:=339
abbrev alZ:Nat:=343
abbrev alp:Nat:=344
abbrev ak6:Nat:=345
abbrev Yv:Nat:=346
abbrev alE:Nat:=347
abbrev alq:Nat:=348
abbrev J9:Nat:=349
abbrev FW:Nat:=350
abbrev akm:Nat:=351
abbrev P5:Nat:=352
abbrev X3:Nat:=355
abbrev PA:Nat:=362
abbrev J5:Nat:=363
abbrev KY:Nat:=367
abbrev Qc:Nat:=368
abbrev P6:Nat:=369
abbrev BS:Nat:=370
abbrev X8:Nat:=371
abbrev Q1:Nat:=372
abbrev amf:Nat:=373
abbrev an5:Nat:=374
abbrev Gg:Nat:=375
abbrev al0:Nat:=390
abbrev Gh:Nat:=391
abbrev Zm:Nat:=392
abbrev Zn:Nat:=393
abbrev Zo:Nat:=394
abbrev Zp:Nat:=395
abbrev YW:Nat:=396
abbrev YX:Nat:=397
abbrev YY:Nat:=398
abbrev YZ:Nat:=399
abbrev Zq:Nat:=400
abbrev Y0:Nat:=401
abbrev YG:Nat:=402
abbrev Zc:Nat:=403
abbrev Zd:Nat:=404
abbrev Yw:Nat:=405
abbrev Ri:Nat:=406
abbrev FP:Nat:=407
abbrev RU:Nat:=408
abbrev Qq:Nat:=409
abbrev Q2:Nat:=410
abbrev K9:Nat:=411
abbrev FN:Nat:=412
abbrev Rj:Nat:=413
abbrev QM:Nat:=414
abbrev KM:Nat:=418
abbrev Ra:Nat:=419
abbrev QN:Nat:=420
abbrev Qd:Nat:=421
abbrev FX:Nat:=425
abbrev PI:Nat:=427
abbrev aJ0:Nat:=431
abbrev ajM:Nat:=432
abbrev akL:Nat:=433
abbrev Qe:Nat:=435
abbrev Kp:Nat:=436
abbrev FY:Nat:=437
abbrev Gi:Nat:=438
abbrev KN:Nat:=439
abbrev PW:Nat:=440
abbrev PX:Nat:=441
abbrev FR:Nat:=446
abbrev Rb:Nat:=452
abbrev J1:Nat:=466
abbrev ajC:Nat:=469
abbrev ajF:Nat:=473
abbrev KS:Nat:=474
abbrev YH:Nat:=475
abbrev Rv:Nat:=476
abbrev Rw:Nat:=477
abbrev aIM:Nat:=478
abbrev Lf:Nat:=479
abbrev K_:Nat:=480
abbrev RG:Nat:=489
abbrev RH:Nat:=501
abbrev Yb:Nat:=502
abbrev RV:Nat:=503
abbrev KF:Nat:=512
abbrev Qr:Nat:=513
abbrev Qf:Nat:=514
abbrev Qz:Nat:=515
abbrev oE:Nat:=516
abbrev QA:Nat:=517
abbrev Lg:Nat:=518
abbrev Lr:Nat:=519
abbrev alF:Nat:=520
abbrev KZ:Nat:=521
abbrev DZ:Nat:=25
abbrev Sb:Nat:=66
abbrev qF:Nat:=95
abbrev RW:Nat:=97
abbrev jW:Nat:=100
abbrev akn:Nat:=175
abbrev Q3:Nat:=176
abbrev Gp:Nat:=178
abbrev am9:Nat:=191
abbrev qH:Nat:=236
abbrev am_:Nat:=439
def aP{P:Program}{f:FuncId}{fn:Func}{c:Code}{args:List Value}{w:World}{R:Ending->World->Prop}{C:Prop}(l:List (Nat×List (Nat×Ty)))(d:List (Nat×M5))(hf:P.funcs[f]?=some fn)(hb:fn.body=some c)(h:C)(e:C=vc P ⟨l,d,[]⟩ c 1 (kL P fn.results.toList R) (nI fn.ntmps args) w:=by kernel_rfl):Calls P f ⟨args⟩ w R:=
 Ao ⟨l,d,[]⟩ hf hb (Eq.mp e h)
variable(w:zW)(R:zE)
def amv(l:zO)(lL lC:Nat)(a:Int)(aC:aHn R1 [] w R λr w1=>an (! r) (zR R (zB false) w1) (zM w1 [zS [49],zS [50],zS [97],zS [43],zS [45],zS [42],zS [47],zS [37],zS [60,60],zS [60],zS [61,61],zS [33],zS [126],zS [38,38],zS [124,124],zS [63],zS [58],zS [98,61],zS [48,120,49,102],zS [32]] 9 λw2=>cj Rm [zL l lL lC,zL (some (zA w1 0)) 20 20] w2 R λr1 w3=>an (decide (a=(-9223372036854775808:Int))) (zR R (zB r) w3) (cj KT [zI a] w3 R λr2 w4=>zM w4 [zS [97],zS r2,zB false,zB false] 32 λw5=>Wf Gq [zS r1,zL (some (zA w4 0)) 1 1] w5 R λr3 r4 rL rC r5 w6=>([97,61]:zT).length+r2.length<=9223372036854775807/\(([97,61]:zT)++r2).length+([59,32,101,99,104,111,32,36,40,40]:zT).length<=9223372036854775807/\((([97,61]:zT)++r2)++[59,32,101,99,104,111,32,36,40,40]).length+r1.length<=9223372036854775807/\(((([97,61]:zT)++r2)++[59,32,101,99,104,111,32,36,40,40])++r1).length+([41,41]:zT).length<=9223372036854775807/\zK3 aKC [zS ((((([97,61]:zT)++r2)++[59,32,101,99,104,111,32,36,40,40])++r1)++[41,41]),zS []] w6 R λr6 z_ Ac Ad w_ wZ aJn ID HI Hh Hi HJ Hj Hl IE H6 H7 HK w7=>zX w7 [zI 0,zS [],zS [],zN,zS [],zN,zN,zI 0,zI 0,zI 0,zI 0] 39 [zI z_,zS Ac,zS Ad,zL w_ wZ aJn,zS ID,zL HI Hh Hi,zL HJ Hj Hl,zI IE,zI H6,zI H7,zI HK] λw9=>an (! decide (r5=0)) (an r (bZ w9 (zA w7 0) λv=>an (! decide (v=0)) (bK w9 (zA w7 1) λv1=>zR R (zB (decide (v1=[]))) w9) (zR R (zB false) w9)) (zR R (zB false) w9)) (zH w9.drew λSw=>an r (∃(aHq:Int)(mR:zT)(mS:zT),(∀wq:zW,Sw wq->wq.cell? (zA w7 0)=some (zI aHq))/\(∀wq:zW,Sw wq->wq.cell? (zA w7 1)=some (zS mR))/\(∀wq:zW,Sw wq->wq.cell? (zA w7 2)=some (zS mS))/\cj KT [zI r3] w9.drew R λr7 aO=>Sw aO/\r7.length+([10]:zT).length<=9223372036854775807/\zR R (zB ((decide (aHq=0))&&((decide (mR=(r7++[10])))&&((decide (mS=[]))&&true)))) aO) (Sw w9.drew/\zR R (zB false) w9.drew))))):aq Zh #[zL l lL lC,zI a] w R:=
 aP [] [(12,.held)] Tryz.func3 rfl aC
def anJ(aC:g_ Gs [] w R λr w1=>an r.isNone (zR R (zB false) w1) (zK7 Lb [zP r,zS [101,99,104,111,32,39,97,32,98,39,32,124,32,115,111,114,116,32,62,32,102,59,32,99,97,116,32,102],.agg #[zS [],zI 0,zN,zN,zS [],zI 20,zB false,zN]] w1 R λz_ Ac Ad w_ wZ aJn ID HI Hh Hi HJ Hj Hl IE H6 H7 HK w2=>zX w2 [zI 0,zS [],zS [],zN,zS [],zN,zN,zI 0,zI 0,zI 0,zI 0] 39 [zI z_,zS Ac,zS Ad,zL w_ wZ aJn,zS ID,zL HI Hh Hi,zL HJ Hj Hl,zI IE,zI H6,zI H7,zI HK] λw4=>Wf Gq [zS [50,42,51],zN] w4 R λr1 r2 rL rC r3 w5=>Ol RN [zI 9] w5 R λr4 r5 w6=>zK9 KU [zS [97]] w6 R λdh nY rName nJ nE aHT nB nv aHQ nG aHS nD nZ nO nP nQ nK nL r6 w7=>zX w7 [zI 0,zB false,zS [],zN,zN,zN,zN,zN] 66 [zI dh,zB nY,zS rName,zL nJ nE aHT,zL nB nv aHQ,zL nG aHS nD,zL nZ nO nP,zL nQ nK nL] λw9=>zM w9 [zS [101,99,104,111]] 9 λaO=>C2 La [zL (some (zA w9 0)) 1 1,zS []] aO R λlN qf qg r7 bh=>zX bh [zI 0,zS [],zS []] 35 [zI lN,zS qf,zS qg] λbw=>vF bw w2.heap.size λaHq mR mS=>an ((decide (aHq=0))&&((decide (mR=[97,32,98,10]))&&((decide (mS=[]))&&true))) (an (decide (r1=6)) (an (decide (r3=0)) (an (! r4.isNone) (an (decide (r5=0)) (an (decide (r6=0)) (iC bw w7.heap.size λcH fK cC aHx fA fB aHv aHt aHu aHw fu fy aHy fG fH fI fE fF=>cj DQ [.agg #[zI cH,zB fK,zS cC,zL aHx fA fB,zL aHv aHt aHu,zL aHw fu fy,zL aHy fG fH,zL fI fE fF]] bw R λr8 bO=>an (decide (r8=[97])) (bK bO (zA bh 1) λv=>an (decide (v=[10])) (zM bO [zI 0,zB true,zS [97],zS [],zS [],zN] 51 λb8=>cj uh [zL (some (zA bO 0)) 1 1] b8 R λr9 aHe=>zR R (zB (decide (r9=[39,97,39]))) aHe) (zR R (zB false) bO)) (zR R (zB false) bO)) (zR R (zB false) bw)) (zR R (zB false) bw)) (zR R (zB false) bw)) (zR R (zB false) bw)) (zR R (zB false) bw)) (zR R (zB false) bw))):aq R1 #[] w R:=
 aP [] [] Tryz.func6 rfl aC
def amw(l:zO)(lL lC:Nat)(pieces:zO)(Ho avE:Nat)(aC:zl0 [] 0 w λxI m s i w1=>an (decide (i<(lL:Int))) (an (decide (i<14)) (zD i lL (aB l (λa=>zd3 w1 (a.add (Int.toNat i*1)) λv=>(Ho:Int)≠0/\zD (Int.tmod (i64.wrap v) (Ho:Int)) Ho (aB pieces (λa1=>bK w1 (a1.add (Int.toNat (Int.tmod (i64.wrap v) (Ho:Int))*1)) λv1=>s.length+v1.length<=9223372036854775807/\xI (s++v1) (i64.wrap (i+1)) w1/\m (s++v1) (i64.wrap (i+1)) w1<m s i w1))))) (zR R (zS s) w1)) (zR R (zS s) w1)):aq Rm #[zL l lL lC,zL pieces Ho avE] w R:=
 aP [(58,[(5,(.leaf .str)),(6,(.leaf (.int .i64)))])] [] Tryz.func7 rfl aC
def amx(n:Int)(aC:an (decide (n<0)) (cj B7 [zI n] w R λr w1=>([45]:zT).length+r.length<=9223372036854775807/\zR R (zS (([45]:zT)++r)) w1) (cj B7 [zI n] w R λr1 w2=>zR R (zS r1) w2)):aq KT #[zI n] w R:=
 aP [] [] Tryz.func8 rfl aC
def ana(s:zT)(l:zO)(lL lC:Nat)(aC:zM w [zI 0] 3 λw1=>zM w1 [zN] 27 λw2=>zM w2 [zI 0] 28 λw3=>zM w3 [zS s] 72 λw4=>aq DO #[zP (some (Addr.mk w3.heap.size 0 none))] w4 (λed w5=>(∃r:zT,ed=.returned (zS r)/\bK w5 (Addr.mk w3.heap.size 0 none) λv=>an (decide (v=[])) (zC (Addr.mk w.heap.size 0 none) w5 [zI 0] λw6=>zC (Addr.mk w1.heap.size 0 none) w6 [zL l lL lC] λw7=>zC (Addr.mk w2.heap.size 0 none) w7 [zI 0] λw8=>CallsD aM wE #[zP (some (Addr.mk w.heap.size 0 none)),zP (some (Addr.mk w1.heap.size 0 none)),zP (some (Addr.mk w2.heap.size 0 none))] .returning w8 (λdm ux w9=>(∃rv,dm=.returned rv)/\settle ux=.returning/\bZ w9 (Addr.mk w.heap.size 0 none) λv1=>aHd w9 (Addr.mk w1.heap.size 0 none) λv2 vL vC=>bZ w9 (Addr.mk w2.heap.size 0 none) λv3=>zR R (.tuple #[zI v1,zL v2 vL vC,zI v3]) w9)) (aq DH #[zP (some (Addr.mk w3.heap.size 0 none)),zI 1] w5 (λgj aO=>(∃r1:zO,gj=.returned (zP r1)/\aq DO #[zP (some (Addr.mk w3.heap.size 0 none))] aO (λql bh=>(∃r2:zT,ql=.returned (zS r2)/\bK bh (Addr.mk w3.heap.size 0 none) λv4=>aq qG #[zB (decide (v4=[])),zI 130] bh (λjx bE=>(jx=.returned (.tuple #[])/\zM bE [zL l lL lC] 79 λbw=>aq pX #[zP (some (Addr.mk bE.heap.size 0 none)),zP r1] bw (λmg bO=>(∃r3:Int,mg=.returned (zI r3)/\zC (Addr.mk w.heap.size 0 none) bO [zI r3] λb8=>zH b8.drew λSw=>pJ Sw (Addr.mk w.heap.size 0 none) λv5=>gd Sw (Addr.mk bE.heap.size 0 none) λv6 cW ec=>zC (Addr.mk w.heap.size 0 none) b8.drew [zI v5] λaHe=>Sw aHe/\zC (Addr.mk w1.heap.size 0 none) aHe [zL v6 cW ec] λcF=>zC (Addr.mk w2.heap.size 0 none) cF [zI 0] λcL=>CallsD aM wE #[zP (some (Addr.mk w.heap.size 0 none)),zP (some (Addr.mk w1.heap.size 0 none)),zP (some (Addr.mk w2.heap.size 0 none))] .returning cL (λaII aIJ dV=>(∃aIK,aII=.returned aIK)/\settle aIJ=.returning/\bZ dV (Addr.mk w.heap.size 0 none) λv7=>aHd dV (Addr.mk w1.heap.size 0 none) λv8 gO kE=>bZ dV (Addr.mk w2.heap.size 0 none) λv9=>zR R (.tuple #[zI v7,zL v8 gO kE,zI v9]) dV))\/(∃vG,mg=.panicked vG/\CallsD aM wE #[zP (some (Addr.mk w.heap.size 0 none)),zP (some (Addr.mk w1.heap.size 0 none)),zP (some (Addr.mk w2.heap.size 0 none))] (.panicking vG) bO (λvH vI eu=>(∃vJ,vH=.returned vJ)/\settle vI=.returning/\bZ eu (Addr.mk w.heap.size 0 none) λv10=>aHd eu (Addr.mk w1.heap.size 0 none) λv11 jk qm=>bZ eu (Addr.mk w2.heap.size 0 none) λv12=>zR R (.tuple #[zI v10,zL v11 jk qm,zI v12]) eu))))\/(∃Bm,jx=.panicked Bm/\CallsD aM wE #[zP (some (Addr.mk w.heap.size 0 none)),zP (some (Addr.mk w1.heap.size 0 none)),zP (some (Addr.mk w2.heap.size 0 none))] (.panicking Bm) bE (λBn I8 eM=>(∃I9,Bn=.returned I9)/\settle I8=.returning/\bZ eM (Addr.mk w.heap.size 0 none) λk9=>aHd eM (Addr.mk w1.heap.size 0 none) λmW vK zm=>bZ eM (Addr.mk w2.heap.size 0 none) λoQ=>zR R (.tuple #[zI k9,zL mW vK zm,zI oQ]) eM))))\/(∃mh,ql=.panicked mh/\CallsD aM wE #[zP (some (Addr.mk w.heap.size 0 none)),zP (some (Addr.mk w1.heap.size 0 none)),zP (some (Addr.mk w2.heap.size 0 none))] (.panicking mh) bh (λBo I_ eO=>(∃Ja,Bo=.returned Ja)/\settle I_=.returning/\bZ eO (Addr.mk w.heap.size 0 none) λpK=>aHd eO (Addr.mk w1.heap.size 0 none) λod mX aJw=>bZ eO (Addr.mk w2.heap.size 0 none) λsH=>zR R (.tuple #[zI pK,zL od mX aJw,zI sH]) eO))))\/(∃gH,gj=.panicked gH/\CallsD aM wE #[zP (some (Addr.mk w.heap.size 0 none)),zP (some (Addr.mk w1.heap.size 0 none)),zP (some (Addr.mk w2.heap.size 0 none))] (.panicking gH) aO (λA8 Jb k_=>(∃Jc,A8=.returned Jc)/\settle Jb=.returning/\bZ k_ (Addr.mk w.heap.size 0 none) λrf=>aHd k_ (Addr.mk w1.heap.size 0 none) λv20 xE Bp=>bZ k_ (Addr.mk w2.heap.size 0 none) λv21=>zR R (.tuple #[zI rf,zL v20 xE Bp,zI v21]) k_)))))\/(∃ch,ed=.panicked ch/\CallsD aM wE #[zP (some (Addr.mk w.heap.size 0 none)),zP (some (Addr.mk w1.heap.size 0 none)),zP (some (Addr.mk w2.heap.size 0 none))] (.panicking ch) w5 (λA9 Jd jO=>(∃Je,A9=.returned Je)/\settle Jd=.returning/\bZ jO (Addr.mk w.heap.size 0 none) λv22=>aHd jO (Addr.mk w1.heap.size 0 none) λC6 pL Bq=>bZ jO (Addr.mk w2.heap.size 0 none) λv24=>zR R (.tuple #[zI v22,zL C6 pL Bq,zI v24]) jO)))):aq Gq #[zS s,zL l lL lC] w R:=
 Cc {live:=[],lY:=[(11,.held)]} Tryz.func9 rfl (Eq.mp (by kernel_rfl) aC)
def aor(script aHD:zT)(aC:zM w [zI 0,zS [],zS [],zN,zS [],zN,zN,zI 0,zI 0,zI 0,zI 0] 39 λw1=>g_ Gs [] w1 R λr w2=>an r.isNone (zC (zA w 0) w2 [zI 0,zS [],zS [],zN,zS [],zN,zN,zI 0,zI 0,zI 0,zI 0] λw3=>zs2 w3 w.heap.size λwG wM wN jv js jt NG My Ma Mb Mz Mc aKq NH M7 M8 MA=>zR R (.tuple #[zP none,.agg #[zI wG,zS wM,zS wN,zL jv js jt,zS NG,zL My Ma Mb,zL Mz Mc aKq,zI NH,zI M7,zI M8,zI MA]]) w3) (zK7 Lb [zP r,zS script,.agg #[zS [],zI 0,zN,zN,zS aHD,zI 120,zB false,zN]] w2 R λz_ Ac Ad w_ wZ aJn ID HI Hh Hi HJ Hj Hl IE H6 H7 HK w4=>zC (zA w 0) w4 [zI z_,zS Ac,zS Ad,zL w_ wZ aJn,zS ID,zL HI Hh Hi,zL HJ Hj Hl,zI IE,zI H6,zI H7,zI HK] λw5=>zs2 w5 w.heap.size λRI Sc Sd rT rP rQ US TM aKG Tc TN Td Te UT Ur Us TO=>zR R (.tuple #[zP r,.agg #[zI RI,zS Sc,zS Sd,zL rT rP rQ,zS US,zL TM aKG Tc,zL TN Td Te,zI UT,zI Ur,zI Us,zI TO]]) w5)):aq aKC #[zS script,zS aHD] w R:=
 aP [] [] Tryz.func10 rfl aC
def anb(argv:zO)(pG ve:Nat)(aHD:zT)(aC:zM w [zI 0,zS [],zS []] 35 λw1=>c7 (w1.alloc (.map #[] 0)) (λw2=>d_ aM 81 (.map (some w1.heap.size)) (zS [116,114,117,101]) (.func (.func ZG) #[] #[]) w2 (λw3=>d_ aM 81 (.map (some w1.heap.size)) (zS [102,97,108,115,101]) (.func (.func ZR) #[] #[]) w3 (λw4=>d_ aM 81 (.map (some w1.heap.size)) (zS [101,99,104,111]) (.func (.func B4) #[] #[]) w4 (λw5=>d_ aM 81 (.map (some w1.heap.size)) (zS [104,101,97,100]) (.func (.func Zw) #[] #[]) w5 (λw6=>d_ aM 81 (.map (some w1.heap.size)) (zS [116,97,105,108]) (.func (.func Zx) #[] #[]) w6 (λw7=>d_ aM 81 (.map (some w1.heap.size)) (zS [119,99]) (.func (.func ZS) #[] #[]) w7 (λw8=>d_ aM 81 (.map (some w1.heap.size)) (zS [115,111,114,116]) (.func (.func Gn) #[] #[]) w8 (λw9=>d_ aM 81 (.map (some w1.heap.size)) (zS [117,110,105,113]) (.func (.func Zy) #[] #[]) w9 (λaO=>d_ aM 81 (.map (some w1.heap.size)) (zS [99,117,116]) (.func (.func ZH) #[] #[]) aO (λbh=>d_ aM 81 (.map (some w1.heap.size)) (zS [116,114]) (.func (.func ZT) #[] #[]) bh (λbE=>d_ aM 81 (.map (some w1.heap.size)) (zS [103,114,101,112]) (.func (.func Zz) #[] #[]) bE (λbw=>d_ aM 81 (.map (some w1.heap.size)) (zS [98,97,115,101,110,97,109,101]) (.func (.func YT) #[] #[]) bw (λbO=>d_ aM 81 (.map (some w1.heap.size)) (zS [100,105,114,110,97,109,101]) (.func (.func Y1) #[] #[]) bO (λb8=>an (decide ((pG:Int)=0)) (zC (zA w 0) b8 [zI 0,zS [],zS []] λaHe=>vF aHe w.heap.size λaHq mR mS=>zR R (.tuple #[.agg #[zI aHq,zS mR,zS mS],zB false]) aHe) (zD 0 pG (aB argv (λa=>bK b8 (a.add (Int.toNat 0*1)) λv=>AQ aM 81 (.map (some w1.heap.size)) (zS v) b8 (λlv ok=>an (! ok) (zC (zA w 0) b8 [zI 0,zS [],zS []] λcF=>vF cF w.heap.size λaH5 H8 H9=>zR R (.tuple #[.agg #[zI aH5,zS H8,zS H9],zB false]) cF) (0<=(1:Int)/\(1:Int)<=(pG:Nat)/\gu lv (λg first cap=>an (dD aM g) (aq g ⟨first++([zL (if ve=Int.toNat 1 then argv else Option.map (·.add (Int.toNat 1*1)) argv) (pG-Int.toNat 1) (ve-Int.toNat 1),zS aHD]++cap)⟩ b8 (λed cL=>(∃(lN:Int)(qf:zT)(qg:zT)(r:Bool),ed=.returned (.tuple #[.agg #[zI lN,zS qf,zS qg],zB r])/\zX cL [zI 0,zS [],zS []] 35 [zI lN,zS qf,zS qg] λeu=>an (! r) (False) (vF eu cL.heap.size λyz H_ Ia=>zC (zA w 0) eu [zI yz,zS H_,zS Ia] λeM=>vF eM w.heap.size λGY UU UW=>zR R (.tuple #[.agg #[zI GY,zS UU,zS UW],zB true]) eM))\/(∃ch,ed=.panicked ch/\R (.panicked ch) cL))) False))))))))))))))))))))):aq La #[zL argv pG ve,zS aHD] w R:=
 Ao {live:=[],lY:=[],xk:=[1018]} Tryz.func11 rfl (Eq.mp (by kernel_rfl) aC)
def anc(l:zO)(lL lC:Nat)(aC:zM w [zP none,zN] 86 λw1=>aHE 0 w1 λxI m x w2=>an (decide (x<(lL:Int))) (kD (λxJ=>zD x lL (aB l (λa=>Om w2 (a.add (Int.toNat x*6)) λcH nH jh cC jP jL jG jH=>zX w2 [zI 0,zB false,zS [],zS [],zS [],zN] 51 [zI cH,zB nH,zS jh,zS cC,zS jP,zL jL jG jH] λw4=>gN (λaY=>bZ w4 (zA w2 0) λv=>an (decide (v=0)) (hO w4 (zA w2 1) λv1=>aY v1 w4) (aY false w4)) λx1 w5=>an x1 (bK w5 (zA w2 2) λv2=>cj Ks [zS v2,zS [39],zS [39,92,39,39]] w5 R λr w6=>([39]:zT).length+r.length<=9223372036854775807/\(([39]:zT)++r).length+([39]:zT).length<=9223372036854775807/\zK iT [zP (some (zA w 0)),zS ((([39]:zT)++r)++[39])] w6 R λdm w7=>∃(r1:Int)(r2:Value),r2.oneCell'=true/\dm=.returned (.tuple #[zI r1,r2])/\xJ w7) (bZ w5 (zA w2 0) λv3=>an (decide (v3=0)) (bK w5 (zA w2 2) λv4=>zK iT [zP (some (zA w 0)),zS v4] w5 R λgj w8=>∃(r3:Int)(r4:Value),r4.oneCell'=true/\gj=.returned (.tuple #[zI r3,r4])/\xJ w8) (hO w5 (zA w2 1) λv5=>an v5 (aKe w5 w2.heap.size λeY GZ uS eA CV Cz aJ9 aJ_=>cj Lc [.agg #[zI eY,zB GZ,zS uS,zS eA,zS CV,zL Cz aJ9 aJ_]] w5 R λr5 w9=>([34]:zT).length+r5.length<=9223372036854775807/\(([34]:zT)++r5).length+([34]:zT).length<=9223372036854775807/\zK iT [zP (some (zA w 0)),zS ((([34]:zT)++r5)++[34])] w9 R λjx aO=>∃(r6:Int)(r7:Value),r7.oneCell'=true/\jx=.returned (.tuple #[zI r6,r7])/\xJ aO) (aKe w5 w2.heap.size λmO Tf CA kN Vt Ut TP TQ=>cj Lc [.agg #[zI mO,zB Tf,zS CA,zS kN,zS Vt,zL Ut TP TQ]] w5 R λr8 bh=>zK iT [zP (some (zA w 0)),zS r8] bh R λaII bE=>∃(r9:Int)(eB:Value),eB.oneCell'=true/\aII=.returned (.tuple #[zI r9,eB])/\xJ bE)))))) λbw=>xI (i64.wrap (x+1)) bw/\m (i64.wrap (x+1)) bw<m x w2) (cj rI [zP (some (zA w 0))] w2 R λaHz bO=>zR R (zS aHz) bO)):aq uh #[zL l lL lC] w R:=
 aP [(58,[(8,(.leaf (.int .i64)))]),(467,[]),(7474,[(15,(.leaf .bool))])] [] Tryz.func13 rfl aC
def anK(aC:c7 (w.alloc (.map #[] 0)) (λw1=>zM w1 [.map (some w.heap.size),zP none] 100 λw2=>zR R (zP (some (zA w1 0))) w2)):aq Gs #[] w R:=
 aP [] [] Tryz.func15 rfl aC
def ane(x:zO)(script agC:zT)(aeR:Int)(vf:zO)(uT uU:Nat)(vg:zO)(uV uW:Nat)(sIn:zT)(afH:Int)(adW:Bool)(aeS:zO)(adX adY:Nat)(aC:zM w [zS agC,zI aeR,zL vf uT uU,zL vg uV uW,zS sIn,zI afH,zB adW,zL aeS adX adY] 57 λw1=>zM w1 [zI 0,zS [],zS [],zN,zS [],zN,zN,zI 0,zI 0,zI 0,zI 0] 39 λw2=>On (λxJ=>zH w2.drew λSw=>pJ Sw (zA w 1) λv=>Oo Sw (zA w 6) λv1=>pJ Sw (zA w 5) λv2=>dR Sw (zA w 0) λv3=>pJ Sw (zA w 1) λv4=>dR Sw (zA w 0) λv5=>dR Sw (zA w 4) λv6=>(zM w2.drew [zP x,zI (bits .and .i64 v 7),zB v1,zI 0,zS [],zS [],zN,zS [],zN,zN,zI 0,zI 0,zI 0,zI 0,zI (if 0>v2 then 0 else v2),zP none,zN] 104 λw3=>Sw w3/\(g_ aJm [zP x,zS v3,zI v4] w3 R λr w4=>Sw w4/\c7 (w4.alloc (.map #[] 0)) (λw5=>Sw w5/\zM w5 [zP (some (zA w2.drew 0)),zP r,zS v5,zN,zN,zI 0,.map (some w4.heap.size),zS v6,zS [],zI 0,zI 0,zI 0,zI 0,zI 0] 112 λw6=>xJ (some (zA w5 0)) w6))/\(c7 (w3.alloc (.map #[] 0)) (λw7=>Sw w7/\g_ aJm [zP x,zS v3,zI v4] w7 R λr1 w8=>Sw w8/\zM w8 [zP (some (zA w2.drew 0)),zP r1,zS v5,zN,zN,zI 0,.map (some w3.heap.size),zS v6,zS [],zI 0,zI 0,zI 0,zI 0,zI 0] 112 λw9=>xJ (some (zA w8 0)) w9)))/\(g_ aJm [zP x,zS v3,zI v4] w2.drew R λr2 aO=>Sw aO/\(zM aO [zP x,zI (bits .and .i64 v 7),zB v1,zI 0,zS [],zS [],zN,zS [],zN,zN,zI 0,zI 0,zI 0,zI 0,zI (if 0>v2 then 0 else v2),zP none,zN] 104 λbh=>Sw bh/\c7 (bh.alloc (.map #[] 0)) (λbE=>Sw bE/\zM bE [zP (some (zA aO 0)),zP r2,zS v5,zN,zN,zI 0,.map (some bh.heap.size),zS v6,zS [],zI 0,zI 0,zI 0,zI 0,zI 0] 112 λbw=>xJ (some (zA bE 0)) bw))/\(c7 (aO.alloc (.map #[] 0)) (λbO=>Sw bO/\zM bO [zP x,zI (bits .and .i64 v 7),zB v1,zI 0,zS [],zS [],zN,zS [],zN,zN,zI 0,zI 0,zI 0,zI 0,zI (if 0>v2 then 0 else v2),zP none,zN] 104 λb8=>Sw b8/\zM b8 [zP (some (zA bO 0)),zP r2,zS v5,zN,zN,zI 0,.map (some aO.heap.size),zS v6,zS [],zI 0,zI 0,zI 0,zI 0,zI 0] 112 λaHe=>xJ (some (zA b8 0)) aHe)))/\(c7 (w2.drew.alloc (.map #[] 0)) (λcF=>Sw cF/\(zM cF [zP x,zI (bits .and .i64 v 7),zB v1,zI 0,zS [],zS [],zN,zS [],zN,zN,zI 0,zI 0,zI 0,zI 0,zI (if 0>v2 then 0 else v2),zP none,zN] 104 λcL=>Sw cL/\g_ aJm [zP x,zS v3,zI v4] cL R λr3 dV=>Sw dV/\zM dV [zP (some (zA cF 0)),zP r3,zS v5,zN,zN,zI 0,.map (some w2.drew.heap.size),zS v6,zS [],zI 0,zI 0,zI 0,zI 0,zI 0] 112 λeu=>xJ (some (zA dV 0)) eu)/\(g_ aJm [zP x,zS v3,zI v4] cF R λr4 eM=>Sw eM/\zM eM [zP x,zI (bits .and .i64 v 7),zB v1,zI 0,zS [],zS [],zN,zS [],zN,zN,zI 0,zI 0,zI 0,zI 0,zI (if 0>v2 then 0 else v2),zP none,zN] 104 λeO=>Sw eO/\zM eO [zP (some (zA eM 0)),zP r4,zS v5,zN,zN,zI 0,.map (some w2.drew.heap.size),zS v6,zS [],zI 0,zI 0,zI 0,zI 0,zI 0] 112 λk_=>xJ (some (zA eO 0)) k_)))) λh jO=>aHd jO (zA w 2) λv7 vL vC=>aHd jO (zA w 3) λv8 cW ec=>aB h (λa=>zC (a.add 3) jO [zL v7 vL vC,zL v8 cW ec,zI 0] λmY=>zH mY.drew λbX=>aB h (λa1=>aHj bX a1 λv9=>gd bX (zA w 7) λv10 gO kE=>fR Pw [zL v10 gO kE] mY.drew R λr5 rL rC zn=>bX zn/\aB v9 (λa2=>zC ((a2.add 3).add 6) zn [zL r5 rL rC] λpM=>zK9 KU [zS script] pM R λdh nY rName nJ nE aHT nB nv aHQ nG aHS nD nZ nO nP nQ nK nL r6 aJg=>zX aJg [zI 0,zB false,zS [],zN,zN,zN,zN,zN] 66 [zI dh,zB nY,zS rName,zL nJ nE aHT,zL nB nv aHQ,zL nG aHS nD,zL nZ nO nP,zL nQ nK nL] λoe=>kD (λaY=>an (decide (r6=0)) (iC oe aJg.heap.size λcH fK cC aHx fA fB aHv aHt aHu aHw fu fy aHy fG fH fI fE fF=>bD DI [zP h,.agg #[zI cH,zB fK,zS cC,zL aHx fA fB,zL aHv aHt aHu,zL aHw fu fy,zL aHy fG fH,zL fI fE fF]] oe R λBr=>aY Br) (bD DJ [zP h,zS [115,104],zI r6] oe R λaId=>aB h (λa3=>cv aId a3 λv11=>aB h (λa4=>zC ((a4.add 3).add 2) aId [zI 2] λWj=>aB v11 (λa5=>zC ((a5.add 3).add 10) Wj [zI r6] λWk=>aY Wk))))) λgy=>aB h (λa6=>cv gy a6 λv12=>aB v12 (λa7=>∃(wG:Int)(wM:zT)(wN:zT)(jv:zO)(js jt:Nat)(NG:zT)(My:zO)(Ma Mb:Nat)(Mz:zO)(Mc aKq:Nat)(NH:Int)(M7:Int)(M8:Int)(MA:Int),gy.cell? (a7.add 3)=some (zI wG)/\gy.cell? ((a7.add 3).add 1)=some (zS wM)/\gy.cell? ((a7.add 3).add 2)=some (zS wN)/\gy.cell? ((a7.add 3).add 3)=some (zL jv js jt)/\gy.cell? ((a7.add 3).add 4)=some (zS NG)/\gy.cell? ((a7.add 3).add 5)=some (zL My Ma Mb)/\gy.cell? ((a7.add 3).add 6)=some (zL Mz Mc aKq)/\gy.cell? ((a7.add 3).add 7)=some (zI NH)/\gy.cell? ((a7.add 3).add 8)=some (zI M7)/\gy.cell? ((a7.add 3).add 9)=some (zI M8)/\gy.cell? ((a7.add 3).add 10)=some (zI MA)/\zX gy [zI 0,zS [],zS [],zN,zS [],zN,zN,zI 0,zI 0,zI 0,zI 0] 39 [zI wG,zS wM,zS wN,zL jv js jt,zS NG,zL My Ma Mb,zL Mz Mc aKq,zI NH,zI M7,zI M8,zI MA] λBs=>zH Bs.drew λgz=>aB h (λa8=>pJ gz ((a8.add 3).add 2) λk9=>aB h (λa9=>dR gz (a9.add 8) λmW=>aB h (λmZ=>aHj gz mZ λoQ=>aB oQ (λsI=>cj rI [zP (some (sI.add 15))] Bs.drew R λr7 E8=>gz E8/\zC (zA gy 0) E8 [zI k9,zS mW,zS r7] λC7=>zH C7.drew λog=>aB h (λa12=>gd og (a12.add 3) λpK jk qm=>aB h (λzo=>dR og (zo.add 2) λod=>aB h (λC8=>aHj og C8 λsH=>aB sH (λJf=>pJ og (Jf.add 14) λrf=>zC (zA gy 3) C7.drew [zL pK jk qm] λJg=>og Jg/\zC (zA gy 4) Jg [zS od] λJh=>og Jh/\zC (zA gy 9) Jh [zI rf] λC9=>zs2 C9 gy.heap.size λRI Sc Sd rT rP rQ US TM aKG Tc TN Td Te UT Ur Us TO=>zC (zA w1 0) C9 [zI RI,zS Sc,zS Sd,zL rT rP rQ,zS US,zL TM aKG Tc,zL TN Td Te,zI UT,zI Ur,zI Us,zI TO] λE9=>zs2 E9 w1.heap.size λan6 apE apF HL Hp Hq axW avF aud aue avG auf aug axX awO awP avH=>zR R (.agg #[zI an6,zS apE,zS apF,zL HL Hp Hq,zS axW,zL avF aud aue,zL avG auf aug,zI axX,zI awO,zI awP,zI avH]) E9)))))))))))))):aq Lb #[zP x,zS script,.agg #[zS agC,zI aeR,zL vf uT uU,zL vg uV uW,zS sIn,zI afH,zB adW,zL aeS adX adY]] w R:=
 aP [(3,[(7,(.leaf .ptr))]),(63,[])] [(1,.held),(3,.held),(10,.held),(11,.held)] Tryz.func16 rfl aC
def anf(adZ:Int)(aC:Ol RO [zI adZ] w R λr r1 w1=>an (! decide (r1=0)) (zR R (.tuple #[zP none,zI r1]) w1) (g_ Gs [] w1 R λr2 w2=>g_ RP [zP r] w2 R λr3 w3=>zM w3 [zP r2,zP r,zP r3] 125 λw4=>zR R (.tuple #[zP (some (zA w3 0)),zI 0]) w4)):aq RN #[zI adZ] w R:=
 aP [] [] Tryz.func17 rfl aC
def amy(s:zT)(aC:zM w [zI 0,zB false,zS [],zN,zN,zN,zN,zN] 66 λw1=>zM w1 [zI 0] 28 λw2=>A6 Rn [zS s] w2 R λr rL rC r1 w3=>zC (zA w1 0) w3 [zI r1] λw4=>bZ w4 (zA w1 0) λv=>an (! decide (v=0)) (zH w4.drew λSw=>pJ Sw (zA w1 0) λv1=>zC (zA w 0) w4.drew [zI 0,zB false,zS [],zN,zN,zN,zN,zN] λw5=>Sw w5/\zC (zA w1 0) w5 [zI v1] λw6=>iC w6 w.heap.size λcH fK cC aHx fA fB aHv aHt aHu aHw fu fy aHy fG fH fI fE fF=>bZ w6 (zA w1 0) λv2=>zR R (.tuple #[.agg #[zI cH,zB fK,zS cC,zL aHx fA fB,zL aHv aHt aHu,zL aHw fu fy,zL aHy fG fH,zL fI fE fF],zI v2]) w6) (zM w4 [zL r rL rC] 131 λw7=>aq Qk #[zP (some (zA w4 0)),zI 1] w7 (λdm w8=>(∃(dh:Int)(nY:Bool)(rName:zT)(nJ:zO)(nE aHT:Nat)(nB:zO)(nv aHQ:Nat)(nG:zO)(aHS nD:Nat)(nZ:zO)(nO nP:Nat)(nQ:zO)(nK nL:Nat),dm=.returned (.agg #[zI dh,zB nY,zS rName,zL nJ nE aHT,zL nB nv aHQ,zL nG aHS nD,zL nZ nO nP,zL nQ nK nL])/\zC (zA w 0) w8 [zI dh,zB nY,zS rName,zL nJ nE aHT,zL nB nv aHQ,zL nG aHS nD,zL nZ nO nP,zL nQ nK nL] λw9=>aHd w9 (zA w4 0) λv3 vL vC=>aq DV #[zB (decide ((vL:Int)=0))] w9 (λgj aO=>(gj=.returned (.tuple #[])/\iC aO w.heap.size λeY kA eA j9 j6 j7 j0 jY jZ j8 aHF j4 kB kj ko kr j_ ke=>zC (zA w 0) aO [zI eY,zB kA,zS eA,zL j9 j6 j7,zL j0 jY jZ,zL j8 aHF j4,zL kB kj ko,zL kr j_ ke] λbh=>zC (zA w1 0) bh [zI 0] λbE=>CallsD aM KI #[zP (some (zA w 0)),zP (some (zA w1 0))] .returning bE (λql ux bw=>(∃rv,ql=.returned rv)/\settle ux=.returning/\iC bw w.heap.size λmO vh kN uJ uB uC uu aI1 aI2 uD uv aI5 vi uX uY uZ uK uL=>bZ bw (zA w1 0) λv4=>zR R (.tuple #[.agg #[zI mO,zB vh,zS kN,zL uJ uB uC,zL uu aI1 aI2,zL uD uv aI5,zL vi uX uY,zL uZ uK uL],zI v4]) bw))\/(∃mh,gj=.panicked mh/\CallsD aM KI #[zP (some (zA w 0)),zP (some (zA w1 0))] (.panicking mh) aO (λjx aIJ bO=>(∃aIK,jx=.returned aIK)/\settle aIJ=.returning/\iC bO w.heap.size λrU vj aH9 uM uE uF aI6 aI3 uq uG uy uz aI_ aI7 u5 u6 uN uO=>bZ bO (zA w1 0) λv5=>zR R (.tuple #[.agg #[zI rU,zB vj,zS aH9,zL uM uE uF,zL aI6 aI3 uq,zL uG uy uz,zL aI_ aI7 u5,zL u6 uN uO],zI v5]) bO))))\/(∃gH,dm=.panicked gH/\CallsD aM KI #[zP (some (zA w 0)),zP (some (zA w1 0))] (.panicking gH) w8 (λmg vI b8=>(∃vJ,mg=.returned vJ)/\settle vI=.returning/\iC b8 w.heap.size λUu UX HM TR Tg Th SM aKD Su Ti SN SO UY Uv Uw Ux aKM TT=>bZ b8 (zA w1 0) λv6=>zR R (.tuple #[.agg #[zI Uu,zB UX,zS HM,zL TR Tg Th,zL SM aKD Su,zL Ti SN SO,zL UY Uv Uw,zL Ux aKM TT],zI v6]) b8))))):aq KU #[zS s] w R:=
 Cc {live:=[],lY:=[(3,.held)]} Tryz.func18 rfl (Eq.mp (by kernel_rfl) aC)
def amg(lZ:Int)(aHK:Bool)(l5:zT)(lT:zO)(lP lQ:Nat)(lJ:zO)(lH lI:Nat)(lR:zO)(lK lM:Nat)(me:zO)(l6 l7:Nat)(l8:zO)(lU lV:Nat)(aC:zM w [zI lZ,zB aHK,zS l5,zL lT lP lQ,zL lJ lH lI,zL lR lK lM,zL me l6 l7,zL l8 lU lV] 66 λw1=>zX w1 [.nilFunc,.nilFunc,.nilFunc,.nilFunc,.nilFunc,.nilFunc,.nilFunc,.nilFunc,.nilFunc,.nilFunc,.nilFunc,.nilFunc] 134 [.func (.func Gd) #[] #[],.func (.func Zi) #[] #[],.func (.func Y8) #[] #[],.func (.func aKl) #[] #[],.func (.func Y9) #[] #[],.func (.func ZA) #[] #[],.func (.func Y2) #[] #[],.func (.func Zj) #[] #[],.func (.func YU) #[] #[],.func (.func Y_) #[] #[],.func (.func Zk) #[] #[],.func (.func YL) #[] #[]] λw3=>bZ w3 (zA w 0) λv=>an (decide (v<0)) (zR R (zS []) w3) (bZ w3 (zA w 0) λv1=>an (decide (12<=v1)) (zR R (zS []) w3) (zH w3.drew λSw=>pJ Sw (zA w 0) λv2=>zD v2 12 (xB Sw ((zA w1 0).add (Int.toNat v2*1)) λv3=>zs5 Sw w.heap.size λcH fK cC aHx fA fB aHv aHt aHu aHw fu fy aHy fG fH fI fE fF=>gu v3 (λg first cap=>an (dD aM g) (aq g ⟨first++([.agg #[zI cH,zB fK,zS cC,zL aHx fA fB,zL aHv aHt aHu,zL aHw fu fy,zL aHy fG fH,zL fI fE fF]]++cap)⟩ w3.drew (λed w4=>(∃r:zT,ed=.returned (zS r)/\bZ w4 (zA w 0) λv4=>an (decide (4<=v4)) (bZ w4 (zA w 0) λv5=>an (decide (v5<=9)) (zM w4 [zS r] 9 λw5=>aHd w5 (zA w 5) λv6 vL vC=>fR J_ [zL v6 vL vC,.func (.func Za) #[] #[]] w5 R λr1 rL rC w6=>dL w6 9 1 16 (some (zA w4 0)) 1 1 r1 rL (λp cp w7=>cj Ro [zL p (1+rL) cp] w7 R λr2 w8=>zR R (zS r2) w8)) (zR R (zS r) w4)) (zR R (zS r) w4))\/(∃ch,ed=.panicked ch/\R (.panicked ch) w4))) False))))):aq DQ #[.agg #[zI lZ,zB aHK,zS l5,zL lT lP lQ,zL lJ lH lI,zL lR lK lM,zL me l6 l7,zL l8 lU lV]] w R:=
 aP [] [(4,.held)] Tryz.func19 rfl aC
def ang(n:Int)(aC:(10:Int)≠0/\an (decide ((Int.tmod n 10)<0)) (zM w [.int .u8 (u8.wrap (i64.wrap (48+(i64.wrap (0-(Int.tmod n 10))))))] 5 λw1=>∃bs:zT,s_ (λa v=>w1.cell? a=some v) (some (zA w 0)) 1 bs/\(10:Int)≠0/\an (decide ((i64.wrap (Int.tdiv n 10))=0)) (zR R (zS bs) w1) ((10:Int)≠0/\cj B7 [zI (i64.wrap (Int.tdiv n 10))] w1 R λr w2=>r.length+bs.length<=9223372036854775807/\zR R (zS (r++bs)) w2)) (zM w [.int .u8 (u8.wrap (i64.wrap (48+(Int.tmod n 10))))] 5 λw3=>∃Oq:zT,s_ (λa v=>w3.cell? a=some v) (some (zA w 0)) 1 Oq/\(10:Int)≠0/\an (decide ((i64.wrap (Int.tdiv n 10))=0)) (zR R (zS Oq) w3) ((10:Int)≠0/\cj B7 [zI (i64.wrap (Int.tdiv n 10))] w3 R λr1 w4=>r1.length+Oq.length<=9223372036854775807/\zR R (zS (r1++Oq)) w4))):aq B7 #[zI n] w R:=
 aP [] [] Tryz.func20 rfl aC
def alG(p:zO)(aC:aB p (λa=>bK w a λv=>cj QG [zS v,zS [32,9,10]] w R λr w1=>aB p (λa1=>zC a1 w1 [zS r] λw2=>fR QV [] w2 R λr1 rL rC w3=>aHE 0 w3 λxI m x w4=>an (decide (x<(rL:Int))) (zD x rL (aB r1 (λa2=>bK w4 (a2.add (Int.toNat x*1)) λv1=>aB p (λa3=>bK w4 a3 λv2=>aHn DK [zS v2,zS v1] w4 R λr2 w5=>an r2 (zR R (zS v1) w5) (xI (i64.wrap (x+1)) w5/\m (i64.wrap (x+1)) w5<m x w4))))) (zR R (zS []) w4)))):aq DO #[zP p] w R:=
 aP [(58,[(15,(.leaf (.int .i64)))])] [] Tryz.func22 rfl aC
def ak7(p:zO)(depth:Int)(aC:bD qG [zB (decide (depth<=30)),zI 2] w R λw1=>agt aKw [zP p] w1 R λr r1 r2 w2=>an r2 (cj Ql [zS r1,zS [61]] w2 R λr3 w3=>g_ DH [zP p,zI (i64.wrap (depth+1))] w3 R λr4 w4=>zM w4 [zP r4] 74 λw5=>zM w5 [zI 7,zI 0,zS r3,zS r,zL (some (zA w4 0)) 1 1] 147 λw6=>zR R (zP (some (zA w5 0))) w6) (g_ Kl [zP p,zI depth] w2 R λr5 w7=>zR R (zP r5) w7)):aq DH #[zP p,zI depth] w R:=
 aP [] [] Tryz.func23 rfl aC
def anh(ok:Bool)(ex:Int)(aC:an (! ok) (R (.panicked [{v:=(.iface 28 (zI ex)),recovered:=false}]) w) (zR R (.tuple #[]) w)):aq qG #[zB ok,zI ex] w R:=
 aP [] [] Tryz.func24 rfl aC
def DD(wo t:zO)(aC:aB t (λa=>bZ w a λv=>an (decide (v=1)) (aB t (λa1=>bK w (a1.add 3) λv1=>aG_ KD [zP wo,zS v1] w R λr w1=>zR R (zI r) w1)) (an (decide (v=2)) (zH w.drew λSw=>aB t (λa2=>dR Sw (a2.add 2) λv2=>aB t (λa3=>gd Sw (a3.add 4) λv3 vL vC=>zD 0 vL (aB v3 (λa4=>aHj Sw (a4.add (Int.toNat 0*1)) λv4=>aG_ pX [zP wo,zP v4] w.drew R λr1 w2=>Sw w2/\aG_ RC [zS v2,zI r1] w2 R λr2 w3=>zR R (zI r2) w3))))) (an (decide (v=3)) (aB t (λa5=>aHd w (a5.add 4) λv5 cW ec=>zD 0 cW (aB v5 (λa6=>cv w (a6.add (Int.toNat 0*1)) λv6=>aG_ pX [zP wo,zP v6] w R λr3 w4=>zH w4.drew λbX=>aB t (λa7=>dR bX (a7.add 2) λv7=>aB t (λa8=>gd bX (a8.add 4) λv8 gO kE=>zD 1 gO (aB v8 (λa9=>aHj bX (a9.add (Int.toNat 1*1)) λv9=>aG_ pX [zP wo,zP v9] w4.drew R λr4 w5=>bX w5/\aG_ aKm [zS v7,zI r3,zI r4] w5 R λr5 w6=>zR R (zI r5) w6)))))))) (an (decide (v=4)) (aB t (λmZ=>aHd w (mZ.add 4) λv10 jk qm=>zD 0 jk (aB v10 (λsI=>cv w (sI.add (Int.toNat 0*1)) λv11=>aG_ pX [zP wo,zP v11] w R λr6 w7=>an (! decide (r6=0)) (aB t (λa12=>aHd w7 (a12.add 4) λv12 vK zm=>zD 1 vK (aB v12 (λzo=>cv w7 (zo.add (Int.toNat 1*1)) λk9=>aG_ pX [zP wo,zP k9] w7 R λr7 w8=>aG_ bS [zB (! decide (r7=0))] w8 R λr8 w9=>zR R (zI r8) w9)))) (aG_ bS [zB false] w7 R λr9 aO=>zR R (zI r9) aO))))) (an (decide (v=5)) (aB t (λC8=>aHd w (C8.add 4) λmW mX aJw=>zD 0 mX (aB mW (λJf=>cv w (Jf.add (Int.toNat 0*1)) λoQ=>aG_ pX [zP wo,zP oQ] w R λeB bh=>an (! decide (eB=0)) (aG_ bS [zB true] bh R λaHz bE=>zR R (zI aHz) bE) (aB t (λWl=>aHd bh (Wl.add 4) λpK xE Bp=>zD 1 xE (aB pK (λWm=>cv bh (Wm.add (Int.toNat 1*1)) λod=>aG_ pX [zP wo,zP od] bh R λgP bw=>aG_ bS [zB (! decide (gP=0))] bw R λld bO=>zR R (zI ld) bO)))))))) (an (decide (v=6)) (aB t (λWn=>aHd w (Wn.add 4) λsH pL Bq=>zD 0 pL (aB sH (λWo=>cv w (Wo.add (Int.toNat 0*1)) λrf=>aG_ pX [zP wo,zP rf] w R λsJ b8=>an (! decide (sJ=0)) (aB t (λa20=>aHd b8 (a20.add 4) λv20 Ji Ot=>zD 1 Ji (aB v20 (λa21=>cv b8 (a21.add (Int.toNat 1*1)) λv21=>aG_ pX [zP wo,zP v21] b8 R λri aHe=>zR R (zI ri) aHe)))) (aB t (λa22=>aHd b8 (a22.add 4) λv22 Wp vC9=>zD 2 Wp (aB v22 (λWq=>cv b8 (Wq.add (Int.toNat 2*1)) λC6=>aG_ pX [zP wo,zP C6] b8 R λr16 cF=>zR R (zI r16) cF)))))))) (an (decide (v=7)) (aB t (λa24=>aHd w (a24.add 4) λv24 NI Vu=>zD 0 NI (aB v24 (λaKS=>cv w (aKS.add (Int.toNat 0*1)) λaKT=>aG_ pX [zP wo,zP aKT] w R λaIe cL=>aB t (λa26=>bK cL (a26.add 2) λv26=>an (! (decide (v26=[]))) (zH cL.drew λgz=>aB t (λWt=>dR gz (Wt.add 2) λv27=>aB t (λa28=>dR gz (a28.add 3) λv28=>aG_ KD [zP wo,zS v28] cL.drew R λxF dV=>gz dV/\aG_ aKm [zS v27,zI xF,zI aIe] dV R λtL eu=>aB t (λa29=>bK eu (a29.add 3) λv29=>bD F_ [zP wo,zS v29,zI tL] eu R λeM=>zR R (zI tL) eM)))) (aB t (λa30=>bK cL (a30.add 3) λv30=>bD F_ [zP wo,zS v30,zI aIe] cL R λeO=>zR R (zI aIe) eO))))))) (aB t (λa31=>bZ w (a31.add 1) λv31=>zR R (zI v31) w)))))))))):aq pX #[zP wo,zP t] w R:=
 aP [] [(5,.held),(8,.held),(20,.held)] Tryz.func25 rfl aC
def amP(args:zO)(aIV yM:Nat)(x:zT)(aC:zM w [zI 0,zS [],zS []] 35 λw1=>cj DT [zL args aIV yM,zS [32]] w1 R λr w2=>r.length+([10]:zT).length<=9223372036854775807/\C2 K5 [zS (r++[10])] w2 R λlN qf qg r1 w3=>zC (zA w 0) w3 [zI lN,zS qf,zS qg] λw4=>vF w4 w.heap.size λaHq mR mS=>zR R (.tuple #[.agg #[zI aHq,zS mR,zS mS],zB r1]) w4):aq B4 #[zL args aIV yM,zS x] w R:=
 aP [] [] Tryz.func28 rfl aC
def amQ(args:zO)(aIV yM:Nat)(aHD:zT)(aC:zM w [zI 0,zS [],zS []] 35 λw1=>aHn aKu [zL args aIV yM,.func (.func Rf) #[] #[]] w1 R λr w2=>an r (False) (fR Rp [zS aHD] w2 R λr1 rL rC w3=>bD PD [zL r1 rL rC] w3 R λw4=>zj4 (λxJ=>aHn aJX [zL args aIV yM,zS [45,117]] w4 R λr2 w5=>an r2 (fR ajQ [zL r1 rL rC] w5 R λr3 jy mj w6=>xJ r3 jy mj w6) (xJ r1 rL rC w5)) λl lL lC w7=>kD (λaY=>aHn aJX [zL args aIV yM,zS [45,114]] w7 R λr4 w8=>an r4 (bD X0 [zL l lL lC] w8 R λw9=>aY w9) (aY w8)) λaO=>cj KR [zL l lL lC] aO R λr5 bh=>C2 K5 [zS r5] bh R λlN qf qg r6 bE=>zC (zA w 0) bE [zI lN,zS qf,zS qg] λbw=>vF bw w.heap.size λaHq mR mS=>zR R (.tuple #[.agg #[zI aHq,zS mR,zS mS],zB r6]) bw)):aq Gn #[zL args aIV yM,zS aHD] w R:=
 Ao {live:=[(31,[(6,(.leaf .slc))]),(63,[])],lY:=[],xk:=[26]} Tryz.func32 rfl (Eq.mp (by kernel_rfl) aC)
def XX(b:zO)(s:zT)(aC:bD J7 [zP b] w R λw1=>aB b (λa=>aHd w1 (a.add 1) λv vL vC=>ags w1 5 1 1 v vL vC s (λp cp w2=>aB b (λa2=>zC (a2.add 1) w2 [zL p (vL+s.length) cp] λw3=>zR R (.tuple #[zI (s.length:Int),.nilIface]) w3)))):aq iT #[zP b,zS s] w R:=
 aP [] [] Tryz.func40 rfl aC
def akM(s old new:zT)(aC:cj QW [zS s,zS old,zS new,zI (-1)] w R λr w1=>zR R (zS r) w1):aq Ks #[zS s,zS old,zS new] w R:=
 aP [] [] Tryz.func41 rfl aC
def ani(qU:Int)(qN:Bool)(qV qW rj:zT)(qX:zO)(qP qQ:Nat)(aC:zM w [zI qU,zB qN,zS qV,zS qW,zS rj,zL qX qP qQ] 51 λw1=>bZ w1 (zA w 0) λv=>an (decide (v=2)) (bK w1 (zA w 2) λv1=>([36,40]:zT).length+v1.length<=9223372036854775807/\(([36,40]:zT)++v1).length+([41]:zT).length<=9223372036854775807/\zR R (zS ((([36,40]:zT)++v1)++[41])) w1) (an (decide (v=3)) (bK w1 (zA w 2) λv2=>([36,40,40]:zT).length+v2.length<=9223372036854775807/\(([36,40,40]:zT)++v2).length+([41,41]:zT).length<=9223372036854775807/\zR R (zS ((([36,40,40]:zT)++v2)++[41,41])) w1) (an (decide (v=1)) (bK w1 (zA w 4) λv3=>an (decide (v3=[108,101,110])) (bK w1 (zA w 3) λv4=>([36,123,35]:zT).length+v4.length<=9223372036854775807/\(([36,123,35]:zT)++v4).length+([125]:zT).length<=9223372036854775807/\zR R (zS ((([36,123,35]:zT)++v4)++[125])) w1) (zH w1.drew λSw=>dR Sw (zA w 3) λv5=>([36,123]:zT).length+v5.length<=9223372036854775807/\dR Sw (zA w 4) λv6=>(([36,123]:zT)++v5).length+v6.length<=9223372036854775807/\gd Sw (zA w 5) λv7 vL vC=>cj uh [zL v7 vL vC] w1.drew R λr w2=>Sw w2/\((([36,123]:zT)++v5)++v6).length+r.length<=9223372036854775807/\(((([36,123]:zT)++v5)++v6)++r).length+([125]:zT).length<=9223372036854775807/\zR R (zS ((((([36,123]:zT)++v5)++v6)++r)++[125])) w2)) (zR R (zS []) w1)))):aq Lc #[.agg #[zI qU,zB qN,zS qV,zS qW,zS rj,zL qX qP qQ]] w R:=
 aP [] [(9,.held)] Tryz.func42 rfl aC
def ajZ(b:zO)(aC:aB b (λa=>aHd w (a.add 1) λv vL vC=>(v=none\/vC≠0)/\aB b (λa1=>aHd w (a1.add 1) λv1 cW ec=>M0 5 v (cW:Int) w.drew (λus w1=>zR R (zS us) w1)))):aq rI #[zP b] w R:=
 aP [] [(1,.tail 10)] Tryz.func43 rfl aC
def alr(x:zO)(Ib:zT)(fnames:Bool)(aC:zM w [zS Ib,zB fnames] 95 λw1=>kD (λxJ=>gN (λaY=>zH w1.drew λSw=>aB x (λa=>aHj Sw (a.add 1) λv=>an v.isNone (aY true w1.drew) (Oo Sw (zA w 1) λv1=>an (! v1) (aB x (λa1=>aHj Sw (a1.add 1) λv2=>aB v2 (λa2=>xB Sw (a2.add 2) λv3=>dR Sw (zA w 0) λv4=>∃x1:Bool,(Instr.lookup 176 v3 (zS v4) false).run aM w1.drew=.ok (zB x1) w1.drew/\aY x1 w1.drew))) (aY false w1.drew)))) λx2 w2=>an x2 (zR R (.tuple #[]) w2) (xJ w2)) λw3=>zH w3.drew λbX=>aB x (λa3=>aHj bX (a3.add 1) λv5=>aB v5 (λa4=>xB bX (a4.add 1) λv6=>Wg bX w.heap.size λaxY awQ=>∃(x3:zT)(x4:Bool),(Instr.lookup 175 v6 (.agg #[zS axY,zB awQ]) true).run aM w3.drew=.ok (.tuple #[zS x3,zB x4]) w3.drew/\an (! x4) (zH w3.drew.drew λgz=>aB x (λa5=>aHj gz (a5.add 1) λv7=>aB v7 (λa6=>xB gz (a6.add 1) λv8=>Wg gz w.heap.size λawR avI=>aB x (λa7=>aHj gz (a7.add 1) λv9=>aB v9 (λa8=>xB gz a8 λv10=>Wg gz w.heap.size λawS avJ=>cj QI [v10,.agg #[zS awS,zB avJ]] w3.drew.drew R λr w4=>gz w4/\d_ aM 175 v8 (.agg #[zS awR,zB avI]) (zS r) w4 (λw5=>zR R (.tuple #[]) w5)))))) (zR R (.tuple #[]) w3.drew)))):aq QF #[zP x,.agg #[zS Ib,zB fnames]] w R:=
 aP [(3,[]),(6,[(27,(.leaf .bool))])] [(1,.held),(2,.held),(4,.held)] Tryz.func44 rfl aC
def an7(s:zO)(cwd:zT)(umask:Int)(aC:zM w [zP s,zS cwd,zI (bits .and .i64 umask 7)] 186 λw1=>zR R (zP (some (zA w 0))) w1):aq aJm #[zP s,zS cwd,zI umask] w R:=
 aP [] [] Tryz.func46 rfl aC
def ajG(s:zO)(sL sC:Nat)(aC:an s.isNone (zR R zN w) (zM w [] 116 λw1=>dL w1 116 6 104 (some (zA w 0)) 0 0 s sL (λp cp w2=>zR R (zL p (0+sL) cp) w2))):aq Pw #[zL s sL sC] w R:=
 aP [] [] Tryz.func47 rfl aC
def ak8(h:zO)(lZ:Int)(aHK:Bool)(l5:zT)(lT:zO)(lP lQ:Nat)(lJ:zO)(lH lI:Nat)(lR:zO)(lK lM:Nat)(me:zO)(l6 l7:Nat)(l8:zO)(lU lV:Nat)(aC:zM w [zP h] 101 λw1=>zM w1 [zI lZ,zB aHK,zS l5,zL lT lP lQ,zL lJ lH lI,zL lR lK lM,zL me l6 l7,zL l8 lU lV] 66 λw2=>cv w2 (zA w 0) λv=>aB v (λa=>bZ w2 (a.add 9) λv1=>an (! decide (v1=0)) (zR R (.tuple #[]) w2) (cv w2 (zA w 0) λv2=>aB v2 (λa1=>cv w2 a1 λv3=>aB v3 (λa2=>bZ w2 (a2.add 14) λv4=>an (decide (v4=0)) (cv w2 (zA w 0) λv5=>aB v5 (λa3=>cv w2 a3 λv6=>aB v6 (λa4=>zC ((a4.add 3).add 10) w2 [zI 220] λw3=>zH w3.drew λSw=>aHj Sw (zA w 0) λv7=>aHj Sw (zA w 0) λv8=>aB v7 (λa5=>zC ((a5.add 3).add 2) w3.drew [zI 124] λw4=>Sw w4/\aB v8 (λa6=>zC (a6.add 9) w4 [zI 4] λw5=>zR R (.tuple #[]) w5))))) (cv w2 (zA w 0) λv9=>aB v9 (λa7=>cv w2 a7 λv10=>aB v10 (λa8=>bZ w2 (a8.add 14) λv11=>aB v10 (λa9=>zC (a9.add 14) w2 [zI (i64.wrap (v11-1))] λw6=>bZ w6 (zA w1 0) λv12=>an (decide (v12=3)) (cv w6 (zA w 0) λk9=>iC w6 w1.heap.size λcH fK cC aHx fA fB aHv aHt aHu aHw fu fy aHy fG fH fI fE fF=>bD F3 [zP k9,.agg #[zI cH,zB fK,zS cC,zL aHx fA fB,zL aHv aHt aHu,zL aHw fu fy,zL aHy fG fH,zL fI fE fF]] w6 R λw7=>zR R (.tuple #[]) w7) (an (decide (v12=2)) (cv w6 (zA w 0) λmW=>iC w6 w1.heap.size λeY kA eA j9 j6 j7 j0 jY jZ j8 aHF j4 kB kj ko kr j_ ke=>bD Qm [zP mW,.agg #[zI eY,zB kA,zS eA,zL j9 j6 j7,zL j0 jY jZ,zL j8 aHF j4,zL kB kj ko,zL kr j_ ke]] w6 R λw8=>zR R (.tuple #[]) w8) (an (decide (v12=1)) (cv w6 (zA w 0) λoQ=>iC w6 w1.heap.size λmO vh kN uJ uB uC uu aI1 aI2 uD uv aI5 vi uX uY uZ uK uL=>bD F4 [zP oQ,.agg #[zI mO,zB vh,zS kN,zL uJ uB uC,zL uu aI1 aI2,zL uD uv aI5,zL vi uX uY,zL uZ uK uL]] w6 R λw9=>zR R (.tuple #[]) w9) (an (decide (v12=11)) (zH w6.drew λbX=>aHj bX (zA w 0) λpK=>aB pK (λmZ=>xB bX (mZ.add 6) λod=>dR bX (zA w1 2) λsH=>gd bX (zA w1 7) λrf vL vC=>zD 0 vL (aB rf (λsI=>zs7 bX (sI.add (Int.toNat 0*8)) λrU vj aH9 uM uE uF aI6 aI3 uq uG uy uz aI_ aI7 u5 u6 uN uO=>d_ aM 107 od (zS sH) (.agg #[zI rU,zB vj,zS aH9,zL uM uE uF,zL aI6 aI3 uq,zL uG uy uz,zL aI_ aI7 u5,zL u6 uN uO]) w6.drew (λaO=>cv aO (zA w 0) λv20=>aB v20 (λa12=>zC ((a12.add 3).add 2) aO [zI 0] λbh=>zR R (.tuple #[]) bh)))))) (an (decide (v12=0)) (cv w6 (zA w 0) λv21=>iC w6 w1.heap.size λUu UX HM TR Tg Th SM aKD Su Ti SN SO UY Uv Uw Ux aKM TT=>bD BP [zP v21,.agg #[zI Uu,zB UX,zS HM,zL TR Tg Th,zL SM aKD Su,zL Ti SN SO,zL UY Uv Uw,zL Ux aKM TT]] w6 R λbE=>zR R (.tuple #[]) bE) (cv w6 (zA w 0) λv22=>aHd w6 (zA w1 5) λC6 cW ec=>bD Km [zP v22,zL C6 cW ec,.func (.func alm) #[] #[zP (some (zA w 0)),zP (some (zA w1 0))]] w6 R λbw=>zR R (.tuple #[]) bw)))))))))))))):aq DI #[zP h,.agg #[zI lZ,zB aHK,zS l5,zL lT lP lQ,zL lJ lH lI,zL lR lK lM,zL me l6 l7,zL l8 lU lV]] w R:=
 aP [] [(4,.held),(15,.held)] Tryz.func48 rfl aC
def ak9(h:zO)(what:zT)(ex:Int)(aC:zH w.drew λSw=>aB h (λa=>aHj Sw a λv=>aB v (λa1=>what.length+([58,32,101,114,114,111,114,32]:zT).length<=9223372036854775807/\cj wF [zI ex] w.drew R λr w1=>Sw w1/\(what++[58,32,101,114,114,111,114,32]).length+r.length<=9223372036854775807/\((what++[58,32,101,114,114,111,114,32])++r).length+([10]:zT).length<=9223372036854775807/\zK iT [zP (some (a1.add 15)),zS (((what++[58,32,101,114,114,111,114,32])++r)++[10])] w1 R λdm w2=>∃(r1:Int)(r2:Value),r2.oneCell'=true/\dm=.returned (.tuple #[zI r1,r2])/\aB h (λa2=>zC ((a2.add 3).add 2) w2 [zI 1] λw3=>zR R (.tuple #[]) w3)))):aq DJ #[zP h,zS what,zI ex] w R:=
 aP [] [(0,.held)] Tryz.func49 rfl aC
def anj(n:Int)(aC:an (decide (n<1)) (zR R (.tuple #[zP none,zI 1]) w) (an (decide (4096<n)) (zR R (.tuple #[zP none,zI 1]) w) (0<=n/\n<=n/\64*n<=281474976710656/\n<=9223372036854775807/\zR R (.tuple #[zP (some (Addr.mk (w.alloc (.cells (madeCells #[.int .u8 0,.int .u8 0,.int .u8 0,.int .u8 0,.int .u8 0,.int .u8 0,.int .u8 0,.int .u8 0,.int .u8 0,.int .u8 0,.int .u8 0,.int .u8 0,.int .u8 0,.int .u8 0,.int .u8 0,.int .u8 0,.int .u8 0,.int .u8 0,.int .u8 0,.int .u8 0,.int .u8 0,.int .u8 0,.int .u8 0,.int .u8 0,.int .u8 0,.int .u8 0,.int .u8 0,.int .u8 0,.int .u8 0,.int .u8 0,.int .u8 0,.int .u8 0,.int .u8 0,.int .u8 0,.int .u8 0,.int .u8 0,.int .u8 0,.int .u8 0,.int .u8 0,.int .u8 0,.int .u8 0,.int .u8 0,.int .u8 0,.int .u8 0,.int .u8 0,.int .u8 0,.int .u8 0,.int .u8 0,.int .u8 0,.int .u8 0,.int .u8 0,.int .u8 0,.int .u8 0,.int .u8 0,.int .u8 0,.int .u8 0,.int .u8 0,.int .u8 0,.int .u8 0,.int .u8 0,.int .u8 0,.int .u8 0,.int .u8 0,.int .u8 0] (Int.toNat n*64)) 439)).heap.size 0 none)),zI 0]) ((w.alloc (.cells (madeCells #[.int .u8 0,.int .u8 0,.int .u8 0,.int .u8 0,.int .u8 0,.int .u8 0,.int .u8 0,.int .u8 0,.int .u8 0,.int .u8 0,.int .u8 0,.int .u8 0,.int .u8 0,.int .u8 0,.int .u8 0,.int .u8 0,.int .u8 0,.int .u8 0,.int .u8 0,.int .u8 0,.int .u8 0,.int .u8 0,.int .u8 0,.int .u8 0,.int .u8 0,.int .u8 0,.int .u8 0,.int .u8 0,.int .u8 0,.int .u8 0,.int .u8 0,.int .u8 0,.int .u8 0,.int .u8 0,.int .u8 0,.int .u8 0,.int .u8 0,.int .u8 0,.int .u8 0,.int .u8 0,.int .u8 0,.int .u8 0,.int .u8 0,.int .u8 0,.int .u8 0,.int .u8 0,.int .u8 0,.int .u8 0,.int .u8 0,.int .u8 0,.int .u8 0,.int .u8 0,.int .u8 0,.int .u8 0,.int .u8 0,.int .u8 0,.int .u8 0,.int .u8 0,.int .u8 0,.int .u8 0,.int .u8 0,.int .u8 0,.int .u8 0,.int .u8 0] (Int.toNat n*64)) 439)).alloc (.cells #[zL (some (zA w 0)) (Int.toNat n) (Int.toNat n),zB true,zI 0,.int .u64 0] 191))))):aq RO #[zI n] w R:=
 aP [] [] Tryz.func50 rfl aC
def ank(d:zO)(aC:g_ Rq [zP d] w R λr w1=>zM w1 [zP r,zN] 195 λw2=>cv w2 (zA w1 0) λv=>fR PK [zP v] w2 R λr1 rL rC w3=>aHE 0 w3 λxI m x w4=>an (decide (x<(rL:Int))) (zD x rL (aB r1 (λa=>bK w4 (a.add (Int.toNat x*1)) λv1=>zK an3 [zS v1] w4 R λgj w5=>∃(agD:zT)(aeT:zO)(ad0 ad1:Nat)(ad2:zO)(acX acY:Nat)(z_:Int)(Ac:zT)(Ad:zT)(r2:Int),gj=.returned (.tuple #[.agg #[zS agD,zL aeT ad0 ad1,zL ad2 acX acY,zI z_,zS Ac,zS Ad],zI r2])/\zX w5 [zS [],zN,zN,zI 0,zS [],zS []] 116 [zS agD,zL aeT ad0 ad1,zL ad2 acX acY,zI z_,zS Ac,zS Ad] λw7=>an (decide (r2=0)) (zH w7.drew λSw=>gd Sw (zA w1 1) λv2 vL vC=>∃(IF:zT)(HN:zO)(Hr Hs:Nat)(Ht:zO)(G0 G1:Nat)(wG:Int)(wM:zT)(wN:zT),(∀wq:zW,Sw wq->wq.cell? (zA w5 0)=some (zS IF))/\(∀wq:zW,Sw wq->wq.cell? (zA w5 1)=some (zL HN Hr Hs))/\(∀wq:zW,Sw wq->wq.cell? (zA w5 2)=some (zL Ht G0 G1))/\(∀wq:zW,Sw wq->wq.cell? (zA w5 3)=some (zI wG))/\(∀wq:zW,Sw wq->wq.cell? (zA w5 4)=some (zS wM))/\(∀wq:zW,Sw wq->wq.cell? (zA w5 5)=some (zS wN))/\zM w7.drew [zS IF,zL HN Hr Hs,zL Ht G0 G1,zI wG,zS wM,zS wN] 116 λw8=>Sw w8/\dL w8 116 6 104 v2 vL vC (some (zA w7.drew 0)) 1 (λp cp w9=>zC (zA w1 1) w9 [zL p (vL+1) cp] λaO=>xI (i64.wrap (x+1)) aO/\m (i64.wrap (x+1)) aO<m x w4)) (xI (i64.wrap (x+1)) w7/\m (i64.wrap (x+1)) w7<m x w4)))) (zR R (zP (some (zA w1 0))) w4)):aq RP #[zP d] w R:=
 aP [(58,[(18,(.leaf (.int .i64)))])] [(7,.held)] Tryz.func51 rfl aC
def Rx(s:zT)(w:zW)(R:zE):Prop:=an (decide (20000<(s.length:Int))) (Wr ((w.alloc (.cells #[zN] 126)).alloc (.cells #[zI 0] 28)) (zA w 0)/\Wr (((w.alloc (.cells #[zN] 126)).alloc (.cells #[zI 0] 28)).setCell (zA w 0) zN) (Addr.mk (w.alloc (.cells #[zN] 126)).heap.size 0 none)/\∃(v:zO)(vL vC:Nat),((((w.alloc (.cells #[zN] 126)).alloc (.cells #[zI 0] 28)).setCell (zA w 0) zN).setCell (Addr.mk (w.alloc (.cells #[zN] 126)).heap.size 0 none) (zI 2)).cell? (zA w 0)=some (zL v vL vC)/\∃v1:Int,((((w.alloc (.cells #[zN] 126)).alloc (.cells #[zI 0] 28)).setCell (zA w 0) zN).setCell (Addr.mk (w.alloc (.cells #[zN] 126)).heap.size 0 none) (zI 2)).cell? (Addr.mk (w.alloc (.cells #[zN] 126)).heap.size 0 none)=some (zI v1)/\zR R (.tuple #[zL v vL vC,zI v1]) ((((w.alloc (.cells #[zN] 126)).alloc (.cells #[zI 0] 28)).setCell (zA w 0) zN).setCell (Addr.mk (w.alloc (.cells #[zN] 126)).heap.size 0 none) (zI 2))) (tJ (((w.alloc (.cells #[zN] 126)).alloc (.cells #[zI 0] 28)).alloc (.cells #[zS s] 200)) λxI m w1=>bK w1 (Addr.mk ((w.alloc (.cells #[zN] 126)).alloc (.cells #[zI 0] 28)).heap.size 0 none) λv2=>an (! (decide (v2=[]))) (bK w1 (Addr.mk ((w.alloc (.cells #[zN] 126)).alloc (.cells #[zI 0] 28)).heap.size 0 none) λv3=>0<=(0:Int)/\∃b:UInt8,v3[Int.toNat 0]?=some b/\gN (λxJ=>an (decide ((b.toNat:Int)=32)) (xJ true w1) (xJ (decide ((b.toNat:Int)=9)) w1)) λx w2=>an x (aq oA #[zP (some (Addr.mk ((w.alloc (.cells #[zN] 126)).alloc (.cells #[zI 0] 28)).heap.size 0 none)),zI 1] w2 (λed w3=>(ed=.returned (.tuple #[])/\xI w3/\m w3<m w1)\/(∃ch,ed=.panicked ch/\CallsD aM aJ3 #[zP (some (zA w 0)),zP (some (Addr.mk (w.alloc (.cells #[zN] 126)).heap.size 0 none))] (.panicking ch) w3 (λdm ux w4=>(∃rv,dm=.returned rv)/\settle ux=.returning/\aHd w4 (zA w 0) λv4 cW ec=>bZ w4 (Addr.mk (w.alloc (.cells #[zN] 126)).heap.size 0 none) λv5=>zR R (.tuple #[zL v4 cW ec,zI v5]) w4)))) (an (decide ((b.toNat:Int)=35)) (aq PT #[zP (some (Addr.mk ((w.alloc (.cells #[zN] 126)).alloc (.cells #[zI 0] 28)).heap.size 0 none))] w2 (λgj w5=>(gj=.returned (.tuple #[])/\xI w5/\m w5<m w1)\/(∃gH,gj=.panicked gH/\CallsD aM aJ3 #[zP (some (zA w 0)),zP (some (Addr.mk (w.alloc (.cells #[zN] 126)).heap.size 0 none))] (.panicking gH) w5 (λql aIJ w6=>(∃aIK,ql=.returned aIK)/\settle aIJ=.returning/\aHd w6 (zA w 0) λv6 gO kE=>bZ w6 (Addr.mk (w.alloc (.cells #[zN] 126)).heap.size 0 none) λv7=>zR R (.tuple #[zL v6 gO kE,zI v7]) w6)))) (an (decide ((b.toNat:Int)=10)) (aq oA #[zP (some (Addr.mk ((w.alloc (.cells #[zN] 126)).alloc (.cells #[zI 0] 28)).heap.size 0 none)),zI 1] w2 (λjx w7=>(jx=.returned (.tuple #[])/\aHd w7 (zA w 0) λv8 jk qm=>∃xs news:List Value,aS (w7.alloc (.cells #[zI 2,zS [10]] 203)) 0 203 2 (zL v8 jk qm) jk xs/\news.length=1*2/\(∀qv:Value,qv∈news->qv.oneCell'=true)/\(0<1->∃a:Addr,(some (zA w7 0))=some a/\∀(j:Nat)(u:Value),news[j]?=some u->(w7.alloc (.cells #[zI 2,zS [10]] 203)).cell? (a.add j)=some u)/\jk+1<=9223372036854775807/\(jk+1)*24<=140737488355328/\∀(p:zO)(cp:Nat)(w8:zW),aS w8 0 203 2 (Value.slice p (jk+1) cp) (jk+1) (xs++news)->(w7.alloc (.cells #[zI 2,zS [10]] 203)).grownBy w8 (Value.ownBlock (Value.slice v8 jk qm))->oO v8 p (jk+1) qm cp (w7.alloc (.cells #[zI 2,zS [10]] 203)).heap.size->Wr w8 (zA w 0)/\xI (w8.setCell (zA w 0) (zL p (jk+1) cp))/\m (w8.setCell (zA w 0) (zL p (jk+1) cp))<m w1)\/(∃mh,jx=.panicked mh/\CallsD aM aJ3 #[zP (some (zA w 0)),zP (some (Addr.mk (w.alloc (.cells #[zN] 126)).heap.size 0 none))] (.panicking mh) w7 (λmg vI w9=>(∃vJ,mg=.returned vJ)/\settle vI=.returning/\aHd w9 (zA w 0) λv9 vK zm=>bZ w9 (Addr.mk (w.alloc (.cells #[zN] 126)).heap.size 0 none) λv10=>zR R (.tuple #[zL v9 vK zm,zI v10]) w9)))) (aq Kt #[zP (some (Addr.mk ((w.alloc (.cells #[zN] 126)).alloc (.cells #[zI 0] 28)).heap.size 0 none))] w2 (λaII aO=>(∃r:Bool,aII=.returned (zB r)/\an r (zH aO.drew λSw=>gd Sw (zA w 0) λv11 mX aJw=>aq PO #[zP (some (Addr.mk ((w.alloc (.cells #[zN] 126)).alloc (.cells #[zI 0] 28)).heap.size 0 none))] aO.drew (λvH bh=>(∃r1:zT,vH=.returned (zS r1)/\Sw bh/\Sw (bh.alloc (.cells #[zI 1,zS r1] 203))/\∃xs1 M9:List Value,aS (bh.alloc (.cells #[zI 1,zS r1] 203)) 0 203 2 (zL v11 mX aJw) mX xs1/\M9.length=1*2/\(∀qv:Value,qv∈M9->qv.oneCell'=true)/\(0<1->∃a1:Addr,(some (zA bh 0))=some a1/\∀(j:Nat)(u:Value),M9[j]?=some u->(bh.alloc (.cells #[zI 1,zS r1] 203)).cell? (a1.add j)=some u)/\mX+1<=9223372036854775807/\(mX+1)*24<=140737488355328/\∀(p1:zO)(m_:Nat)(bE:zW),aS bE 0 203 2 (Value.slice p1 (mX+1) m_) (mX+1) (xs1++M9)->(bh.alloc (.cells #[zI 1,zS r1] 203)).grownBy bE (Value.ownBlock (Value.slice v11 mX aJw))->oO v11 p1 (mX+1) aJw m_ (bh.alloc (.cells #[zI 1,zS r1] 203)).heap.size->Wr bE (zA w 0)/\xI (bE.setCell (zA w 0) (zL p1 (mX+1) m_))/\m (bE.setCell (zA w 0) (zL p1 (mX+1) m_))<m w1)\/(∃vG,vH=.panicked vG/\CallsD aM aJ3 #[zP (some (zA w 0)),zP (some (Addr.mk (w.alloc (.cells #[zN] 126)).heap.size 0 none))] (.panicking vG) bh (λBn I8 bw=>(∃I9,Bn=.returned I9)/\settle I8=.returning/\aHd bw (zA w 0) λv12 xE Bp=>bZ bw (Addr.mk (w.alloc (.cells #[zN] 126)).heap.size 0 none) λk9=>zR R (.tuple #[zL v12 xE Bp,zI k9]) bw)))) (zH aO.drew λbX=>gd bX (zA w 0) λmW pL Bq=>aq Qn #[zP (some (Addr.mk ((w.alloc (.cells #[zN] 126)).alloc (.cells #[zI 0] 28)).heap.size 0 none))] aO.drew (λBo bO=>(∃r2:zT,Bo=.returned (zS r2)/\bX bO/\bX (bO.alloc (.cells #[zI 0,zS r2] 203))/\∃xs2 M_:List Value,aS (bO.alloc (.cells #[zI 0,zS r2] 203)) 0 203 2 (zL mW pL Bq) pL xs2/\M_.length=1*2/\(∀qv:Value,qv∈M_->qv.oneCell'=true)/\(0<1->∃a2:Addr,(some (zA bO 0))=some a2/\∀(j:Nat)(u:Value),M_[j]?=some u->(bO.alloc (.cells #[zI 0,zS r2] 203)).cell? (a2.add j)=some u)/\pL+1<=9223372036854775807/\(pL+1)*24<=140737488355328/\∀(p2:zO)(E_:Nat)(b8:zW),aS b8 0 203 2 (Value.slice p2 (pL+1) E_) (pL+1) (xs2++M_)->(bO.alloc (.cells #[zI 0,zS r2] 203)).grownBy b8 (Value.ownBlock (Value.slice mW pL Bq))->oO mW p2 (pL+1) Bq E_ (bO.alloc (.cells #[zI 0,zS r2] 203)).heap.size->Wr b8 (zA w 0)/\xI (b8.setCell (zA w 0) (zL p2 (pL+1) E_))/\m (b8.setCell (zA w 0) (zL p2 (pL+1) E_))<m w1)\/(∃vM,Bo=.panicked vM/\CallsD aM aJ3 #[zP (some (zA w 0)),zP (some (Addr.mk (w.alloc (.cells #[zN] 126)).heap.size 0 none))] (.panicking vM) bO (λA8 I_ aHe=>(∃Ja,A8=.returned Ja)/\settle I_=.returning/\aHd aHe (zA w 0) λoQ Ji Ot=>bZ aHe (Addr.mk (w.alloc (.cells #[zN] 126)).heap.size 0 none) λpK=>zR R (.tuple #[zL oQ Ji Ot,zI pK]) aHe)))))\/(∃Bm,aII=.panicked Bm/\CallsD aM aJ3 #[zP (some (zA w 0)),zP (some (Addr.mk (w.alloc (.cells #[zN] 126)).heap.size 0 none))] (.panicking Bm) aO (λA9 Jb cF=>(∃Jc,A9=.returned Jc)/\settle Jb=.returning/\aHd cF (zA w 0) λod Wp vC9=>bZ cF (Addr.mk (w.alloc (.cells #[zN] 126)).heap.size 0 none) λsH=>zR R (.tuple #[zL od Wp vC9,zI sH]) cF))))))) (aHd w1 (zA w 0) λrf NI Vu=>Wr w1 (zA w 0)/\Wr (w1.setCell (zA w 0) (zL rf NI Vu)) (Addr.mk (w.alloc (.cells #[zN] 126)).heap.size 0 none)/\CallsD aM aJ3 #[zP (some (zA w 0)),zP (some (Addr.mk (w.alloc (.cells #[zN] 126)).heap.size 0 none))] .returning ((w1.setCell (zA w 0) (zL rf NI Vu)).setCell (Addr.mk (w.alloc (.cells #[zN] 126)).heap.size 0 none) (zI 0)) (λVv Jd cL=>(∃Je,Vv=.returned Je)/\settle Jd=.returning/\aHd cL (zA w 0) λv20 ayT ayU=>bZ cL (Addr.mk (w.alloc (.cells #[zN] 126)).heap.size 0 none) λv21=>zR R (.tuple #[zL v20 ayT ayU,zI v21]) cL)))
def amz(s:zT)(aC:Rx s w R):aq Rn #[zS s] w R:=
 Cc {live:=[(124,[]),(3978,[(29,(.leaf .bool))])],lY:=[(16,.held),(7,.held)]} Tryz.func52 rfl (Eq.mp (α:=Rx s w R) (by kernel_rfl) aC)
def akN(p:zO)(depth:Int)(aC:zM w [zI 0,zB false,zS [],zN,zN,zN,zN,zN] 66 λw1=>zX w1 [zI 0,zB false,zS [],zN,zN,zN,zN,zN] 66 [zI 3,zB false,zS [],zN,zN,zN,zN,zN] λw3=>bD BQ [zP p] w3 R λw4=>tJ w4 λxI m w5=>aHn Qo [zP p] w5 R λr w6=>an (! r) (zH w6.drew λSw=>gd Sw (zA w1 7) λv vL vC=>CS P8 [zP p,zI depth] w6.drew R λdh nY rName nJ nE aHT nB nv aHQ nG aHS nD nZ nO nP nQ nK nL w7=>Sw w7/\zM w7 [zI dh,zB nY,zS rName,zL nJ nE aHT,zL nB nv aHQ,zL nG aHS nD,zL nZ nO nP,zL nQ nK nL] 66 λw8=>Sw w8/\dL w8 66 8 152 v vL vC (some (zA w7 0)) 1 (λp1 cp w9=>zC (zA w1 7) w9 [zL p1 (vL+1) cp] λaO=>aHn DF [zP p,zI 1,zS [59]] aO R λr1 bh=>an (! r1) (zM bh [zS [10]] 9 λbE=>aHn wC [zP p,zI 2,zL (some (zA bh 0)) 1 1] bE R λr2 bw=>an (! r2) (iC bw w1.heap.size λcH fK cC aHx fA fB aHv aHt aHu aHw fu fy aHy fG fH fI fE fF=>zC (zA w 0) bw [zI cH,zB fK,zS cC,zL aHx fA fB,zL aHv aHt aHu,zL aHw fu fy,zL aHy fG fH,zL fI fE fF] λbO=>iC bO w.heap.size λeY kA eA j9 j6 j7 j0 jY jZ j8 aHF j4 kB kj ko kr j_ ke=>zR R (.agg #[zI eY,zB kA,zS eA,zL j9 j6 j7,zL j0 jY jZ,zL j8 aHF j4,zL kB kj ko,zL kr j_ ke]) bO) (bD BQ [zP p] bw R λb8=>xI b8/\m b8<m w5)) (bD BQ [zP p] bh R λaHe=>xI aHe/\m aHe<m w5))) (iC w6 w1.heap.size λmO vh kN uJ uB uC uu aI1 aI2 uD uv aI5 vi uX uY uZ uK uL=>zC (zA w 0) w6 [zI mO,zB vh,zS kN,zL uJ uB uC,zL uu aI1 aI2,zL uD uv aI5,zL vi uX uY,zL uZ uK uL] λcF=>iC cF w.heap.size λrU vj aH9 uM uE uF aI6 aI3 uq uG uy uz aI_ aI7 u5 u6 uN uO=>zR R (.agg #[zI rU,zB vj,zS aH9,zL uM uE uF,zL aI6 aI3 uq,zL uG uy uz,zL aI_ aI7 u5,zL u6 uN uO]) cF)):aq Qk #[zP p,zI depth] w R:=
 aP [(58,[])] [(5,.held)] Tryz.func54 rfl aC
def amR(ok:Bool)(aC:an (! ok) (R (.panicked [{v:=(.iface 28 (zI 100)),recovered:=false}]) w) (zR R (.tuple #[]) w)):aq DV #[zB ok] w R:=
 aP [] [] Tryz.func55 rfl aC
def al1(lZ:Int)(aHK:Bool)(l5:zT)(lT:zO)(lP lQ:Nat)(lJ:zO)(lH lI:Nat)(lR:zO)(lK lM:Nat)(me:zO)(l6 l7:Nat)(l8:zO)(lU lV:Nat)(aC:zM w [zI lZ,zB aHK,zS l5,zL lT lP lQ,zL lJ lH lI,zL lR lK lM,zL me l6 l7,zL l8 lU lV] 66 λw1=>aHd w1 (zA w 5) λv vL vC=>fR J_ [zL v vL vC,.func (.func Za) #[] #[]] w1 R λr rL rC w2=>aHd w2 (zA w 4) λv1 cW ec=>fR PL [zL v1 cW ec,.func (.func amO) #[] #[]] w2 R λr1 jy mj w3=>dL w3 9 1 16 r rL rC r1 jy (λp cp w4=>aHd w4 (zA w 3) λv2 gO kE=>fR Yh [zL v2 gO kE,.func (.func uh) #[] #[]] w4 R λr2 tM xG w5=>dL w5 9 1 16 p (rL+jy) cp r2 tM (λp1 m_ w6=>cj Ro [zL p1 ((rL+jy)+tM) m_] w6 R λr3 w7=>zR R (zS r3) w7))):aq Gd #[.agg #[zI lZ,zB aHK,zS l5,zL lT lP lQ,zL lJ lH lI,zL lR lK lM,zL me l6 l7,zL l8 lU lV]] w R:=
 aP [] [] Tryz.func56 rfl aC
def amA(lZ:Int)(aHK:Bool)(l5:zT)(lT:zO)(lP lQ:Nat)(lJ:zO)(lH lI:Nat)(lR:zO)(lK lM:Nat)(me:zO)(l6 l7:Nat)(l8:zO)(lU lV:Nat)(aC:zM w [zI lZ,zB aHK,zS l5,zL lT lP lQ,zL lJ lH lI,zL lR lK lM,zL me l6 l7,zL l8 lU lV] 66 λw1=>aHd w1 (zA w 7) λv vL vC=>fR Yi [zL v vL vC,.func (.func DQ) #[] #[]] w1 R λr rL rC w2=>cj DT [zL r rL rC,zS [59,32]] w2 R λr1 w3=>zR R (zS r1) w3):aq aKl #[.agg #[zI lZ,zB aHK,zS l5,zL lT lP lQ,zL lJ lH lI,zL lR lK lM,zL me l6 l7,zL l8 lU lV]] w R:=
 aP [] [] Tryz.func59 rfl aC
def amB(l:zO)(lL lC:Nat)(w:zW)(R:zE)(aC:cj DT [zL l lL lC,zS [32]] w R λr w1=>zR R (zS r) w1):aq Ro #[zL l lL lC] w R:=
 aP [] [] Tryz.func68 rfl aC
def aj0(l:zO)(lL lC:Nat)(f:Value)(aC:0<=(lL:Int)/\(lL:Int)<=(lL:Int)/\16*(lL:Int)<=281474976710656/\(lL:Int)<=9223372036854775807/\c7 (w.alloc (.cells (madeCells #[zS []] (Int.toNat (lL:Int)*1)) 9)) (λw1=>aHE 0 w1 λxI m x w2=>an (decide (x<(lL:Int))) (zD x lL (aB l (λa=>I6 w2 (a.add (Int.toNat x*2)) λjP jL jG jH=>zX w2 [zS [],zN] 138 [zS jP,zL jL jG jH] λw4=>xq w4 w2.heap.size λCV Cz aJ9 aJ_=>gu f (λg first cap=>an (dD aM g) (aq g ⟨first++([.agg #[zS CV,zL Cz aJ9 aJ_]]++cap)⟩ w4 (λed w5=>(∃r:zT,ed=.returned (zS r)/\zD x (Int.toNat (lL:Int)) (zC ((zA w 0).add (Int.toNat x*1)) w5 [zS r] λw6=>xI (i64.wrap (x+1)) w6/\m (i64.wrap (x+1)) w6<m x w2))\/(∃ch,ed=.panicked ch/\R (.panicked ch) w5))) False)))) (zR R (zL (some (zA w 0)) (Int.toNat (lL:Int)) (Int.toNat (lL:Int))) w2))):aq J_ #[zL l lL lC,f] w R:=
 aP [(58,[(13,(.leaf (.int .i64)))])] [] Tryz.func69 rfl aC
def alH(aC:zM w [zS [60,60],zS [62,62],zS [60,61],zS [62,61],zS [61,61],zS [33,61],zS [38,38],zS [124,124],zS [43,61],zS [45,61],zS [42,61],zS [47,61],zS [37,61],zS [43],zS [45],zS [42],zS [47],zS [37],zS [60],zS [62],zS [38],zS [124],zS [94],zS [63],zS [58],zS [61],zS [33],zS [126],zS [40],zS [41]] 9 λw1=>zR R (zL (some (zA w 0)) 30 30) w1):aq QV #[] w R:=
 aP [] [] Tryz.func72 rfl aC
def aj4(p:zO)(aC:cj DO [zP p] w R λr w1=>aB p (λa=>bK w1 a λv=>cj B9 [zS v] w1 R λr1 w2=>aB p (λa1=>bK w2 a1 λv1=>0<=(r1.length:Int)/\(r1.length:Int)<=v1.length/\zM w2 [zS (v1.drop (Int.toNat (r1.length:Int)))] 72 λw3=>zM w3 [zS [61],zS [43,61],zS [45,61],zS [42,61],zS [47,61],zS [37,61]] 9 λw4=>cj wz [zP (some (zA w2 0)),zL (some (zA w3 0)) 6 6] w4 R λr2 w5=>an (decide (r1=[])) (zR R (.tuple #[zS [],zS [],zB false]) w5) (an (decide (r2=[])) (zR R (.tuple #[zS [],zS [],zB false]) w5) (bK w5 (zA w2 0) λv2=>aB p (λa2=>zC a2 w5 [zS v2] λw6=>zR R (.tuple #[zS r1,zS r2,zB true]) w6)))))):aq aKw #[zP p] w R:=
 aP [] [] Tryz.func74 rfl aC
def ako(p:zO)(depth:Int)(aC:g_ F0 [zP p,zI 0,zI depth] w R λr w1=>zM w1 [zS [63]] 9 λw2=>cj wz [zP p,zL (some (zA w1 0)) 1 1] w2 R λr1 w3=>an (decide (r1=[])) (zR R (zP r) w3) (g_ DH [zP p,zI (i64.wrap (depth+1))] w3 R λr2 w4=>zM w4 [zS [58]] 9 λw5=>cj wz [zP p,zL (some (zA w4 0)) 1 1] w5 R λr3 w6=>bD qG [zB (! (decide (r3=[]))),zI 130] w6 R λw7=>g_ Kl [zP p,zI (i64.wrap (depth+1))] w7 R λr4 w8=>zM w8 [zP r,zP r2,zP r4] 74 λw9=>zM w9 [zI 6,zI 0,zS [],zS [],zL (some (zA w8 0)) 3 3] 147 λaO=>zR R (zP (some (zA w9 0))) aO)):aq Kl #[zP p,zI depth] w R:=
 aP [] [] Tryz.func76 rfl aC
def alI(wo:zO)(name:zT)(aC:aB wo (λa=>aHd w a λv vL vC=>aKt Gx [zL v vL vC,zS name] w R λrName u7 Cd D8 r w1=>zX w1 [zS [],zS [],zB false,zB false] 32 [zS rName,zS u7,zB Cd,zB D8] λw3=>bK w3 (zA w1 1) λv1=>xp RD [zS v1] w3 R λr1 r2 w4=>bD qG [zB r2,zI 130] w4 R λw5=>zR R (zI r1) w5)):aq KD #[zP wo,zS name] w R:=
 aP [] [] Tryz.func77 rfl aC
def amS(op:zT)(n:Int)(aC:an (decide (op=[45])) (zR R (zI (i64.wrap (0-n))) w) (an (decide (op=[126])) (zR R (zI (bits .xor .i64 (-1) n)) w) (an (decide (op=[33])) (aG_ bS [zB (decide (n=0))] w R λr w1=>zR R (zI r) w1) (zR R (zI n) w)))):aq RC #[zS op,zI n] w R:=
 aP [] [] Tryz.func78 rfl aC
def amC(op:zT)(a b:Int)(aC:kD (λxJ=>an (! decide (b=0)) (bD qG [zB true,zI 131] w R λw1=>xJ w1) (an (! (decide (op=[47]))) (bD qG [zB (! (decide (op=[37]))),zI 131] w R λw2=>xJ w2) (bD qG [zB false,zI 131] w R λw3=>xJ w3))) λw4=>an (decide (op=[43])) (zR R (zI (i64.wrap (a+b))) w4) (an (decide (op=[45])) (zR R (zI (i64.wrap (a-b))) w4) (an (decide (op=[42])) (zR R (zI (i64.wrap (a*b))) w4) (an (decide (op=[47])) (b≠0/\zR R (zI (i64.wrap (Int.tdiv a b))) w4) (an (decide (op=[37])) (b≠0/\zR R (zI (Int.tmod a b)) w4) (an (decide (op=[60,60])) (0<=(bits .and .u64 (u64.wrap b) 63)/\zR R (zI (i64.wrap (a*2^(min (Int.toNat (bits .and .u64 (u64.wrap b) 63)) i64.bits)))) w4) (an (decide (op=[62,62])) (0<=(bits .and .u64 (u64.wrap b) 63)/\zR R (zI (Int.fdiv a (2^(min (Int.toNat (bits .and .u64 (u64.wrap b) 63)) i64.bits)))) w4) (an (decide (op=[38])) (zR R (zI (bits .and .i64 a b)) w4) (an (decide (op=[124])) (zR R (zI (bits .or .i64 a b)) w4) (an (decide (op=[94])) (zR R (zI (bits .xor .i64 a b)) w4) (Bl (λaY=>an (decide (op=[61,61])) (an (decide (a=b)) (aG_ bS [zB true] w4 R λr w5=>aY r w5) (an (decide (op=[33,61])) (an (! decide (a=b)) (aG_ bS [zB true] w4 R λr1 w6=>aY r1 w6) (an (decide (op=[60])) (an (decide (a<b)) (aG_ bS [zB true] w4 R λr2 w7=>aY r2 w7) (an (decide (op=[60,61])) (an (decide (a<=b)) (aG_ bS [zB true] w4 R λr3 w8=>aY r3 w8) (an (decide (op=[62])) (an (decide (b<a)) (aG_ bS [zB true] w4 R λr4 w9=>aY r4 w9) (an (decide (op=[62,61])) (aG_ bS [zB (decide (b<=a))] w4 R λr5 aO=>aY r5 aO) (aG_ bS [zB false] w4 R λr6 bh=>aY r6 bh))) (an (decide (op=[62,61])) (aG_ bS [zB (decide (b<=a))] w4 R λr7 bE=>aY r7 bE) (aG_ bS [zB false] w4 R λr8 bw=>aY r8 bw)))) (an (decide (op=[62])) (an (decide (b<a)) (aG_ bS [zB true] w4 R λr9 bO=>aY r9 bO) (an (decide (op=[62,61])) (aG_ bS [zB (decide (b<=a))] w4 R λeB b8=>aY eB b8) (aG_ bS [zB false] w4 R λaHz aHe=>aY aHz aHe))) (an (decide (op=[62,61])) (aG_ bS [zB (decide (b<=a))] w4 R λgP cF=>aY gP cF) (aG_ bS [zB false] w4 R λld cL=>aY ld cL))))) (an (decide (op=[60,61])) (an (decide (a<=b)) (aG_ bS [zB true] w4 R λsJ dV=>aY sJ dV) (an (decide (op=[62])) (an (decide (b<a)) (aG_ bS [zB true] w4 R λri eu=>aY ri eu) (an (decide (op=[62,61])) (aG_ bS [zB (decide (b<=a))] w4 R λr16 eM=>aY r16 eM) (aG_ bS [zB false] w4 R λaIe eO=>aY aIe eO))) (an (decide (op=[62,61])) (aG_ bS [zB (decide (b<=a))] w4 R λxF k_=>aY xF k_) (aG_ bS [zB false] w4 R λtL jO=>aY tL jO)))) (an (decide (op=[62])) (an (decide (b<a)) (aG_ bS [zB true] w4 R λaIr mY=>aY aIr mY) (an (decide (op=[62,61])) (aG_ bS [zB (decide (b<=a))] w4 R λC_ zn=>aY C_ zn) (aG_ bS [zB false] w4 R λzq pM=>aY zq pM))) (an (decide (op=[62,61])) (aG_ bS [zB (decide (b<=a))] w4 R λDa aJg=>aY Da aJg) (aG_ bS [zB false] w4 R λOu Jj=>aY Ou Jj)))))) (an (decide (op=[60])) (an (decide (a<b)) (aG_ bS [zB true] w4 R λDb oe=>aY Db oe) (an (decide (op=[60,61])) (an (decide (a<=b)) (aG_ bS [zB true] w4 R λBt Br=>aY Bt Br) (an (decide (op=[62])) (an (decide (b<a)) (aG_ bS [zB true] w4 R λBu aId=>aY Bu aId) (an (decide (op=[62,61])) (aG_ bS [zB (decide (b<=a))] w4 R λr28 Wj=>aY r28 Wj) (aG_ bS [zB false] w4 R λWu Wk=>aY Wu Wk))) (an (decide (op=[62,61])) (aG_ bS [zB (decide (b<=a))] w4 R λxH gy=>aY xH gy) (aG_ bS [zB false] w4 R λr31 w36=>aY r31 w36)))) (an (decide (op=[62])) (an (decide (b<a)) (aG_ bS [zB true] w4 R λr32 Bs=>aY r32 Bs) (an (decide (op=[62,61])) (aG_ bS [zB (decide (b<=a))] w4 R λr33 E8=>aY r33 E8) (aG_ bS [zB false] w4 R λr34 C7=>aY r34 C7))) (an (decide (op=[62,61])) (aG_ bS [zB (decide (b<=a))] w4 R λOv Jg=>aY Ov Jg) (aG_ bS [zB false] w4 R λWv Jh=>aY Wv Jh))))) (an (decide (op=[60,61])) (an (decide (a<=b)) (aG_ bS [zB true] w4 R λOw C9=>aY Ow C9) (an (decide (op=[62])) (an (decide (b<a)) (aG_ bS [zB true] w4 R λWw E9=>aY Ww E9) (an (decide (op=[62,61])) (aG_ bS [zB (decide (b<=a))] w4 R λWx w44=>aY Wx w44) (aG_ bS [zB false] w4 R λWy w45=>aY Wy w45))) (an (decide (op=[62,61])) (aG_ bS [zB (decide (b<=a))] w4 R λWz w46=>aY Wz w46) (aG_ bS [zB false] w4 R λsK w47=>aY sK w47)))) (an (decide (op=[62])) (an (decide (b<a)) (aG_ bS [zB true] w4 R λaIL w48=>aY aIL w48) (an (decide (op=[62,61])) (aG_ bS [zB (decide (b<=a))] w4 R λr44 w49=>aY r44 w49) (aG_ bS [zB false] w4 R λr45 w50=>aY r45 w50))) (an (decide (op=[62,61])) (aG_ bS [zB (decide (b<=a))] w4 R λr46 w51=>aY r46 w51) (aG_ bS [zB false] w4 R λr47 w52=>aY r47 w52))))))) (an (decide (op=[33,61])) (an (! decide (a=b)) (aG_ bS [zB true] w4 R λr48 w53=>aY r48 w53) (an (decide (op=[60])) (an (decide (a<b)) (aG_ bS [zB true] w4 R λr49 w54=>aY r49 w54) (an (decide (op=[60,61])) (an (decide (a<=b)) (aG_ bS [zB true] w4 R λr50 w55=>aY r50 w55) (an (decide (op=[62])) (an (decide (b<a)) (aG_ bS [zB true] w4 R λr51 w56=>aY r51 w56) (an (decide (op=[62,61])) (aG_ bS [zB (decide (b<=a))] w4 R λr52 w57=>aY r52 w57) (aG_ bS [zB false] w4 R λr53 w58=>aY r53 w58))) (an (decide (op=[62,61])) (aG_ bS [zB (decide (b<=a))] w4 R λr54 w59=>aY r54 w59) (aG_ bS [zB false] w4 R λr55 w60=>aY r55 w60)))) (an (decide (op=[62])) (an (decide (b<a)) (aG_ bS [zB true] w4 R λr56 w61=>aY r56 w61) (an (decide (op=[62,61])) (aG_ bS [zB (decide (b<=a))] w4 R λr57 w62=>aY r57 w62) (aG_ bS [zB false] w4 R λr58 w63=>aY r58 w63))) (an (decide (op=[62,61])) (aG_ bS [zB (decide (b<=a))] w4 R λr59 w64=>aY r59 w64) (aG_ bS [zB false] w4 R λr60 w65=>aY r60 w65))))) (an (decide (op=[60,61])) (an (decide (a<=b)) (aG_ bS [zB true] w4 R λr61 w66=>aY r61 w66) (an (decide (op=[62])) (an (decide (b<a)) (aG_ bS [zB true] w4 R λr62 w67=>aY r62 w67) (an (decide (op=[62,61])) (aG_ bS [zB (decide (b<=a))] w4 R λr63 w68=>aY r63 w68) (aG_ bS [zB false] w4 R λr64 w69=>aY r64 w69))) (an (decide (op=[62,61])) (aG_ bS [zB (decide (b<=a))] w4 R λr65 w70=>aY r65 w70) (aG_ bS [zB false] w4 R λr66 w71=>aY r66 w71)))) (an (decide (op=[62])) (an (decide (b<a)) (aG_ bS [zB true] w4 R λJk w72=>aY Jk w72) (an (decide (op=[62,61])) (aG_ bS [zB (decide (b<=a))] w4 R λr68 w73=>aY r68 w73) (aG_ bS [zB false] w4 R λr69 w74=>aY r69 w74))) (an (decide (op=[62,61])) (aG_ bS [zB (decide (b<=a))] w4 R λr70 w75=>aY r70 w75) (aG_ bS [zB false] w4 R λr71 w76=>aY r71 w76)))))) (an (decide (op=[60])) (an (decide (a<b)) (aG_ bS [zB true] w4 R λr72 w77=>aY r72 w77) (an (decide (op=[60,61])) (an (decide (a<=b)) (aG_ bS [zB true] w4 R λr73 w78=>aY r73 w78) (an (decide (op=[62])) (an (decide (b<a)) (aG_ bS [zB true] w4 R λr74 w79=>aY r74 w79) (an (decide (op=[62,61])) (aG_ bS [zB (decide (b<=a))] w4 R λr75 w80=>aY r75 w80) (aG_ bS [zB false] w4 R λr76 w81=>aY r76 w81))) (an (decide (op=[62,61])) (aG_ bS [zB (decide (b<=a))] w4 R λr77 w82=>aY r77 w82) (aG_ bS [zB false] w4 R λr78 w83=>aY r78 w83)))) (an (decide (op=[62])) (an (decide (b<a)) (aG_ bS [zB true] w4 R λr79 w84=>aY r79 w84) (an (decide (op=[62,61])) (aG_ bS [zB (decide (b<=a))] w4 R λr80 w85=>aY r80 w85) (aG_ bS [zB false] w4 R λr81 w86=>aY r81 w86))) (an (decide (op=[62,61])) (aG_ bS [zB (decide (b<=a))] w4 R λr82 w87=>aY r82 w87) (aG_ bS [zB false] w4 R λr83 w88=>aY r83 w88))))) (an (decide (op=[60,61])) (an (decide (a<=b)) (aG_ bS [zB true] w4 R λr84 w89=>aY r84 w89) (an (decide (op=[62])) (an (decide (b<a)) (aG_ bS [zB true] w4 R λr85 w90=>aY r85 w90) (an (decide (op=[62,61])) (aG_ bS [zB (decide (b<=a))] w4 R λr86 w91=>aY r86 w91) (aG_ bS [zB false] w4 R λr87 w92=>aY r87 w92))) (an (decide (op=[62,61])) (aG_ bS [zB (decide (b<=a))] w4 R λr88 w93=>aY r88 w93) (aG_ bS [zB false] w4 R λr89 w94=>aY r89 w94)))) (an (decide (op=[62])) (an (decide (b<a)) (aG_ bS [zB true] w4 R λr90 w95=>aY r90 w95) (an (decide (op=[62,61])) (aG_ bS [zB (decide (b<=a))] w4 R λr91 w96=>aY r91 w96) (aG_ bS [zB false] w4 R λr92 w97=>aY r92 w97))) (an (decide (op=[62,61])) (aG_ bS [zB (decide (b<=a))] w4 R λr93 w98=>aY r93 w98) (aG_ bS [zB false] w4 R λr94 w99=>aY r94 w99))))))) λx ayV=>zR R (zI x) ayV))))))))))):aq aKm #[zS op,zI a,zI b] w R:=
 aP [(3,[]),(15,[(6,(.leaf (.int .i64)))])] [] Tryz.func79 rfl aC
def amT(b:Bool)(aC:an b (zR R (zI 1) w) (zR R (zI 0) w)):aq bS #[zB b] w R:=
 aP [] [] Tryz.func80 rfl aC
def alJ(wo:zO)(name:zT)(n:Int)(aC:zH w.drew λSw=>aB wo (λa=>gd Sw a λv vL vC=>cj wF [zI n] w.drew R λr w1=>Sw w1/\A6 Gy [zL v vL vC,zS name,zS r] w1 R λr1 rL rC r2 w2=>bD qG [zB (decide (r2=0)),zI r2] w2 R λw3=>aB wo (λa1=>zC a1 w3 [zL r1 rL rC] λw4=>zR R (.tuple #[]) w4))):aq F_ #[zP wo,zS name,zI n] w R:=
 aP [] [(0,.held)] Tryz.func81 rfl aC
def amU(s:zT)(aC:zX w [zI 0,zS [],zS []] 35 [zI 0,zS s,zS []] λw2=>vF w2 w.heap.size λaHq mR mS=>zR R (.tuple #[.agg #[zI aHq,zS mR,zS mS],zB true]) w2):aq K5 #[zS s] w R:=
 aP [] [] Tryz.func82 rfl aC
def amD(s:zT)(aC:an (decide (s=[])) (zR R zN w) (cj Ql [zS s,zS [10]] w R λr w1=>fR Rg [zS r,zS [10]] w1 R λr1 rL rC w2=>zR R (zL r1 rL rC) w2)):aq Rp #[zS s] w R:=
 aP [] [] Tryz.func86 rfl aC
def amh(l:zO)(lL lC:Nat)(aC:zM w [zP none,zN] 86 λw1=>aHE 0 w1 λxI m x w2=>an (decide (x<(lL:Int))) (zD x lL (aB l (λa=>bK w2 (a.add (Int.toNat x*1)) λv=>v.length+([10]:zT).length<=9223372036854775807/\zK iT [zP (some (zA w 0)),zS (v++[10])] w2 R λed w3=>∃(r:Int)(r1:Value),r1.oneCell'=true/\ed=.returned (.tuple #[zI r,r1])/\xI (i64.wrap (x+1)) w3/\m (i64.wrap (x+1)) w3<m x w2))) (cj rI [zP (some (zA w 0))] w2 R λr2 w4=>zR R (zS r2) w4)):aq KR #[zL l lL lC] w R:=
 aP [(58,[(8,(.leaf (.int .i64)))])] [] Tryz.func87 rfl aC
def XY(s:zO)(sL sC:Nat)(v:zT)(aC:aHE 0 w λxI m x w1=>an (decide (x<(sL:Int))) (zD x sL (aB s (λa=>bK w1 (a.add (Int.toNat x*1)) λv1=>an (decide (v=v1)) (zR R (zI x) w1) (xI (i64.wrap (x+1)) w1/\m (i64.wrap (x+1)) w1<m x w1)))) (zR R (zI (-1)) w1)):aq J4 #[zL s sL sC,zS v] w R:=
 aP [(26,[(8,(.leaf (.int .i64)))])] [] Tryz.func91 rfl aC
def ajA(s:zO)(sL sC:Nat)(f:Value)(aC:aG_ FQ [zL s sL sC,f] w R λr w1=>zR R (zB (decide (0<=r))) w1):aq aKu #[zL s sL sC,f] w R:=
 aP [] [] Tryz.func92 rfl aC
def ami(s:zT)(aC:an (! (decide (s=[45,114]))) (zR R (zB (! (decide (s=[45,117])))) w) (zR R (zB false) w)):aq Rf #[zS s] w R:=
 aP [] [] Tryz.func93 rfl aC
def XV(s:zO)(sL sC:Nat)(v:zT)(aC:aG_ J4 [zL s sL sC,zS v] w R λr w1=>zR R (zB (decide (0<=r))) w1):aq aJX #[zL s sL sC,zS v] w R:=
 aP [] [] Tryz.func95 rfl aC
def ajD(s:zO)(sL sC:Nat)(del:Value)(aC:aG_ FQ [zL s sL sC,del] w R λr w1=>an (decide (r=(-1:Int))) (zR R (zL s sL sC) w1) (C5 r (i64.wrap (r+1)) w1 λxI m i j w2=>an (decide (j<(sL:Int))) (zD j sL (aB s (λa=>bK w2 (a.add (Int.toNat j*1)) λv=>gu del (λg first cap=>an (dD aM g) (aq g ⟨first++([zS v]++cap)⟩ w2 (λdm w3=>(∃r1:Bool,dm=.returned (zB r1)/\an (! r1) (zD i sL (aB s (λa1=>zC (a1.add (Int.toNat i*1)) w3 [zS v] λw4=>xI (i64.wrap (i+1)) (i64.wrap (j+1)) w4/\m (i64.wrap (i+1)) (i64.wrap (j+1)) w4<m i j w2))) (xI i (i64.wrap (j+1)) w3/\m i (i64.wrap (j+1)) w3<m i j w2))\/(∃gH,dm=.panicked gH/\R (.panicked gH) w3))) False)))) (0<=i/\i<=(sL:Nat)/\Mv aM 25 (zL (if sC=Int.toNat i then s else Option.map (·.add (Int.toNat i*1)) s) (sL-Int.toNat i) (sC-Int.toNat i)) w2 (λw5=>0<=i/\i<=(sC:Nat)/\zR R (zL s (Int.toNat i) sC) w5)))):aq Pv #[zL s sL sC,del] w R:=
 aP [(122,[(5,(.leaf (.int .i64))),(6,(.leaf (.int .i64)))])] [] Tryz.func102 rfl aC
def ajR(b:zO)(aC:aB b (λa=>cv w a λv=>an v.isNone (aB b (λa1=>afE w a1/\TJ aM Yj/\afF aM 86 w a1/\aB b (λa2=>zC a2 w [zP (some a1)] λw1=>zR R (.tuple #[]) w1))) (aB b (λa3=>cv w a3 λv1=>Ns aM 86 .neq v1 b (λpb=>an pb (False) (zR R (.tuple #[]) w)))))):aq J7 #[zP b] w R:=
 aP [] [] Tryz.func108 rfl aC
def alK(s old new:zT)(n:Int)(aC:an (decide (old=new)) (zR R (zS s) w) (an (decide (n=0)) (zR R (zS s) w) (Bl (λxJ=>aG_ am7 [zS s,zS old] w R λr w1=>an (decide (r=0)) (zR R (zS s) w1) (gN (λaY=>an (decide (n<0)) (aY true w1) (aY (decide (r<n)) w1)) λx w2=>an x (xJ r w2) (xJ n w2))) λn1 w3=>zM w3 [zP none,zN] 86 λw4=>bD ak2 [zP (some (zA w3 0)),zI (i64.wrap ((s.length:Int)+(i64.wrap (n1*(i64.wrap ((new.length:Int)-(old.length:Int)))))))] w4 R λw5=>an (decide (0<(old.length:Int))) (C5 0 0 w5 λxI m start x1 w6=>an (decide (x1<n1)) (0<=start/\start<=s.length/\aG_ am8 [zS (s.drop (Int.toNat start)),zS old] w6 R λr1 w7=>0<=start/\start<=(i64.wrap (start+r1))/\(i64.wrap (start+r1))<=s.length/\zK iT [zP (some (zA w3 0)),zS ((s.drop (Int.toNat start)).take (Int.toNat (i64.wrap (start+r1))-Int.toNat start))] w7 R λql w8=>∃(r2:Int)(r3:Value),r3.oneCell'=true/\ql=.returned (.tuple #[zI r2,r3])/\zK iT [zP (some (zA w3 0)),zS new] w8 R λjx w9=>∃(r4:Int)(r5:Value),r5.oneCell'=true/\jx=.returned (.tuple #[zI r4,r5])/\xI (i64.wrap ((i64.wrap (start+r1))+(old.length:Int))) (i64.wrap (x1+1)) w9/\m (i64.wrap ((i64.wrap (start+r1))+(old.length:Int))) (i64.wrap (x1+1)) w9<m start x1 w6) (0<=start/\start<=s.length/\zK iT [zP (some (zA w3 0)),zS (s.drop (Int.toNat start))] w6 R λmg aO=>∃(r6:Int)(r7:Value),r7.oneCell'=true/\mg=.returned (.tuple #[zI r6,r7])/\cj rI [zP (some (zA w3 0))] aO R λr8 bh=>zR R (zS r8) bh)) (zK iT [zP (some (zA w3 0)),zS new] w5 R λvH bE=>∃(r9:Int)(eB:Value),eB.oneCell'=true/\vH=.returned (.tuple #[zI r9,eB])/\C5 0 0 bE λoR m1 pe x2 bw=>an (decide (x2<(i64.wrap (n1-1)))) (0<=pe/\pe<=s.length/\zK ajJ [zS (s.drop (Int.toNat pe))] bw R λBn bO=>∃(aHz:Int)(gP:Int),Bn=.returned (.tuple #[.int .i32 aHz,zI gP])/\0<=pe/\pe<=(i64.wrap (pe+gP))/\(i64.wrap (pe+gP))<=s.length/\zK iT [zP (some (zA w3 0)),zS ((s.drop (Int.toNat pe)).take (Int.toNat (i64.wrap (pe+gP))-Int.toNat pe))] bO R λBo b8=>∃(ld:Int)(sJ:Value),sJ.oneCell'=true/\Bo=.returned (.tuple #[zI ld,sJ])/\zK iT [zP (some (zA w3 0)),zS new] b8 R λA8 aHe=>∃(ri:Int)(r16:Value),r16.oneCell'=true/\A8=.returned (.tuple #[zI ri,r16])/\oR (i64.wrap (pe+gP)) (i64.wrap (x2+1)) aHe/\m1 (i64.wrap (pe+gP)) (i64.wrap (x2+1)) aHe<m1 pe x2 bw) (0<=pe/\pe<=s.length/\zK iT [zP (some (zA w3 0)),zS (s.drop (Int.toNat pe))] bw R λA9 cF=>∃(aIe:Int)(xF:Value),xF.oneCell'=true/\A9=.returned (.tuple #[zI aIe,xF])/\cj rI [zP (some (zA w3 0))] cF R λtL cL=>zR R (zS tL) cL))))):aq QW #[zS s,zS old,zS new,zI n] w R:=
 aP [(7,[(3,(.leaf (.int .i64)))]),(119,[(36,(.leaf .bool))]),(4074,[(11,(.leaf (.int .i64))),(53,(.leaf (.int .i64)))]),(8158,[(11,(.leaf (.int .i64))),(78,(.leaf (.int .i64)))])] [] Tryz.func109 rfl aC
def als(t:Option Nat)(Ib:zT)(fnames:Bool)(aC:zM w [zS Ib,zB fnames] 95 λw1=>hO w1 (zA w 1) λv=>an v (bK w1 (zA w 0) λv1=>fR amc [.map t,zS v1] w1 R λr rL rC w2=>cj B3 [zL r rL rC] w2 R λr1 w3=>zR R (zS r1) w3) (bK w1 (zA w 0) λv2=>aJd Ge [.map t,zS v2] w1 R λdh aHB aHC w4=>cj K6 [.agg #[zI dh,zI aHB,zS aHC]] w4 R λr2 w5=>zR R (zS r2) w5)):aq QI #[.map t,.agg #[zS Ib,zB fnames]] w R:=
 aP [] [] Tryz.func110 rfl aC
def akg(seq:Value)(aC:fR Ka [seq] w R λr rL rC w1=>bD PD [zL r rL rC] w1 R λw2=>zR R (zL r rL rC) w2):aq P0 #[seq] w R:=
 aP [] [] Tryz.func111 rfl aC
def ak_(h:zO)(lZ:Int)(aHK:Bool)(l5:zT)(lT:zO)(lP lQ:Nat)(lJ:zO)(lH lI:Nat)(lR:zO)(lK lM:Nat)(me:zO)(l6 l7:Nat)(l8:zO)(lU lV:Nat)(aC:zM w [zI lZ,zB aHK,zS l5,zL lT lP lQ,zL lJ lH lI,zL lR lK lM,zL me l6 l7,zL l8 lU lV] 66 λw1=>kD (λxJ=>aHd w1 (zA w 7) λv vL vC=>an (decide ((vL:Int)=0)) (aB h (λa=>zC ((a.add 3).add 2) w1 [zI 0] λw2=>xJ w2)) (xJ w1)) λw3=>aHd w3 (zA w 7) λv1 cW ec=>aHE 0 w3 λxI m x w4=>an (decide (x<(cW:Int))) (zD x cW (aB v1 (λa1=>aKf w4 (a1.add (Int.toNat x*8)) λcH fK cC aHx fA fB aHv aHt aHu aHw fu fy aHy fG fH fI fE fF=>zX w4 [zI 0,zB false,zS [],zN,zN,zN,zN,zN] 66 [zI cH,zB fK,zS cC,zL aHx fA fB,zL aHv aHt aHu,zL aHw fu fy,zL aHy fG fH,zL fI fE fF] λw6=>iC w6 w4.heap.size λeY kA eA j9 j6 j7 j0 jY jZ j8 aHF j4 kB kj ko kr j_ ke=>bD DI [zP h,.agg #[zI eY,zB kA,zS eA,zL j9 j6 j7,zL j0 jY jZ,zL j8 aHF j4,zL kB kj ko,zL kr j_ ke]] w6 R λw7=>xI (i64.wrap (x+1)) w7/\m (i64.wrap (x+1)) w7<m x w4))) (zR R (.tuple #[]) w4)):aq F3 #[zP h,.agg #[zI lZ,zB aHK,zS l5,zL lT lP lQ,zL lJ lH lI,zL lR lK lM,zL me l6 l7,zL l8 lU lV]] w R:=
 aP [(3,[]),(30,[(17,(.leaf (.int .i64)))])] [] Tryz.func113 rfl aC
def ala(h:zO)(lZ:Int)(aHK:Bool)(l5:zT)(lT:zO)(lP lQ:Nat)(lJ:zO)(lH lI:Nat)(lR:zO)(lK lM:Nat)(me:zO)(l6 l7:Nat)(l8:zO)(lU lV:Nat)(aC:zM w [zI lZ,zB aHK,zS l5,zL lT lP lQ,zL lJ lH lI,zL lR lK lM,zL me l6 l7,zL l8 lU lV] 66 λw1=>aHd w1 (zA w 7) λv vL vC=>an (decide ((vL:Int)=1)) (aHd w1 (zA w 7) λv1 cW ec=>zD 0 cW (aB v1 (λa=>aKf w1 (a.add (Int.toNat 0*8)) λcH fK cC aHx fA fB aHv aHt aHu aHw fu fy aHy fG fH fI fE fF=>bD DI [zP h,.agg #[zI cH,zB fK,zS cC,zL aHx fA fB,zL aHv aHt aHu,zL aHw fu fy,zL aHy fG fH,zL fI fE fF]] w1 R λw2=>hO w2 (zA w 1) λv2=>an (! v2) (zR R (.tuple #[]) w2) (aB h (λa1=>bZ w2 (a1.add 9) λv3=>an (! decide (v3=0)) (zR R (.tuple #[]) w2) (aB h (λa2=>bZ w2 ((a2.add 3).add 2) λv4=>an (decide (v4=0)) (aB h (λa3=>zC ((a3.add 3).add 2) w2 [zI 1] λw3=>zR R (.tuple #[]) w3)) (aB h (λa4=>zC ((a4.add 3).add 2) w2 [zI 0] λw4=>zR R (.tuple #[]) w4))))))))) (aHd w1 (zA w 7) λv5 gO kE=>bD P9 [zP h,zL v5 gO kE] w1 R λw5=>hO w5 (zA w 1) λv6=>an (! v6) (zR R (.tuple #[]) w5) (aB h (λa5=>bZ w5 (a5.add 9) λv7=>an (! decide (v7=0)) (zR R (.tuple #[]) w5) (aB h (λa6=>bZ w5 ((a6.add 3).add 2) λv8=>an (decide (v8=0)) (aB h (λa7=>zC ((a7.add 3).add 2) w5 [zI 1] λw6=>zR R (.tuple #[]) w6)) (aB h (λa8=>zC ((a8.add 3).add 2) w5 [zI 0] λw7=>zR R (.tuple #[]) w7)))))))):aq F4 #[zP h,.agg #[zI lZ,zB aHK,zS l5,zL lT lP lQ,zL lJ lH lI,zL lR lK lM,zL me l6 l7,zL l8 lU lV]] w R:=
 aP [] [] Tryz.func115 rfl aC
def Yc(h:zO)(lZ:Int)(aHK:Bool)(l5:zT)(lT:zO)(lP lQ:Nat)(lJ:zO)(lH lI:Nat)(lR:zO)(lK lM:Nat)(me:zO)(l6 l7:Nat)(l8:zO)(lU lV:Nat)(aC:zM w [zP h] 101 λw1=>zM w1 [zI lZ,zB aHK,zS l5,zL lT lP lQ,zL lJ lH lI,zL lR lK lM,zL me l6 l7,zL l8 lU lV] 66 λw2=>cv w2 (zA w 0) λv=>aB v (λa=>zC (a.add 13) w2 [zI (-1)] λw3=>cv w3 (zA w 0) λv1=>aHd w3 (zA w1 3) λv2 vL vC=>EL P_ [zP v1,zL v2 vL vC] w3 R λr rL rC r1 w4=>zX w4 [zN] 25 [zL r rL rC] λw6=>an r1 (cv w6 (zA w 0) λv3=>aHd w6 (zA w1 5) λv4 cW ec=>bD Km [zP v3,zL v4 cW ec,.func (.func PU) #[] #[zP (some (zA w 0)),zP (some (zA w1 0)),zP (some (zA w4 0))]] w6 R λw7=>zR R (.tuple #[]) w7) (zR R (.tuple #[]) w6))):aq BP #[zP h,.agg #[zI lZ,zB aHK,zS l5,zL lT lP lQ,zL lJ lH lI,zL lR lK lM,zL me l6 l7,zL l8 lU lV]] w R:=
 aP [] [] Tryz.func116 rfl aC
def akp(h l:zO)(lL lC:Nat)(Bv:Value)(aC:zM w [zP h] 101 λw1=>cv w1 (zA w 0) λv=>aKt Qw [zP v,zL l lL lC] w1 R λrin rto axZ ris r w2=>zX w2 [zS [],zS [],zB false,zB false] 244 [zS rin,zS rto,zB axZ,zB ris] λw4=>an (! r) (zR R (.tuple #[]) w4) (cv w4 (zA w 0) λv1=>aB v1 (λa=>bK w4 (a.add 7) λv2=>cv w4 (zA w 0) λv3=>aB v3 (λa1=>bK w4 (a1.add 8) λv4=>cv w4.drew (zA w 0) λv5=>bK w4.drew (zA w2 0) λv6=>aB v5 (λa2=>zC (a2.add 7) w4.drew [zS v6] λw5=>kD (λxJ=>hO w5 (zA w2 3) λv7=>an v7 (cv w5 (zA w 0) λv8=>aB v8 (λa3=>zC (a3.add 8) w5 [zS []] λw6=>xJ w6)) (xJ w5)) λw7=>gu Bv (λg first cap=>an (dD aM g) (aq g ⟨first++([]++cap)⟩ w7 (λdm w8=>(dm=.returned (.tuple #[])/\kD (λaY=>hO w8 (zA w2 2) λv9=>an v9 (cv w8 (zA w 0) λv10=>aB v10 (λa4=>zC (a4.add 7) w8 [zS v2] λw9=>aY w9)) (aY w8)) λaO=>hO aO (zA w2 3) λv11=>an (! v11) (zR R (.tuple #[]) aO) (cv aO (zA w 0) λv12=>aB v12 (λa5=>bK aO (a5.add 8) λk9=>zX aO [zS []] 9 [zS k9] λbE=>cv bE (zA w 0) λmW=>aB mW (λa6=>zC (a6.add 8) bE [zS v4] λbw=>cv bw (zA w 0) λoQ=>aG_ DM [zP oQ,.func (.func Kb) #[] #[zP (some (zA w 0)),zP (some (zA w2 0)),zP (some (zA aO 0))]] bw R λr1 bO=>an (! decide (r1=0)) (cv bO (zA w 0) λpK=>bK bO (zA w2 1) λod=>([115,104,58,32]:zT).length+od.length<=9223372036854775807/\bD DJ [zP pK,zS (([115,104,58,32]:zT)++od),zI r1] bO R λb8=>zR R (.tuple #[]) b8) (zR R (.tuple #[]) bO)))))\/(∃gH,dm=.panicked gH/\R (.panicked gH) w8))) False)))))):aq Km #[zP h,zL l lL lC,Bv] w R:=
 aP [(63,[]),(255,[])] [(3,.still)] Tryz.func117 rfl aC
def amE(d:zO)(aC:zM w [zP d,zN,zI 0] 253 λw1=>tJ w1 λxI m w2=>A7 P3 [zP (some (zA w 0))] w2 R λr r1 w3=>an (! r1) (zR R (zP (some (zA w 0))) w3) (bD aln [zP (some (zA w 0)),zS r] w3 R λw4=>xI w4/\m w4<m w2)):aq Rq #[zP d] w R:=
 aP [(14,[])] [] Tryz.func120 rfl aC
def ajV(j:zO)(aC:aB j (λa=>aHd w (a.add 1) λv vL vC=>fR aKV [zL v vL vC] w R λr rL rC w1=>zR R (zL r rL rC) w1)):aq PK #[zP j] w R:=
 aP [] [] Tryz.func121 rfl aC
def akO(x:zO)(n:Int)(aC:aB x (λa=>bK w a λv=>bD ym [zB (decide (n<=(v.length:Int)))] w R λw1=>aB x (λa1=>bK w1 a1 λv1=>0<=n/\n<=v1.length/\aB x (λa2=>zC a2 w1 [zS (v1.drop (Int.toNat n))] λw2=>zR R (.tuple #[]) w2)))):aq oA #[zP x,zI n] w R:=
 aP [] [] Tryz.func124 rfl aC
def aj5(x:zO)(aC:aB x (λa=>bK w a λv=>aG_ ya [zS v,.int .u8 10] w R λr w1=>an (decide (0<=r)) (bD oA [zP x,zI r] w1 R λw2=>zR R (.tuple #[]) w2) (aB x (λa1=>zC a1 w1 [zS []] λw3=>zR R (.tuple #[]) w3)))):aq PT #[zP x] w R:=
 aP [] [] Tryz.func125 rfl aC
def akP(x:zO)(aC:aB x (λa=>bK w a λv=>an (decide (v=[])) (zR R (zB true) w) (aB x (λa1=>bK w a1 λv1=>0<=(0:Int)/\∃b:UInt8,v1[Int.toNat 0]?=some b/\aG_ ya [zS [32,9,10,59,124,38,40,41,60,62],.int .u8 (b.toNat:Int)] w R λr w1=>zR R (zB (decide (0<=r))) w1)))):aq Kt #[zP x] w R:=
 aP [] [] Tryz.func126 rfl aC
def aj1(x:zO)(aC:Bl (λxJ=>gN (λaY=>zH w.drew λSw=>aB x (λa=>dR Sw a λv=>an (decide (1<(v.length:Int))) (aB x (λa1=>dR Sw a1 λv1=>0<=(0:Int)/\∃b:UInt8,v1[Int.toNat 0]?=some b/\aB x (λa2=>dR Sw a2 λv2=>0<=(1:Int)/\∃b1:UInt8,v2[Int.toNat 1]?=some b1/\an (decide ((b.toNat:Int)=(b1.toNat:Int))) (aB x (λa3=>dR Sw a3 λv3=>0<=(0:Int)/\∃b2:UInt8,v3[Int.toNat 0]?=some b2/\aG_ ya [zS [38,124,59,62],.int .u8 (b2.toNat:Int)] w.drew R λr w1=>aY (decide (0<=r)) w1)) (aY false w.drew)))) (aY false w.drew))) λx1 w2=>an x1 (xJ 2 w2) (xJ 1 w2)) λn w3=>aB x (λa4=>bK w3 a4 λv4=>0<=n/\n<=v4.length/\bD oA [zP x,zI n] w3 R λw4=>zR R (zS (v4.take (Int.toNat n))) w4)):aq PO #[zP x] w R:=
 aP [(7,[(3,(.leaf (.int .i64)))]),(14,[(32,(.leaf .bool))])] [(2,.held)] Tryz.func127 rfl aC
def akQ(x:zO)(aC:aB x (λa=>bK w a λv=>tJ w λxI m w1=>aHn Kt [zP x] w1 R λr w2=>an (! r) (bD aJ1 [zP x,zI 1] w2 R λw3=>xI w3/\m w3<m w1) (aB x (λa1=>bK w2 a1 λv1=>0<=(i64.wrap ((v.length:Int)-(v1.length:Int)))/\(i64.wrap ((v.length:Int)-(v1.length:Int)))<=v.length/\zR R (zS (v.take (Int.toNat (i64.wrap ((v.length:Int)-(v1.length:Int)))))) w2)))):aq Qn #[zP x] w R:=
 aP [(28,[])] [] Tryz.func128 rfl aC
def akq(p:zO)(aC:tJ w λxI m w1=>aHn DF [zP p,zI 2,zS [10]] w1 R λr w2=>an r (xI w2/\m w2<m w1) (zR R (.tuple #[]) w2)):aq BQ #[zP p] w R:=
 aP [(2,[])] [] Tryz.func129 rfl aC
def akR(p:zO)(aC:aB p (λa=>aHd w a λv vL vC=>an (decide ((vL:Int)=0)) (zR R (zB true) w) (zM w [zS [41],zS [59,59]] 9 λw1=>aHn wC [zP p,zI 1,zL (some (zA w 0)) 2 2] w1 R λr w2=>an r (zR R (zB true) w2) (fR KJ [] w2 R λr1 rL rC w3=>aHn wC [zP p,zI 0,zL r1 rL rC] w3 R λr2 w4=>zR R (zB r2) w4)))):aq Qo #[zP p] w R:=
 aP [] [] Tryz.func130 rfl aC
def akr(p:zO)(depth:Int)(aC:zM w [zI 0,zB false,zS [],zN,zN,zN,zN,zN] 66 λw1=>CS Ku [zP p,zI depth] w1 R λdh nY rName nJ nE aHT nB nv aHQ nG aHS nD nZ nO nP nQ nK nL w2=>zM w2 [zI dh,zB nY,zS rName,zL nJ nE aHT,zL nB nv aHQ,zL nG aHS nD,zL nZ nO nP,zL nQ nK nL] 66 λw3=>zX w3 [zI 0,zB false,zS [],zN,zN,zN,zN,zN] 66 [zI 2,zB false,zS [],zN,zN,zN,zN,zL (some (zA w2 0)) 1 1] λw5=>tJ w5 λxI m w6=>zM w6 [zS [38,38],zS [124,124]] 9 λw7=>aHn wC [zP p,zI 1,zL (some (zA w6 0)) 2 2] w7 R λr w8=>an r (zH w8.drew λSw=>gd Sw (zA w3 6) λv vL vC=>aIl BV [zP p] w8.drew R λrV oH w9=>Sw w9/\zM w9 [zS oH] 9 λaO=>Sw aO/\dL aO 9 1 16 v vL vC (some (zA w9 0)) 1 (λp1 cp bh=>zC (zA w3 6) bh [zL p1 (vL+1) cp] λbE=>bD BQ [zP p] bE R λbw=>zH bw.drew λbX=>gd bX (zA w3 7) λv1 cW ec=>CS Ku [zP p,zI depth] bw.drew R λHO Ic HP Hu G2 G3 GN GD GF G4 GO GP Ie HQ HR HS Hv Hw bO=>bX bO/\zM bO [zI HO,zB Ic,zS HP,zL Hu G2 G3,zL GN GD GF,zL G4 GO GP,zL Ie HQ HR,zL HS Hv Hw] 66 λb8=>bX b8/\dL b8 66 8 152 v1 cW ec (some (zA bO 0)) 1 (λp2 m_ aHe=>zC (zA w3 7) aHe [zL p2 (cW+1) m_] λcF=>xI cF/\m cF<m w6))) (aHd w8 (zA w3 6) λv2 gO kE=>an (decide ((gO:Int)=0)) (aHd w8 (zA w3 7) λv3 jk qm=>zD 0 jk (aB v3 (λa2=>aKf w8 (a2.add (Int.toNat 0*8)) λcH fK cC aHx fA fB aHv aHt aHu aHw fu fy aHy fG fH fI fE fF=>zC (zA w 0) w8 [zI cH,zB fK,zS cC,zL aHx fA fB,zL aHv aHt aHu,zL aHw fu fy,zL aHy fG fH,zL fI fE fF] λcL=>iC cL w.heap.size λeY kA eA j9 j6 j7 j0 jY jZ j8 aHF j4 kB kj ko kr j_ ke=>zR R (.agg #[zI eY,zB kA,zS eA,zL j9 j6 j7,zL j0 jY jZ,zL j8 aHF j4,zL kB kj ko,zL kr j_ ke]) cL))) (iC w8 w3.heap.size λmO vh kN uJ uB uC uu aI1 aI2 uD uv aI5 vi uX uY uZ uK uL=>zC (zA w 0) w8 [zI mO,zB vh,zS kN,zL uJ uB uC,zL uu aI1 aI2,zL uD uv aI5,zL vi uX uY,zL uZ uK uL] λdV=>iC dV w.heap.size λrU vj aH9 uM uE uF aI6 aI3 uq uG uy uz aI_ aI7 u5 u6 uN uO=>zR R (.agg #[zI rU,zB vj,zS aH9,zL uM uE uF,zL aI6 aI3 uq,zL uG uy uz,zL aI_ aI7 u5,zL u6 uN uO]) dV))):aq P8 #[zP p,zI depth] w R:=
 aP [(28,[])] [(3,.held),(5,.held)] Tryz.func131 rfl aC
def akS(p:zO)(kind:Int)(text:zT)(aC:zM w [zS text] 9 λw1=>aHn wC [zP p,zI kind,zL (some (zA w 0)) 1 1] w1 R λr w2=>an r (aIl BV [zP p] w2 R λdh oH w3=>zR R (zB r) w3) (zR R (zB r) w2)):aq DF #[zP p,zI kind,zS text] w R:=
 aP [] [] Tryz.func132 rfl aC
def alu(p:zO)(kind:Int)(texts:zO)(aeU aeV:Nat)(aC:aIl uc [zP p,zI 0] w R λdh oH w1=>zX w1 [zI 0,zS []] 203 [zI dh,zS oH] λw3=>bZ w3 (zA w1 0) λv=>an (decide (v=kind)) (bK w3 (zA w1 1) λv1=>aHn aJX [zL texts aeU aeV,zS v1] w3 R λr w4=>zR R (zB r) w4) (zR R (zB false) w3)):aq wC #[zP p,zI kind,zL texts aeU aeV] w R:=
 aP [] [] Tryz.func133 rfl aC
def ajW(l:zO)(lL lC:Nat)(f:Value)(aC:0<=(lL:Int)/\(lL:Int)<=(lL:Int)/\16*(lL:Int)<=281474976710656/\(lL:Int)<=9223372036854775807/\c7 (w.alloc (.cells (madeCells #[zS []] (Int.toNat (lL:Int)*1)) 9)) (λw1=>aHE 0 w1 λxI m x w2=>an (decide (x<(lL:Int))) (zD x lL (aB l (λa=>I6 w2 (a.add (Int.toNat x*2)) λcC iW Cn Co=>zX w2 [zS [],zN] 208 [zS cC,zL iW Cn Co] λw4=>xq w4 w2.heap.size λeA mL G5 G6=>gu f (λg first cap=>an (dD aM g) (aq g ⟨first++([.agg #[zS eA,zL mL G5 G6]]++cap)⟩ w4 (λed w5=>(∃r:zT,ed=.returned (zS r)/\zD x (Int.toNat (lL:Int)) (zC ((zA w 0).add (Int.toNat x*1)) w5 [zS r] λw6=>xI (i64.wrap (x+1)) w6/\m (i64.wrap (x+1)) w6<m x w2))\/(∃ch,ed=.panicked ch/\R (.panicked ch) w5))) False)))) (zR R (zL (some (zA w 0)) (Int.toNat (lL:Int)) (Int.toNat (lL:Int))) w2))):aq PL #[zL l lL lC,f] w R:=
 aP [(58,[(13,(.leaf (.int .i64)))])] [] Tryz.func134 rfl aC
def aj6(l:zO)(lL lC:Nat)(f:Value)(aC:0<=(lL:Int)/\(lL:Int)<=(lL:Int)/\16*(lL:Int)<=281474976710656/\(lL:Int)<=9223372036854775807/\c7 (w.alloc (.cells (madeCells #[zS []] (Int.toNat (lL:Int)*1)) 9)) (λw1=>aHE 0 w1 λxI m x w2=>an (decide (x<(lL:Int))) (zD x lL (aB l (λa=>aHd w2 (a.add (Int.toNat x*1)) λv vL vC=>gu f (λg first cap=>an (dD aM g) (aq g ⟨first++([zL v vL vC]++cap)⟩ w2 (λed w3=>(∃r:zT,ed=.returned (zS r)/\zD x (Int.toNat (lL:Int)) (zC ((zA w 0).add (Int.toNat x*1)) w3 [zS r] λw4=>xI (i64.wrap (x+1)) w4/\m (i64.wrap (x+1)) w4<m x w2))\/(∃ch,ed=.panicked ch/\R (.panicked ch) w3))) False)))) (zR R (zL (some (zA w 0)) (Int.toNat (lL:Int)) (Int.toNat (lL:Int))) w2))):aq Yh #[zL l lL lC,f] w R:=
 aP [(58,[(13,(.leaf (.int .i64)))])] [] Tryz.func136 rfl aC
def aj7(l:zO)(lL lC:Nat)(f:Value)(aC:0<=(lL:Int)/\(lL:Int)<=(lL:Int)/\16*(lL:Int)<=281474976710656/\(lL:Int)<=9223372036854775807/\c7 (w.alloc (.cells (madeCells #[zS []] (Int.toNat (lL:Int)*1)) 9)) (λw1=>aHE 0 w1 λxI m x w2=>an (decide (x<(lL:Int))) (zD x lL (aB l (λa=>aKf w2 (a.add (Int.toNat x*8)) λcH fK cC aHx fA fB aHv aHt aHu aHw fu fy aHy fG fH fI fE fF=>zX w2 [zI 0,zB false,zS [],zN,zN,zN,zN,zN] 66 [zI cH,zB fK,zS cC,zL aHx fA fB,zL aHv aHt aHu,zL aHw fu fy,zL aHy fG fH,zL fI fE fF] λw4=>iC w4 w2.heap.size λeY kA eA j9 j6 j7 j0 jY jZ j8 aHF j4 kB kj ko kr j_ ke=>gu f (λg first cap=>an (dD aM g) (aq g ⟨first++([.agg #[zI eY,zB kA,zS eA,zL j9 j6 j7,zL j0 jY jZ,zL j8 aHF j4,zL kB kj ko,zL kr j_ ke]]++cap)⟩ w4 (λed w5=>(∃r:zT,ed=.returned (zS r)/\zD x (Int.toNat (lL:Int)) (zC ((zA w 0).add (Int.toNat x*1)) w5 [zS r] λw6=>xI (i64.wrap (x+1)) w6/\m (i64.wrap (x+1)) w6<m x w2))\/(∃ch,ed=.panicked ch/\R (.panicked ch) w5))) False)))) (zR R (zL (some (zA w 0)) (Int.toNat (lL:Int)) (Int.toNat (lL:Int))) w2))):aq Yi #[zL l lL lC,f] w R:=
 aP [(58,[(13,(.leaf (.int .i64)))])] [] Tryz.func137 rfl aC
def Zr(s:zT)(aC:c7 (w.alloc (.stringIter (S s) 0)) (λw1=>tJ w1 λxI m w2=>(zA w 0).off=0/\∃(b:zT)(pos:Nat),w2.heap[(zA w 0).block]?=some (.stringIter ⟨⟨b⟩⟩ pos)/\an (decide (pos<b.length)) (c7 (w2.iterAt (zA w 0).block ⟨⟨b⟩⟩ (pos+(Utf8.decode ⟨⟨b⟩⟩ pos).2)) (λw3=>aHn K7 [.int .i32 ((Utf8.decode ⟨⟨b⟩⟩ pos).1:Int)] w3 R λr w4=>an (! r) (an (decide ((pos:Int)=0)) (0<=(pos:Int)/\(pos:Int)<=s.length/\zR R (zS (s.take (Int.toNat (pos:Int)))) w4) (aHn Ld [.int .i32 ((Utf8.decode ⟨⟨b⟩⟩ pos).1:Int)] w4 R λr1 w5=>an (! r1) (0<=(pos:Int)/\(pos:Int)<=s.length/\zR R (zS (s.take (Int.toNat (pos:Int)))) w5) (xI w5/\m w5<m w2))) (xI w4/\m w4<m w2))) (zR R (zS s) w2))):aq B9 #[zS s] w R:=
 aP [(26,[])] [] Tryz.func144 rfl aC
def alb(p ops:zO)(opsL agE:Nat)(aC:cj DO [zP p] w R λr w1=>an (decide (r=[])) (zR R (zS []) w1) (aHn aJX [zL ops opsL agE,zS r] w1 R λr1 w2=>an (! r1) (zR R (zS []) w2) (aB p (λa=>bK w2 a λv=>0<=(r.length:Int)/\(r.length:Int)<=v.length/\aB p (λa1=>zC a1 w2 [zS (v.drop (Int.toNat (r.length:Int)))] λw3=>zR R (zS r) w3))))):aq wz #[zP p,zL ops opsL agE] w R:=
 aP [] [] Tryz.func145 rfl aC
def akT(p:zO)(l depth:Int)(aC:fR KX [] w R λr rL rC w1=>an (decide (l=(rL:Int))) (g_ Kn [zP p,zI depth] w1 R λr1 w2=>zR R (zP r1) w2) (g_ F0 [zP p,zI (i64.wrap (l+1)),zI depth] w1 R λr2 w3=>∃(xI:zO->zW->Prop)(m:zO->zW->Nat),(xI r2 w3)/\∀(a:zO)(zu:zU)(w4:zW),(xI a w4)->fR KX [] w4 R λr3 jy mj w5=>zD l jy (aB r3 (λa1=>aHd w5 (a1.add (Int.toNat l*1)) λv vL vC=>cj wz [zP p,zL v vL vC] w5 R λr4 w6=>an (decide (r4=[])) (zR R (zP a) w6) (g_ F0 [zP p,zI (i64.wrap (l+1)),zI depth] w6 R λr5 w7=>zM w7 [zP a,zP r5] 74 λw8=>zM w8 [zI 3,zI 0,zS r4,zS [],zL (some (zA w7 0)) 2 2] 147 λw9=>an (decide (r4=[124,124])) (zC (zA w8 0) w9 [zI 5] λaO=>xI (some (zA w8 0)) aO/\m (some (zA w8 0)) aO<m a w4) (an (decide (r4=[38,38])) (zC (zA w8 0) w9 [zI 4] λbh=>xI (some (zA w8 0)) bh/\m (some (zA w8 0)) bh<m a w4) (xI (some (zA w8 0)) w9/\m (some (zA w8 0)) w9<m a w4))))))):aq F0 #[zP p,zI l,zI depth] w R:=
 aP [(30,[(7,(.leaf .ptr))])] [] Tryz.func147 rfl aC
def aaf(l:zO)(lL lC:Nat)(name:zT)(w:zW)(R:zE):Prop:=xp Ll [zL l lL lC,zS name] (w.alloc (.cells #[zS [],zS [],zB false,zB false] 32)) R λr r1 w1=>kD (λxJ=>an r1 (zD r lL (aB l (λa=>NC w1 (a.add (Int.toNat r*4)) λcC iW qI aIt=>Wr w1 (zA w 0)/\Wr (w1.setCell (zA w 0) (zS cC)) (zA w 1)/\Wr ((w1.setCell (zA w 0) (zS cC)).setCell (zA w 1) (zS iW)) (zA w 2)/\Wr (((w1.setCell (zA w 0) (zS cC)).setCell (zA w 1) (zS iW)).setCell (zA w 2) (zB qI)) (zA w 3)/\xJ ((((w1.setCell (zA w 0) (zS cC)).setCell (zA w 1) (zS iW)).setCell (zA w 2) (zB qI)).setCell (zA w 3) (zB aIt))))) (xJ w1)) λw2=>CT w2 w.heap.size λeA mL Ae B_=>Wr w2 (zA w 0)/\Wr (w2.setCell (zA w 0) (zS eA)) (zA w 1)/\Wr ((w2.setCell (zA w 0) (zS eA)).setCell (zA w 1) (zS mL)) (zA w 2)/\Wr (((w2.setCell (zA w 0) (zS eA)).setCell (zA w 1) (zS mL)).setCell (zA w 2) (zB Ae)) (zA w 3)/\∃(kN:zT)(Eh:zT)(aaP:Bool)(aaQ:Bool),((((w2.setCell (zA w 0) (zS eA)).setCell (zA w 1) (zS mL)).setCell (zA w 2) (zB Ae)).setCell (zA w 3) (zB B_)).cell? (zA w 0)=some (zS kN)/\((((w2.setCell (zA w 0) (zS eA)).setCell (zA w 1) (zS mL)).setCell (zA w 2) (zB Ae)).setCell (zA w 3) (zB B_)).cell? (zA w 1)=some (zS Eh)/\((((w2.setCell (zA w 0) (zS eA)).setCell (zA w 1) (zS mL)).setCell (zA w 2) (zB Ae)).setCell (zA w 3) (zB B_)).cell? (zA w 2)=some (zB aaP)/\((((w2.setCell (zA w 0) (zS eA)).setCell (zA w 1) (zS mL)).setCell (zA w 2) (zB Ae)).setCell (zA w 3) (zB B_)).cell? (zA w 3)=some (zB aaQ)/\zR R (.tuple #[.agg #[zS kN,zS Eh,zB aaP,zB aaQ],zB r1]) ((((w2.setCell (zA w 0) (zS eA)).setCell (zA w 1) (zS mL)).setCell (zA w 2) (zB Ae)).setCell (zA w 3) (zB B_))
def an8(l:zO)(lL lC:Nat)(name:zT)(aC:aaf l lL lC name w R):aq Gx #[zL l lL lC,zS name] w R:=
 aP [(7,[])] [] Tryz.func148 rfl aC
def amV(s:zT)(aC:an (decide (s=[])) (zR R (.tuple #[zI 0,zB true]) w) (A7 DL [zS s,zS [45]] w R λr r1 w1=>xp K8 [zS r] w1 R λr2 r3 w2=>an r1 (zR R (.tuple #[zI (i64.wrap (0-r2)),zB r3]) w2) (zR R (.tuple #[zI r2,zB r3]) w2))):aq RD #[zS s] w R:=
 aP [] [] Tryz.func149 rfl aC
end Go.Proofs.YtihaaoehhgmphaaGreatDoor
