/- Texts of one proof, one behind the other. Conditions: as each theorem names them. -/
import Derived.Test.YtihaaoehhgmphaaGreatDoorQ1
import Derived.RangeFuncRecord
import Derived.OrdersIn
import Derived.Test.YtihaaoehhgmphaaGreatDoorProg
set_option linter.all false
namespace Go.Proofs
noncomputable abbrev aL:=Tryz.prog
abbrev an:=Calls Tryz.prog
end Go.Proofs
namespace Go.Proofs.YtihaaoehhgmphaaGreatDoor.Vc
open IntKind Go.RowKit
abbrev aH1(ro:Option Nat):Fence:={Fence.wide with round:=ro}
def aar{ro:Option Nat}{n:Nat}{P:Program}{f:FuncId}{args:Array Value}{w:World}{R:Ending->World->Prop}(h:Calls P f args w R):CallsIn (aH1 ro) n P f args w R:=(callsIn_wide (n:=n)).2 h
def asn{ro:Option Nat}{n:Nat}{P:Program}{row:String}{args:Array Value}{w:World}{R:Value->World->Prop}(h:Rows P row args w R):RowsIn (aH1 ro) n P row args w R:=λc cs _=>
 let⟨v,w',r,s⟩:=h c cs
 ⟨v,w',r,stepsIn_wide.2 s⟩
def vT:Op->Bool
 |.defer _=>false
 |_=>true
def KO{op:Op}(h:vT op=true):∀c,op≠.defer c:=by intro c e;rw[e]at h;cases h
def RV{ro:Option Nat}{n:Nat}{P:Program}{o:Oper}{a:Act}{w:World}{next:Act->World->Prop}{Q:Exit->Act->World->Prop}(hd:vT o.op=true)(h:o.wp P a w next Q):o.wpIn (aH1 ro) n P a w next Q:=by
 refine⟨λ_ _=>trivial,?_⟩;rw[Oper.semAt_eq _ _ _ (KO hd)];unfold Oper.wp at h;generalize(execOp a.eval o).run P w=r at h;cases r with
 |ok x w'=>
  cases x<;>simp only[Oper.upon,Oper.uponIn]at h⊢<;>first|exact h|exact h.elim|skip
  .exact⟨λe=>(by cases e),aar h⟩
  .exact⟨λe=>(by cases e),asn h⟩
 |halt x w'=>cases x<;>simp only[Oper.upon,Oper.uponIn]at h⊢<;>first|exact h|exact h.elim
def aIl(P:Program)(k:Nat)(args:List Value)(w:World)(R:Ending->World->Prop):Prop:=
 ∃fn tmps assign body,(Instr.yield k ⟨args⟩).run P w=.ok (.round k fn tmps assign body) w/\RoundIn Fence.wide 0 P k fn tmps assign body w R
def aIl.mono{P:Program}{k:Nat}{args:List Value}{w:World}{R R':Ending->World->Prop}(h:aIl P k args w R)(hr:∀e w',R e w'->R' e w'):aIl P k args w R':=by obtain⟨fn,tmps,a,b,h1,h2⟩:=h;exact⟨fn,tmps,a,b,h1,h2.mono hr⟩
def aqu{ro:Option Nat}{n l:Nat}{P:Program}{f:FuncId}{tmps:Array Value}{assign body:Code}{w:World}{R:Ending->World->Prop}(h:RoundIn Fence.wide 0 P l f tmps assign body w R):RoundIn (aH1 ro) n P l f tmps assign body w R:=
 ⟨h.1,λc cs _=>h.2 c cs (room_wide _)⟩
abbrev aIC(k:Nat):Value:=.func (.yield k) #[] #[]
def aKI(f:Value)(Y:Nat->Prop):Prop:=match f with
 |.func (.yield k) ⟨[]⟩ ⟨[]⟩=>Y k
 |_=>False
def Td(P:Program)(t:TypeId)(x lo hi mx:Value)(K:Value->Prop):Prop:=match x,lo,hi,mx with
 |.slice p _ c,.int _ i,.int _ j,.int _ m=>match P.underlying t with
  |some (.slice e)=>aq (je P e) (0<=i/\i<=j/\j<=m/\m<=c/\K (.slice (if m.toNat=i.toNat then p else p.map (·.add (i.toNat*eG P e))) (j.toNat-i.toNat) (m.toNat-i.toNat))) False
  |_=>False
 |_,_,_,_=>False
def apj{P:Program}{t:TypeId}{x lo hi mx:Value}{K:Value->Prop}(h:Td P t x lo hi mx K):∃v,K v/\∀w,(Instr.sliceAt t x (some lo) (some hi) (some mx)).run P w=.ok v w:=by
 unfold Td at h;split at h
 .rename_i p n c k i k' j k2 m
  split at h
  .rename_i e ht
   obtain⟨hi',h0,h1,h2,h3,hk⟩:=ec h;refine⟨_,hk,λw=>?_⟩;have b:∀w,(Instr.sliceBounds true n c (some (.int k i)) (some (.int k' j)) (some (.int k2 m))).run P w=.ok (i.toNat,j.toNat,m.toNat) w:=λw=>by simp[Instr.sliceBounds,BA (show 0<=m by omega) h3,BA (show 0<=j by omega) (show j<=((m.toNat:Nat):Int) by omega),BA h0 (show i<=((j.toNat:Nat):Int) by omega)]
   simp only[Instr.sliceAt,Instr.slice,Sem.run_bind,run_underlying ht,Result.andThen_ok,b,p_ hi',Sem.run_pure]
  .exact h.elim
 .exact h.elim
def MQ(P:Program)(r:List Oper)(l:Fr)(o:Oper)(w:World)(K:KW):Prop:=match o.op with
 |.call ⟨.value (.func _),_,_⟩=>aIP P l o w K λ_ _=>False
 |.call ⟨.value f0,⟨xs⟩,_⟩=>cS l f0 λf=>aKI f λk=>wg l xs λvs=>aIl P k vs w λe w'=>∃b,e=.returned (.bool b)/\K (.bool b) w'
 |.slice t x (some lo) (some hi) (some mx)=>cS l x λx=>cS l lo λlo=>cS l hi λhi=>cS l mx λmx=>Td P t x lo hi mx λv=>K v w
 |_=>ML P r l o w K λ_ _=>False
def aas{ro:Option Nat}{n:Nat}{P:Program}{r:List Oper}{l:Fr}{ds:List Deferred}{o:Oper}{w:World}{K:KW}{next:Act->World->Prop}{Q:Exit->Act->World->Prop}
  (hd:vT o.op=true)(h:MQ P r l o w K)(hK:∀v w',K v w'->next ((act l ds).put o.dst v) w'):o.wpIn (aH1 ro) n P (act l ds) w next Q:=by
 have plain:aIP P l o w K (λ_ _=>False)->o.wpIn (aH1 ro) n P (act l ds) w next Q:=λh=>RV hd (Lc h hK λ_ _ h=>h.elim);unfold MQ at h;split at h
 .exact plain h
 .rename_i f0 xs ts _ ho
  have h:=cO (ds:=ds) h;unfold aKI at h;split at h
  .rename_i k hf
   obtain⟨fn,tmps,as',body,hy,hr⟩:=aKg (ds:=ds) h;refine⟨λ_ _=>trivial,?_⟩;rw[Oper.semAt_eq _ _ _ (KO hd)];have e:({toList:=[]}:Array Value)++Array.map (act l ds).eval {toList:=xs}=⟨xs.map (act l ds).eval⟩:=by apply kM;simp
   have hrun:(execOp (act l ds).eval o).run P w=.ok (.round k fn tmps as' body) w:=by simp only[execOp,ho,resolve,hf,Deferred.ofValue,invoke,Sem.run_bind,Sem.run_pure,Result.andThen_ok];rw[e];exact hy
   rw[hrun,Oper.uponIn_round];refine⟨λe=>(by cases e),(aqu hr).mono ?_⟩;rintro _ w' ⟨b,rfl,hk⟩;exact hK _ _ hk
  .exact h.elim
 .rename_i t x lo hi mx ho
  obtain⟨v,hk,hr⟩:=apj (cO (ds:=ds) (cO (ds:=ds) (cO (ds:=ds) (cO (ds:=ds) h))));refine RV hd ?_;unfold Oper.wp;have:(execOp (act l ds).eval o).run P w=.ok (.value v) w:=by simp only[execOp,ho,FL];exact pF (hr w)
  rw[this];exact hK v w hk
 .exact RV hd (RU h hK λ_ _ h=>h.elim)
def G6(P:Program)(ops:List Oper)(K:Fr->World->Prop):List Oper->Fr->World->Prop
 |[],l,w=>K l w
 |o::r,l,w=>xR ops l o.guard (λl=>aq (vT o.op) (MQ P r l o w λv w'=>aIo l o.dst v λl'=>G6 P ops K r l' w') False) (λl=>aIo l o.dst undef λl'=>G6 P ops K r l' w)
def aoC{ro:Option Nat}{n:Nat}{P:Program}{ops:List Oper}{ds:List Deferred}{K:Fr->World->Prop}{Q:Exit->Act->World->Prop}:
  ∀{rest:List Oper} {l:Fr} {w:World},G6 P ops K rest l w->(∀l' w',aHe (aHB rest) l l'->K l' w'->Q .normal (act l' ds) w')->wpListIn (aH1 ro) n P ⟨ops⟩ Q rest (act l ds) w:=by
 intro rest
 induction rest with
 |nil=>intro l w h hK;exact hK l w (aHe.refl _ _) h
 |cons o r ih=>
  intro l w h hK;have next:∀v w',G6 P ops K r (put l o.dst v) w'->wpListIn (aH1 ro) n P ⟨ops⟩ Q r ((act l ds).put o.dst v) w':=by intro v w' h;rw[vS];exact ih h λl' w' ha hk=>hK l' w' (Se ha) hk
  unfold wpListIn;rcases xe (ds:=ds) h with⟨hw,h⟩|⟨hw,h⟩
  .rw[aN hw]
   obtain⟨hd,h⟩:=ec h;exact aas hd h λv w' hk=>next v w' (l_ hk)
  .rw[aH (by simp[hw])]
   exact⟨λ_ _=>trivial,next undef w (l_ h)⟩
section
variable{ro:Option Nat}{n:Nat}{P:Program}{ops:List Oper}{Q:Exit->Act->World->Prop}{S:World->Prop}
def ZR{i:Nat}{o:Oper}{v:Value}{a:Act}(hd:vT o.op=true)(hi:(Array.mk ops)[i]?=some o)(hy:YieldsIf P ⟨ops⟩ S o v a){K:Act->World->Prop}{w:World}(hS:S w)(h:K (a.put o.dst v) w):wpOpIn (aH1 ro) n P ⟨ops⟩ Q i K a w:=by
 unfold Go.wpOpIn;simp only[hi];rcases hy with⟨hw,hv⟩|⟨hw,rfl⟩
 .simp only[hw,pq,Oper.wpIn,Oper.semAt_eq _ _ _ (KO hd),hv w hS,Oper.uponIn]
  exact⟨λ_ _=>trivial,h⟩
 .simp only[hw,l9,jq]
  exact⟨λ_ _=>trivial,h⟩
def auh{j:Nat}{oi oj:Oper}{v:Value}(hj:(Array.mk ops)[j]?=some oj)(hd:vT oj.op=true)(hap:oi.apart ⟨ops⟩ oj=true)(hsi:∀cs b,oi.op≠.select cs b)(hsj:∀cs b,oj.op≠.select cs b)
  (hQ:∀c a w,Q (.panic c) (a.put oi.dst v) w->Q (.panic c) a w){K:Act->World->Prop}{a:Act}{w:World}(hy:YieldsIf P ⟨ops⟩ S oi v a)(h:wpOpIn (aH1 ro) n P ⟨ops⟩ Q j K (a.put oi.dst v) w):
  wpOpIn (aH1 ro) n P ⟨ops⟩ Q j (λa' w'=>YieldsIf P ⟨ops⟩ S oi v a'/\K (a'.put oi.dst v) w') a w:=by
 obtain⟨h1,h2,h3⟩:=Oper.apart_spec hap;have keep:∀u,YieldsIf P ⟨ops⟩ S oi v (a.put oj.dst u):=λu=>hy.of_same (execOp_put oi hsi a oj.dst u h3) (wanted_put oi a oj.dst u h3);unfold wpOpIn at*;simp only[hj]at*;rw[wanted_put oj a oi.dst v h1]at h;split
 .rename_i hw
  simp only[hw,pq,Oper.wpIn,Oper.semAt_eq _ _ _ (KO hd)]at h⊢;refine⟨λ_ _=>trivial,?_⟩;have h:=h.2;rw[execOp_put oj hsj a oi.dst v h1]at h;generalize(execOp a.eval oj).run P w=r at*;cases r with
  |ok x w'=>
   cases x<;>simp only[Oper.uponIn]at h⊢
   case value u=>exact⟨keep u,by rw[<-Act.put_comm a v u h2];exact h⟩
   case skip=>exact⟨keep _,by rw[<-Act.put_comm a v undef h2];exact h⟩
   case defer d=>refine⟨(show YieldsIf P ⟨ops⟩ S oi v {a with defers:=d::a.defers}from hy.of_same rfl rfl).of_same (execOp_put oi hsi _ oj.dst undef h3) (wanted_put oi _ oj.dst undef h3),?_⟩;rw[<-Act.put_comm _ v undef h2,<-Act.put_defers];exact h
   case enter f args=>
    refine⟨h.1,CallsIn.mono h.2 λe w'' he=>?_⟩;cases e with
    |returned u=>exact⟨keep u,by rw[<-Act.put_comm a v u h2];exact he⟩
    |panicked c=>exact hQ _ _ _ he
    |outgrown=>exact he
   case row row args=>exact⟨h.1,RowsIn.mono h.2 λu w'' he=>⟨keep u,by rw[<-Act.put_comm a v u h2];exact he⟩⟩
   case round l f tmps assign body=>
    refine⟨h.1,RoundIn.mono h.2 λe w'' he=>?_⟩;cases e with
    |returned u=>exact⟨keep u,by rw[<-Act.put_comm a v u h2];exact he⟩
    |panicked c=>exact hQ _ _ _ he
    |outgrown=>exact he
  |halt x w'=>
   cases x<;>simp only[Oper.uponIn]at h⊢
   case panic u=>exact hQ _ _ _ h
 .rename_i hw
  simp only[hw]at h;exact⟨λ_ _=>trivial,keep _,by rw[<-Act.put_comm a v undef h2];exact h.2⟩
def BU(ro:Option Nat)(n:Nat)(P:Program)(ops:List Oper)(Q:Exit->Act->World->Prop)(S:World->Prop):Nat->Array Bool->Act->World->Prop
 |0,listed,a,w=>Region.ready .any ⟨ops⟩ listed=[]/\Q .normal a w
 |fuel+1,listed,a,w=>
  (Region.ready .any ⟨ops⟩ listed=[]->Q .normal a w)/\
  ∀i∈Region.ready .any ⟨ops⟩ listed,wpOpIn (aH1 ro) n P ⟨ops⟩ Q i (λa' w'=>Ml ops S i w w'/\BU ro n P ops Q S fuel (listed.setIfInBounds i true) a' w') a w
def aat:∀(fuel:Nat) (listed:Array Bool) (a:Act) (w:World),BU ro n P ops Q S fuel listed a w->wpAnyIn (aH1 ro) n P .any ⟨ops⟩ Q fuel listed a w
 |0,_,_,_,h=>h
 |fuel+1,_,_,_,h=>⟨h.1,λi hi=>Go.wpOpIn_mono (λa' w' h'=>aat fuel _ a' w' h'.2) (h.2 i hi)⟩
def aoD{i:Nat}{oi:Oper}{v:Value}(hq:qY ops i=true)(hi:(Array.mk ops)[i]?=some oi)(hsel:∀(j:Nat) (o:Oper) cs b,(Array.mk ops)[j]?=some o->o.op≠.select cs b)(MR:∀o∈ops,vT o.op=true)
  (hQ:∀c a w,Q (.panic c) (a.put oi.dst v) w->Q (.panic c) a w):
  ∀(fuel:Nat) (listed:Array Bool) (a:Act) (w:World),Ae ops listed->
   (∀j oj,(Array.mk ops)[j]?=some oj->j≠i->listed.getD j true=false->(∀e∈oj.after,Region.binds .any e=true->e.on≠i)->oi.apart ⟨ops⟩ oj=true)->
   i∈Region.ready .any ⟨ops⟩ listed->YieldsIf P ⟨ops⟩ (λw=>oD ops i=true->S w) oi v a->(oD ops i=true->S w)->
   BU ro n P ops Q S fuel (listed.setIfInBounds i true) (a.put oi.dst v) w->BU ro n P ops Q S (fuel+1) listed a w:=by
 have hmem:∀{j:Nat} {o:Oper},(Array.mk ops)[j]?=some o->vT o.op=true:=λh=>MR _ (uf (by simpa using h));intro fuel
 induction fuel with
 |zero=>
  intro listed a w hcl _ hr hy hS H;refine⟨λh=>(by rw[h]at hr;cases hr),λj hj=>?_⟩
  by_cases hji:j=i
  .subst hji;exact ZR (hmem hi) hi hy hS ⟨⟨λ_=>rfl,λh=>by rw[hq]at h;cases h⟩,H⟩
  .have:=ready_mono hj hji
   rw[H.1]at this;cases this
 |succ fuel ih=>
  intro listed a w hcl hfree hr hy hS H;refine⟨λh=>(by rw[h]at hr;cases hr),λj hj=>?_⟩
  by_cases hji:j=i
  .subst hji;exact ZR (hmem hi) hi hy hS ⟨⟨λ_=>rfl,λh=>by rw[hq]at h;cases h⟩,H⟩
  .have h1:=H.2 j (ready_mono hj hji)
   obtain⟨HK,oj,AN,hall⟩:=mem_ready.1 hj;have hnot:∀e∈oj.after,Region.binds .any e=true->e.on≠i:=λe he hb heq=>by
    have h1:=hall e he hb;have h0:=(mem_ready.1 hr).1;rw[heq]at h1;rcases w_ i listed.size with h'|h'
    .simp[h']at h0 h1;rw[h0]at h1;cases h1
    .simp[Pb h']at h1
   have h2:=auh AN (hmem AN) (hfree j oj AN hji HK hnot) (λcs b=>hsel i oi cs b hi) (λcs b=>hsel j oj cs b AN) hQ hy h1;have TQ:∀k ok,(Array.mk ops)[k]?=some ok->k≠i->(listed.setIfInBounds j true).getD k true=false->
     (∀e∈ok.after,Region.binds .any e=true->e.on≠i)->oi.apart ⟨ops⟩ ok=true:=λk ok hk hki hun hno=>by
    refine hfree k ok hk hki ?_ hno
    by_cases hjk:j=k
    .subst hjk;exact HK
    .rw[getD_set_ne true hjk]at hun;exact hun
   refine Go.wpOpIn_mono (λa' w' h3=>⟨h3.2.1,ih (listed.setIfInBounds j true) a' w' (DE hcl hj) TQ (ready_mono hr (Gp hji)) h3.1 (λhl=>?_) ?_⟩) h2
   .cases Ig:qY ops j with
    |true=>rw[h3.2.1.1 Ig];exact hS hl
    |false=>exact h3.2.1.2 Ig (LA hcl (mem_ready.1 hr).1 hji hl hj)
   .rw[XC _ _ hji]
    exact h3.2.2
end
def aIK(P:Program)(ops:List Oper)(S:World->Prop)(K:Fr->World->Prop):Nat->Array Bool->Fr->World->Prop
 |0,listed,l,w=>aq (Region.ready .any ⟨ops⟩ listed).isEmpty (K l w) False
 |n+1,listed,l,w=>match Region.ready .any ⟨ops⟩ listed with
  |[]=>K l w
  |i::rs=>match(i::rs).find? (qY ops)with
   |some i=>match ops[i]? with
    |some o=>aq (Region.free .any ⟨ops⟩ listed i) (xR ops l o.guard
      (λl=>u7 P l o (λa v=>∀w1,S w1->w1.cell? a=some v) λv=>aIo l o.dst v λl'=>aIK P ops S K n (listed.setIfInBounds i true) l' w)
      (λl=>aIo l o.dst undef λl'=>aIK P ops S K n (listed.setIfInBounds i true) l' w)) False
    |none=>False
   |none=>qi.Mm (λi=>match ops[i]? with
    |some o=>xR ops l o.guard
      (λl=>MQ P [] l o w λv w'=>aIo l o.dst v λl'=>aq (aIJ ops i) (S w'/\aIK P ops S K n (listed.setIfInBounds i true) l' w') (aIK P ops S K n (listed.setIfInBounds i true) l' w'))
      (λl=>aIo l o.dst undef λl'=>aq (aIJ ops i) (S w/\aIK P ops S K n (listed.setIfInBounds i true) l' w) (aIK P ops S K n (listed.setIfInBounds i true) l' w))
    |none=>False) (i::rs)
def apk{ro:Option Nat}{m:Nat}{P:Program}{ops:List Oper}{ds:List Deferred}{S:World->Prop}{K:Fr->World->Prop}{Q:Exit->Act->World->Prop}{l0:Fr}
  (hsel:Region.noSelect ⟨ops⟩=true)(MR:∀o∈ops,vT o.op=true)(hQ:∀c a w,¬Q (.panic c) a w)(hK:∀l' w',aHe (aHB ops) l0 l'->K l' w'->Q .normal (act l' ds) w'):
  ∀(n:Nat) (listed:Array Bool) (l:Fr) (w:World),aIK P ops S K n listed l w->Ae ops listed->aHe (aHB ops) l0 l->((∃i,listed.getD i true=false/\oD ops i=true)->S w)->
   BU ro m P ops Q S n listed (act l ds) w:=by
 intro n
 induction n with
 |zero=>intro listed l w h hc ha hS;obtain⟨hr,h⟩:=ec h;exact⟨Qq.1 hr,hK l w ha h⟩
 |succ n ih=>
  intro listed l w h hc ha hS;unfold aIK at h;split at h
  .rename_i hr
   exact⟨λ_=>hK l w ha h,by rw[hr];simp⟩
  .rename_i i0 rs hr
   split at h
   .rename_i i hf
    have hq:qY ops i=true:=QE hf;have hmem:i∈Region.ready .any ⟨ops⟩ listed:=by rw[hr];exact O1 hf
    split at h
    .rename_i o ho
     obtain⟨hfree,h⟩:=ec h;have yQ:(Array.mk ops)[i]?=some o:=by simpa using ho
     have hun:=(mem_ready.1 hmem).1;have step:∀v,YieldsIf P ⟨ops⟩ (λw=>oD ops i=true->S w) o v (act l ds)->aIK P ops S K n (listed.setIfInBounds i true) (put l o.dst v) w->BU ro m P ops Q S (n+1) listed (act l ds) w:=by
      intro v hy hn;refine aoD hq yQ (Region.noSelect_spec hsel) MR (λc a w h=>(hQ c _ w h).elim) n listed _ w hc (Region.free_spec yQ hfree) hmem hy (λhl=>hS ⟨i,hun,hl⟩) ?_;rw[vS];refine ih _ _ w hn (DE hc hmem) (Ld ho ha) ?_;rintro⟨k,hk,hl⟩;refine hS ⟨k,?_,hl⟩
      by_cases hki:i=k
      .subst hki
       exact hun
      .rwa[getD_set_ne true hki]at hk
     rcases xe (ds:=ds) h with⟨hw,h⟩|⟨hw,h⟩
     .cases hl:Ad o.op with
      |false=>obtain⟨v,hk,hrun⟩:=DR (ds:=ds) (aao (VI:=λ_ _=>False) hl h);exact step v (.inl ⟨hw,λw _=>hrun w (λ_ _ h=>h.elim)⟩) (l_ hk)
      |true=>
       obtain⟨v,hk,hrun⟩:=DR (ds:=ds) h;have hlb:oD ops i=true:=by unfold oD;rw[ho];exact hl
       exact step v (.inl ⟨hw,λw hs=>hrun w (λa u h=>h w (hs hlb))⟩) (l_ hk)
     .exact step undef (.inr ⟨hw,rfl⟩) (l_ h)
    .exact h.elim
   .rename_i hnone
    have h:=abm h;refine⟨λh0=>(by rw[hr]at h0;cases h0),λi hi=>?_⟩;have hi':i∈i0::rs:=by rw[<-hr];exact hi
    have h:=h i hi';have hq:qY ops i=false:=by have:=X_.1 hnone i hi';simpa using this
    split at h
    .rename_i o ho
     have yQ:(Array.mk ops)[i]?=some o:=by simpa using ho
     have next:∀v w',aq (aIJ ops i) (S w'/\aIK P ops S K n (listed.setIfInBounds i true) (put l o.dst v) w') (aIK P ops S K n (listed.setIfInBounds i true) (put l o.dst v) w')->
       Ml ops S i w w'/\BU ro m P ops Q S n (listed.setIfInBounds i true) ((act l ds).put o.dst v) w':=by
      intro v w' h;rw[vS];have rest:aIK P ops S K n (listed.setIfInBounds i true) (put l o.dst v) w':=by
       rw[aHL]at h;cases hb:aIJ ops i with
       |true=>exact(h.1 hb).2
       |false=>exact h.2 hb
      have need:aIJ ops i=true->S w':=λhb=>by rw[aHL]at h;exact(h.1 hb).1
      refine⟨⟨λIh=>(by rw[hq]at Ih;cases Ih),λ_=>need⟩,ih _ _ w' rest (DE hc hi) (Ld ho ha) ?_⟩;rintro⟨k,hk,hl⟩
      by_cases hki:i=k
      .subst hki
       unfold oD at hl;unfold qY at hq;rw[ho]at hl hq;have h1:Ad o.op=true:=hl;have h2:Lz o.op=false:=hq;rw[aap h1]at h2;cases h2
      .rw[getD_set_ne true hki]at hk
       exact need (LA hc hk hki hl hi)
     unfold wpOpIn;simp only[yQ];rcases xe (ds:=ds) h with⟨hw,h⟩|⟨hw,h⟩
     .rw[aN hw]
      exact aas (MR _ (uf ho)) h λv w' hk=>next v w' (l_ hk)
     .rw[aH (by simp[hw])]
      exact⟨λ_ _=>trivial,next undef w (l_ h)⟩
    .exact h.elim
def aek(P:Program)(ops:List Oper)(K:Fr->World->Prop)(l:Fr)(w:World):Prop:=
 aq (P.follows .mixedOrders&&Region.noSelect ⟨ops⟩&&ops.all λo=>vT o.op) (∃S:World->Prop,S w.drew/\aIK P ops S K ops.length (Array.replicate ops.length false) l w.drew) False
def aoE{ro:Option Nat}{n:Nat}{P:Program}{id:Nat}{ops:List Oper}{ds:List Deferred}{K:Fr->World->Prop}{Q:Exit->Act->World->Prop}{l:Fr}{w:World}
  (h:aek P ops K l w)(hK:∀l' w',aHe (aHB ops) l l'->K l' w'->Q .normal (act l' ds) w'):(Code.region id ⟨ops⟩ true).wpIn (aH1 ro) n P Q (act l ds) w:=by
 obtain⟨hb,S,hs,h⟩:=ec h;rw[e_,e_,nO]at hb
 let Q':Exit->Act->World->Prop:=λe a w=>match e with
  |.normal=>Q .normal a w
  |_=>False
 have h1:(Code.region id ⟨ops⟩ true).wpIn (aH1 ro) n P Q' (act l ds) w:=by refine wpIn_region_any hb.1.1 (aat (S:=S) _ _ _ _ ?_);refine apk (Q:=Q') (l0:=l) hb.1.2 hb.2 (λc a w h=>h) (λl' w' ha hk=>hK l' w' ha hk) _ _ _ _ h ?_ (aHe.refl _ _) (λ_=>hs);intro j o _ hl;exfalso;simp only[Jp,XD]at hl;split at hl<;>cases hl
 refine Go.wpIn_mono h1 λe a w' hq=>?_;cases e<;>simp only[Q']at hq<;>first|exact hq|exact hq.elim
structure G7 where
 normal:List Nat->Fr->World->Prop
 exit:Nat->List Nat->Fr->World->Prop
 ret:List Nat->Fr->World->Prop
def marks(ms:List Nat):List Deferred:=ms.map λr=>{target:=.collected r,args:=#[]}
def nQ:Code->List Nat
 |.region _ ⟨ops⟩ _=>aHB ops
 |.seq a b=>nQ a++nQ b
 |.cond _ a b=>nQ a++nQ b
 |.block _ c=>nQ c
 |.loop c=>nQ c
 |_=>[]
def mL(r:Loop):Obj:=.loop {r with state:=.busy}
def ya(r:Loop)(j:Code):Obj:=.loop {r with state:=.done,pending:=some j}
def KX(k:Nat)(rec:Loop)(R:Ending->World->Prop):G7 where
 normal:=λ_ _ w=>w.heap[k]?=some (mL rec)/\R (.returned (.bool true)) (w.putObj k (.loop rec))
 exit:=λi _ _ w=>w.heap[k]?=some (mL rec)/\R (.returned (.bool false)) (w.putObj k (ya rec (.exit i)))
 ret:=λ_ _ w=>w.heap[k]?=some (mL rec)/\R (.returned (.bool false)) (w.putObj k (ya rec .ret))
def ayz(k:Nat)(rec:Loop)(C:G7)(ms:List Nat)(l:Fr)(w:World):Prop:=
 (w.heap[k]?=some (.loop rec)/\C.normal ms l (w.putObj k (.loop {rec with state:=.exhausted})))\/
 (w.heap[k]?=some (ya rec .ret)/\C.ret ms l (w.putObj k (.loop {rec with state:=.exhausted,pending:=some .ret})))\/
 (∃i,w.heap[k]?=some (ya rec (.exit i))/\C.exit i ms l (w.putObj k (.loop {rec with state:=.exhausted,pending:=some (.exit i)})))
def oR(P:Program)(pl:n_)(out:Bool):Code->Nat->G7->List Nat->Fr->World->Prop
 |.skip,_,C,ms,l,w=>C.normal ms l w
 |.region _ ⟨ops⟩ false,_,C,ms,l,w=>G6 P ops (C.normal ms) ops l w
 |.region _ ⟨ops⟩ true,_,C,ms,l,w=>aek P ops (C.normal ms) l w
 |.seq a b,p,C,ms,l,w=>match lookup pl.live p with
  |none=>oR P pl out a (2*p) {C with normal:=λms' l' w'=>oR P pl out b (2*p+1) C ms' l' w'} ms l w
  |some sp=>∃J:dW (fZ sp) (World->Prop),
    oR P pl out a (2*p) {C with normal:=λms' l' w'=>ms'=ms/\Ak l' sp λvs=>dW.app (fZ sp) J vs λq=>q w'} ms l w/\
    Ac (fZ sp) λvs=>∀(us:Nat->Value) (w':World),(dW.app (fZ sp) J vs λq=>q w')->Af us (nQ a) l λl1=>Al sp vs l1 λl2=>oR P pl out b (2*p+1) C ms l2 w'
 |.cond c a b,p,C,ms,l,w=>cS l c λv=>match v with
  |.bool t=>aq t (oR P pl out a (2*p) C ms l w) (oR P pl out b (2*p+1) C ms l w)
  |_=>False
 |.block id c,p,C,ms,l,w=>oR P pl out c (2*p) {C with exit:=λi ms' l' w'=>aq (Nat.beq i id) (C.normal ms' l' w') (C.exit i ms' l' w')} ms l w
 |.loop c,p,C,ms,l,w=>match lookup pl.live p with
  |none=>False
  |some sp=>∃(I:dW (fZ sp) (List Nat->World->Prop)) (m:dW (fZ sp) (World->Nat)),
    (Ak l sp λvs=>dW.app (fZ sp) I vs λq=>q ms w)/\
    Ac (fZ sp) λvs=>∀(us:Nat->Value) (ms':List Nat) (w':World),(dW.app (fZ sp) I vs λq=>q ms' w')->Af us (nQ c) l λl1=>Al sp vs l1 λl2=>
     oR P pl out c (2*p) {C with normal:=λms3 l3 w3=>Ak l3 sp λvs'=>(dW.app (fZ sp) I vs' λq=>q ms3 w3)/\dW.app (fZ sp) m vs' λm1=>dW.app (fZ sp) m vs λm0=>m1 w3<m0 w'} ms' l2 w'
 |.rangeFunc g ⟨ps⟩ as' body,p,C,ms,l,w=>cS l g λgv=>gj gv λf first cap=>match lookup pl.live p with
  |none=>False
  |some sp=>aq (out&&decide (sp.map (·.1)=ps)&&cY P f)
   (∀rec:Loop,rec.state=.ready->rec.pending=none->
    (Ac (fZ sp) λvs=>∀(w1:World) (R:Ending->World->Prop),w1.heap[w.heap.size+1]?=some (.loop rec)->
     (Al sp vs l λl1=>oR P pl false as' (2*p) {normal:=λm2 l2 w2=>m2=[]/\w2.heap[w.heap.size+1]?=some (.loop rec)/\cP (w2.putObj (w.heap.size+1) (mL rec)) λw3=>oR P pl false body (2*p+1) (KX (w.heap.size+1) rec R) [] l2 w3,exit:=λ_ _ _ _=>False,ret:=λ_ _ _=>False} [] l1 w1)->
     aIl P (w.heap.size+1) vs w1 R)->
    Calls P f ⟨first++(aIC (w.heap.size+1)::cap)⟩ ((w.alloc (.deferred (some []))).alloc (.loop rec)) λe w3=>(∃v,e=.returned v)/\ayz (w.heap.size+1) rec C (w.heap.size::ms) l w3) False
 |.exit i,_,C,ms,l,w=>C.exit i ms l w
 |.ret,_,C,ms,l,w=>C.ret ms l w
 |_,_,_,_,_,_=>False
def Zf{x:js}{K:Value->Prop}(h:∀v,K v):GI x K:=by cases x<;>simp only[GI]<;>intros<;>exact h _
def ans{l:List js}:∀{K:List Value->Prop},(∀vs:List Value,vs.length=l.length->K vs)->La l K:=by
 induction l with
 |nil=>intro K h;exact h [] rfl
 |cons x r ih=>intro K h;exact Zf λv=>ih λvs hl=>h (v::vs) (by simp[hl])
def apl{x:Ty}{K:Value->Prop}(h:∀v,K v):Ui x K:=by
 cases x with
 |leaf x=>exact Zf h
 |agg l=>exact ans λvs _=>h _
 |fe n=>exact λcs _=>h _
def aoF{l:List Ty}:∀{K:List Value->Prop},(∀vs:List Value,vs.length=l.length->K vs)->Ac l K:=by
 induction l with
 |nil=>intro K h;exact h [] rfl
 |cons x r ih=>intro K h;exact apl λv=>ih λvs hl=>h (v::vs) (by simp[hl])
def Zq:∀sp:List (Nat×Ty),(fZ sp).length=sp.length
 |[]=>rfl
 |_::r=>by simp[fZ,Zq r]
def abt:∀{sp:List (Nat×Ty)} {vs:List Value} {l:Fr},vs.length=sp.length->sets sp vs l=((sp.map (·.1)).zip vs).foldl (λl x=>l.set x.1 x.2) l
 |[],[],_,_=>rfl
 |[],_::_,_,h=>by simp at h
 |_::_,[],_,h=>by simp at h
 |x::r,v::vs,l,h=>by simp only[sets,gi,List.zip_cons_cons,aJ4];exact abt (by simpa using h)
def aui(zs:List (Nat×Value)):∀l:Fr,zs.foldl (λ(tmps:Array Value) (x:Nat×Value)=>tmps.setIfInBounds x.1 x.2) ⟨l⟩=⟨zs.foldl (λl x=>l.set x.1 x.2) l⟩:=by
 induction zs with
 |nil=>intro l;rfl
 |cons x r ih=>intro l;simp only[aJ4,OV,ih]
def aoc{P:Program}{a:Act}{w:World}{g:Operand}{k:Nat}{f:FuncId}{first cap:List Value}(hg:a.eval g=.func (.func f) ⟨first⟩ ⟨cap⟩):
  (resolve a.eval (rangeCall g k) 0).run P w=.ok {target:=.fn (.func f) ⟨cap⟩,args:=⟨first++[aIC k]⟩} w:=by
 simp only[resolve,rangeCall,hg,Deferred.ofValue,Sem.run_pure];congr 2;apply kM;simp[Act.eval]
def aso{P:Program}{k:Nat}{rec:Loop}{R:Ending->World->Prop}(hst:rec.state=.ready)(hp:rec.pending=none){c:Code}{l:Fr}{w:World}{n:Nat}
  (h:∀Q:Exit->Act->World->Prop,(∀ms' l' w',aHe (nQ c) l l'->(KX k rec R).normal ms' l' w'->Q .normal (act l' (marks ms')) w')->(∀i ms' l' w',aHe (nQ c) l l'->(KX k rec R).exit i ms' l' w'->Q (.exit i) (act l' (marks ms')) w')->
   (∀ms' l' w',(KX k rec R).ret ms' l' w'->Q .ret (act l' (marks ms')) w')->c.wpIn (aH1 (some k)) n P Q (act l []) w):c.wpIn (aH1 (some k)) n P (roundPost P k R) (act l []) w:=by
 refine h _ (λms' l' w' _ hk=>?_) (λi ms' l' w' _ hk=>?_) (λms' l' w' hk=>?_)
 .refine⟨_,_,run_endRound none hk.1,?_⟩
  have e:(Obj.loop {({rec with state:=.busy}:Loop)with state:=if(none:Option Code).isNone=true then .ready else .done,pending:=none})=.loop rec:=by cases rec;simp only at hst hp;subst hst hp;rfl
  have h2:=hk.2;rw[<-e]at h2;exact h2
 .exact⟨_,_,run_endRound (some (.exit i)) hk.1,hk.2⟩
 .exact⟨_,_,run_endRound (some .ret) hk.1,hk.2⟩
def uj{P:Program}{pl:n_}{n:Nat}:∀(c:Code) (out:Bool) (ro:Option Nat) (p:Nat) (C:G7) (ms:List Nat) (l:Fr) (w:World) (Q:Exit->Act->World->Prop),(out=true->ro=none)->oR P pl out c p C ms l w->
  (∀ms' l' w',aHe (nQ c) l l'->C.normal ms' l' w'->Q .normal (act l' (marks ms')) w')->(∀i ms' l' w',aHe (nQ c) l l'->C.exit i ms' l' w'->Q (.exit i) (act l' (marks ms')) w')->
  (∀ms' l' w',C.ret ms' l' w'->Q .ret (act l' (marks ms')) w')->c.wpIn (aH1 ro) n P Q (act l (marks ms)) w
 |.skip,out,ro,p,C,ms,l,w,Q,ho,h,hn,_,_=>wpIn_skip (hn ms l w (aHe.refl _ _) h)
 |.region id ⟨ops⟩ false,out,ro,p,C,ms,l,w,Q,ho,h,hn,_,_=>wpIn_region_list (aoC h λl' w' ha hk=>hn ms l' w' ha hk)
 |.region id ⟨ops⟩ true,out,ro,p,C,ms,l,w,Q,ho,h,hn,_,_=>aoE h λl' w' ha hk=>hn ms l' w' ha hk
 |.seq a b,out,ro,p,C,ms,l,w,Q,ho,h,hn,he,hr=>by
  simp only[oR]at h;have left:∀{l':Fr},aHe (nQ a) l l'->aHe (nQ (.seq a b)) l l':=λha=>ha.mono λt ht=>rO _ ht;have both:∀{l' l2:Fr},aHe (nQ a) l l'->aHe (nQ b) l' l2->aHe (nQ (.seq a b)) l l2:=λha hb=>ha.trans hb (λt ht=>rO _ ht) (λt ht=>ue _ ht);refine wpIn_seq ?_;split at h
  .refine uj a out ro (2*p) _ ms l w _ ho h (λms' l' w' ha hk=>?_) (λi ms' l' w' ha hk=>he i ms' l' w' (left ha) hk) (λms' l' w' hk=>hr ms' l' w' hk)
   exact uj b out ro (2*p+1) C ms' l' w' Q ho hk (λm2 l2 w2 hb hk=>hn m2 l2 w2 (both ha hb) hk) (λi m2 l2 w2 hb hk=>he i m2 l2 w2 (both ha hb) hk) hr
  .rename_i sp _
   obtain⟨J,h1,h2⟩:=h;refine uj a out ro (2*p) _ ms l w _ ho h1 (λms' l' w' ha hk=>?_) (λi ms' l' w' ha hk=>he i ms' l' w' (left ha) hk) (λms' l' w' hk=>hr ms' l' w' hk);obtain⟨rfl,hk⟩:=hk;obtain⟨vs,hrd,hj⟩:=DH hk;have h3:=dW.uq hj h2;have h4:=Gg ha hrd λus=>h3 us w' hj;exact uj b out ro (2*p+1) C ms' l' w' Q ho h4 (λm2 l2 w2 hb hk=>hn m2 l2 w2 (both ha hb) hk) (λi m2 l2 w2 hb hk=>he i m2 l2 w2 (both ha hb) hk) hr
 |.cond c a b,out,ro,p,C,ms,l,w,Q,ho,h,hn,he,hr=>by
  simp only[oR]at h;have h:=cO (ds:=marks ms) h;split at h
  .rename_i v t hv
   rw[aHL]at h;refine wpIn_cond_split hv (λht=>?_) (λhf=>?_)
   .exact uj a out ro (2*p) C ms l w Q ho (h.1 ht) (λms' l' w' ha hk=>hn ms' l' w' (ha.mono λt ht=>rO _ ht) hk) (λi ms' l' w' ha hk=>he i ms' l' w' (ha.mono λt ht=>rO _ ht) hk) hr
   .exact uj b out ro (2*p+1) C ms l w Q ho (h.2 hf) (λms' l' w' ha hk=>hn ms' l' w' (ha.mono λt ht=>ue _ ht) hk) (λi ms' l' w' ha hk=>he i ms' l' w' (ha.mono λt ht=>ue _ ht) hk) hr
  .exact h.elim
 |.block id c,out,ro,p,C,ms,l,w,Q,ho,h,hn,he,hr=>by
  simp only[oR]at h;refine wpIn_block (uj c out ro (2*p) _ ms l w _ ho h (λms' l' w' ha hk=>hn ms' l' w' ha hk) (λi ms' l' w' ha hk=>?_) (λms' l' w' hk=>hr ms' l' w' hk))
  replace hk:aq (Nat.beq i id) (C.normal ms' l' w') (C.exit i ms' l' w'):=hk
  rw[aHL]at hk;simp only[Exit.inBlock]
  by_cases hi:i=id
  .rw[aN hi]
   exact hn ms' l' w' ha (hk.1 (by rw[hi];exact Nat.beq_refl id))
  .rw[aH hi]
   refine he i ms' l' w' ha (hk.2 ?_);cases hb:Nat.beq i id with
   |false=>rfl
   |true=>exact(hi (oz hb)).elim
 |.loop c,out,ro,p,C,ms,l,w,Q,ho,h,hn,he,hr=>by
  simp only[oR]at h;split at h
  .exact h.elim
  .rename_i sp _
   obtain⟨I,m,h0,h1⟩:=h;refine wpIn_loop (λa w'=>∃ms' l' vs,a=act l' (marks ms')/\aHe (nQ c) l l'/\Reads l' sp vs/\dW.app (fZ sp) I vs λq=>q ms' w') (MO sp m) ?_ ?_
   .obtain⟨vs,hrd,hi⟩:=DH h0
    exact⟨ms,l,vs,rfl,aHe.refl _ _,hrd,hi⟩
   .rintro a w' ⟨ms',l',vs,rfl,ha,hrd,hi⟩
    have h3:=dW.uq hi h1;have h4:=Gg ha hrd λus=>h3 us ms' w' hi;refine uj c out ro (2*p) _ ms' l' w' _ ho h4 (λm2 l2 w2 hb hk=>?_) (λi m2 l2 w2 hb hk=>he i m2 l2 w2 (ha.trans hb (λ_ h=>h) (λ_ h=>h)) hk) (λm2 l2 w2 hk=>hr m2 l2 w2 hk);obtain⟨vs',HL,hi',hm⟩:=DH hk;refine⟨⟨m2,l2,vs',rfl,ha.trans hb (λ_ h=>h) (λ_ h=>h),HL,hi'⟩,?_⟩;obtain⟨m1,dX,e1⟩:=LB (a:=act l2 (marks m2)) (w:=w2) HL hm;obtain⟨m0,hm0,e0⟩:=LB (a:=act l' (marks ms')) (w:=w') hrd dX;rw[e1,e0];exact hm0
 |.rangeFunc g ⟨ps⟩ as' body,out,ro,p,C,ms,l,w,Q,ho,h,hn,he,hr=>by
  simp only[oR]at h;obtain⟨f,first,cap,hf,h⟩:=Ga (cO (ds:=marks ms) h);split at h
  .exact h.elim
  rename_i sp _;obtain⟨hb,h2⟩:=ec h;rw[e_,e_]at hb;obtain rfl:=ho hb.1.1;obtain rfl:=aQ hb.1.2;refine wpIn_rangeFunc λfn _=>?_;refine⟨w.heap.size+1,[{target:=.collected w.heap.size,args:=#[]}],_,{target:=.fn (.func f) ⟨cap⟩,args:=⟨first++[aIC (w.heap.size+1)]⟩},_,f,⟨first++(aIC (w.heap.size+1)::cap)⟩,(w.alloc (.deferred (some []))).alloc (.loop {state:=.ready,pending:=none,fn,tmps:=(act l (marks ms)).tmps,params:=⟨sp.map (·.1)⟩,assign:=as',body,defers:=w.heap.size}),run_enterLoop_outer fn (act l (marks ms)).tmps ⟨sp.map (·.1)⟩ as' body,aoc hf,λ_ _=>trivial,?_,λe=>(by cases e),?_⟩
  .simp only[invoke]
   rw[KK hb.2];congr 2;apply kM;simp
  .refine aar ((h2 {state:=.ready,pending:=none,fn,tmps:=(act l (marks ms)).tmps,params:=⟨sp.map (·.1)⟩,assign:=as',body,defers:=w.heap.size} rfl rfl ?_).mono ?_)
   .refine aoF λvs hlen w1 R h1 hv=>?_
    rw[Zq]at hlen;have hv:=abn hv;rw[abt hlen]at hv;refine⟨fn,_,as',body,run_yield h1 (by simp[hlen]),?_⟩;have e:((⟨sp.map (·.1)⟩:Array Nat).zip (⟨vs⟩:Array Value)).foldl (λ(tmps:Array Value) (x:Nat×Value)=>tmps.setIfInBounds x.1 x.2) (act l (marks ms)).tmps=⟨((sp.map (·.1)).zip vs).foldl (λl x=>l.set x.1 x.2) l⟩:=by rw[<-aui];simp[act]
    refine roundIn_of_wpIn trivial ?_;have e2:({tmps:=((⟨sp.map (·.1)⟩:Array Nat).zip (⟨vs⟩:Array Value)).foldl (λ(tmps:Array Value) (x:Nat×Value)=>tmps.setIfInBounds x.1 x.2) (act l (marks ms)).tmps,defers:=[]}:Act)=act (((sp.map (·.1)).zip vs).foldl (λl x=>l.set x.1 x.2) l) (marks []):=by rw[e];rfl
    have go:=uj (n:=0) as' false (some (w.heap.size+1)) (2*p) _ [] _ w1 (Exit.then (λa₁ w₁=>∃w₂,(Instr.beginRound (w.heap.size+1)).run P w₁=.ok () w₂/\body.wpIn (aH1 (some (w.heap.size+1))) 0 P (roundPost P (w.heap.size+1) R) a₁ w₂) (λ_ _ _=>False)) (λe=>by cases e) hv (λms' l' w' _ hk=>?_) (λ_ _ _ _ _ hk=>hk.elim) (λ_ _ _ hk=>hk.elim)
    .rw[<-e2]at go
     exact go
    .obtain⟨rfl,h5,h6⟩:=hk
     refine⟨_,run_beginRound h5 rfl,?_⟩;refine aso (rec:={state:=.ready,pending:=none,fn,tmps:=(act l (marks ms)).tmps,params:=⟨sp.map (·.1)⟩,assign:=as',body,defers:=w.heap.size}) rfl rfl λQ hn he hr=>?_;exact uj body false (some (w.heap.size+1)) (2*p+1) _ [] l' _ Q (λe=>by cases e) h6 hn he hr
   .rintro _ w3 ⟨⟨v,rfl⟩,hk⟩
    have azK:({act l (marks ms)with defers:=[{target:=.collected w.heap.size,args:=#[]}]++(act l (marks ms)).defers}:Act)=act l (marks (w.heap.size::ms)):=rfl;rw[azK];rcases hk with⟨h1,h2⟩|⟨h1,h2⟩|⟨i,h1,h2⟩
    .exact⟨_,_,run_endLoop h1 (by simp),hn _ l _ (aHe.refl _ _) h2⟩
    .exact⟨_,_,run_endLoop h1 (by simp),wpIn_ret (hr _ l _ h2)⟩
    .exact⟨_,_,run_endLoop h1 (by simp),wpIn_exit (he i _ l _ (aHe.refl _ _) h2)⟩
 |.exit i,out,ro,p,C,ms,l,w,Q,ho,h,_,he,_=>wpIn_exit (he i ms l w (aHe.refl _ _) h)
 |.ret,out,ro,p,C,ms,l,w,Q,ho,h,_,_,hr=>wpIn_ret (hr ms l w h)
 |.label _,_,_,_,_,_,_,_,_,_,h,_,_,_=>h.elim
 |.goto _,_,_,_,_,_,_,_,_,_,h,_,_,_=>h.elim
 |.scope _,_,_,_,_,_,_,_,_,_,h,_,_,_=>h.elim
 |.refuse _,_,_,_,_,_,_,_,_,_,h,_,_,_=>h.elim
def aI3:List Nat->World->(World->Prop)->Prop
 |[],w,K=>K w
 |r::ms,w,K=>w.heap[r]?=some (.deferred (some []))/\aI3 ms (w.putObj r (.deferred none)) K
def auj(P:Program)(rs:List ResultVar)(R:Ending->World->Prop):G7 where
 normal:=λms l w=>aI3 ms w λw'=>sw P w' rs l λvs=>R (.returned (wh vs)) w'
 exit:=λ_ _ _ _=>False
 ret:=λms l w=>aI3 ms w λw'=>sw P w' rs l λvs=>R (.returned (wh vs)) w'
def Ru{P:Program}{n:Nat}{fn:Func}{l:Fr}{ds:List Deferred}{R:Ending->World->Prop}:∀{ms:List Nat} {w:World},aI3 ms w (λw'=>sw P w' fn.results.toList l λvs=>R (.returned (wh vs)) w')->
  LeavesInM Fence.wide n P fn (act l ds).tmps R (marks ms) .returning w
 |[],w,h=>by obtain⟨vs,h1,h2⟩:=aIg (ds:=ds) (show sw P w fn.results.toList l _ from h);exact⟨_,h1,h2⟩
 |r::ms,w,h=>⟨by simp,.inl ⟨r,_,rfl,run_takeDeferred h.1,Ru h.2⟩⟩
def Le{P:Program}{f:FuncId}{fn:Func}{c:Code}{args:List Value}{w:World}{R:Ending->World->Prop}(pl:n_)(hf:P.funcs[f]?=some fn)(hb:fn.body=some c)
  (h:oR P pl true c 1 (auj P fn.results.toList R) [] (nS fn.ntmps args) w):Calls P f ⟨args⟩ w R:=by
 refine(callsIn_wide (n:=0)).1 (callsIn_of_wp_marks hf hb trivial ?_);have e:(Array.mk args)++Array.replicate (fn.ntmps-(Array.mk args).size) undef=⟨nS fn.ntmps args⟩:=by apply kM;simp[BB]
 rw[e];exact uj c true none 1 _ [] _ w _ (λ_=>rfl) h (λms' l' w' _ hk=>Ru (ds:=marks ms') hk) (λi ms' l' w' _ hk=>hk.elim) (λms' l' w' hk=>Ru (ds:=marks ms') hk)
end Go.Proofs.YtihaaoehhgmphaaGreatDoor.Vc
namespace Go.Proofs.YtihaaoehhgmphaaGreatDoor
open IntKind Go.RowKit Vc
set_option maxRecDepth 100000
abbrev zW:=World
abbrev zT:=List UInt8
abbrev zO:=Option Addr
abbrev zU:=Nat->Value
abbrev zV:=World->Prop
abbrev zE:=Ending->World->Prop
abbrev zI(n:Int):Value:=.int .i64 n
abbrev zS(s:zT):Value:=.string (S s)
abbrev zB(b:Bool):Value:=.bool b
abbrev zP(p:zO):Value:=.pointer p
abbrev zL(p:zO)(n c:Nat):Value:=.slice p n c
abbrev zN:Value:=.slice none 0 0
abbrev zA(w:World)(o:Nat):Addr:=Addr.mk w.heap.size o none
abbrev zM(w:zW)(c:List Value)(t:TypeId)(K:zV):Prop:=cP (w.alloc (.cells ⟨c⟩ t)) K
abbrev zJ(x:zW)(a:Addr)(v:Value)(K:zV):Prop:=Wr x a/\K (x.setCell a v)
abbrev zX(w:zW)(c:List Value)(t:TypeId)(d:List Value)(K:zV):Prop:=cP (w.alloc (.cells ⟨c⟩ t)) λw1=>cA (Addr.mk w.heap.size 0 none) K 0 d w1
abbrev zC(a:Addr)(w:zW)(d:List Value)(K:zV):Prop:=cA a K 0 d w
abbrev zR(R:zE)(v:Value)(w:zW):Prop:=R (.returned v) w
abbrev zD(i:Int)(n:Nat)(K:Prop):Prop:=0<=i/\i<(n:Int)/\K
abbrev zH(w:zW)(K:zV->Prop):Prop:=∃J:zV,J w/\K J
abbrev zK(f:FuncId)(a:List Value)(w:zW)(R:zE)(K:zE):Prop:=an f ⟨a⟩ w λe w=>K e w\/(∃c,e=.panicked c/\R (.panicked c) w)
abbrev zF(f:FuncId)(a:List Value)(w:zW)(K:zE):Prop:=an f ⟨a⟩ w λe w=>K e w\/(∃c,e=.panicked c/\False)
abbrev aHi(f:FuncId)(a:List Value)(w:zW)(R:zE)(K:Bool->zW->Prop):Prop:=an f ⟨a⟩ w λe w=>(∃(x0:Bool),e=.returned (zB x0)/\K x0 w)\/(∃c,e=.panicked c/\R (.panicked c) w)
abbrev cQ(f:FuncId)(a:List Value)(w:zW)(R:zE)(K:zT->zW->Prop):Prop:=an f ⟨a⟩ w λe w=>(∃(x0:zT),e=.returned (zS x0)/\K x0 w)\/(∃c,e=.panicked c/\R (.panicked c) w)
abbrev zK2(f:FuncId)(a:List Value)(w:zW)(R:zE)(K:Int->zO->Nat->Nat->Int->zW->Prop):Prop:=an f ⟨a⟩ w λe w=>(∃(x0:Int)(x1:zO)(x2:Nat)(x3:Nat)(x4:Int),e=.returned (.tuple #[zI x0,zL x1 x2 x3,zI x4])/\K x0 x1 x2 x3 x4 w)\/(∃c,e=.panicked c/\R (.panicked c) w)
abbrev VK(f:FuncId)(a:List Value)(w:zW)(R:zE)(K:zO->Int->zT->zT->zO->Nat->Nat->zT->zO->Nat->Nat->zO->Nat->Nat->Int->Int->Int->Int->zW->Prop):Prop:=an f ⟨a⟩ w λe w=>(∃(x0:zO)(x1:Int)(x2:zT)(x3:zT)(x4:zO)(x5:Nat)(x6:Nat)(x7:zT)(x8:zO)(x9:Nat)(jW:Nat)(jX:zO)(jY:Nat)(kE:Nat)(lG:Int)(lH:Int)(ld:Int)(aH_:Int),e=.returned (.tuple #[zP x0,.agg #[zI x1,zS x2,zS x3,zL x4 x5 x6,zS x7,zL x8 x9 jW,zL jX jY kE,zI lG,zI lH,zI ld,zI aH_]])/\K x0 x1 x2 x3 x4 x5 x6 x7 x8 x9 jW jX jY kE lG lH ld aH_ w)\/(∃c,e=.panicked c/\R (.panicked c) w)
abbrev bU(w:zW)(a:Addr)(K:Int->Prop):Prop:=∃(x0:Int),w.cell? a=some (zI x0)/\K x0
abbrev bE(w:zW)(a:Addr)(K:zT->Prop):Prop:=∃(x0:zT),w.cell? a=some (zS x0)/\K x0
abbrev cg(w:zW)(a:Addr)(K:zO->Nat->Nat->Prop):Prop:=∃(x0:zO)(x1:Nat)(x2:Nat),w.cell? a=some (zL x0 x1 x2)/\K x0 x1 x2
abbrev Cv(f:FuncId)(a:List Value)(w:zW)(R:zE)(K:Int->zT->zT->Bool->zW->Prop):Prop:=an f ⟨a⟩ w λe w=>(∃(x0:Int)(x1:zT)(x2:zT)(x3:Bool),e=.returned (.tuple #[.agg #[zI x0,zS x1,zS x2],zB x3])/\K x0 x1 x2 x3 w)\/(∃c,e=.panicked c/\R (.panicked c) w)
abbrev yT(w:zW)(a:Nat)(K:Int->zT->zT->Prop):Prop:=∃(x0:Int)(x1:zT)(x2:zT),w.cell? (Addr.mk a 0 none)=some (zI x0)/\w.cell? (Addr.mk a 1 none)=some (zS x1)/\w.cell? (Addr.mk a 2 none)=some (zS x2)/\K x0 x1 x2
abbrev VL(i0:zT)(i1:Int)(w:zW)(K:(zT->Int->zW->Prop)->(zT->Int->zW->Nat)->zT->Int->zW->Prop):Prop:=∃(I:zT->Int->zW->Prop)(m:zT->Int->zW->Nat),I i0 i1 w/\∀x0 x1(_:zU)w1,I x0 x1 w1->K I m x0 x1 w1
abbrev jZ(A:(zW->Prop)->Prop)(K:zW->Prop):Prop:=∃J:zW->Prop,A J/\∀(_:zU)w1,J w1->K w1
abbrev gQ(A:(Bool->zW->Prop)->Prop)(K:Bool->zW->Prop):Prop:=∃J:Bool->zW->Prop,A J/\∀x0(_:zU)w1,J x0 w1->K x0 w1
abbrev aHy(f:FuncId)(a:List Value)(w:zW)(R:zE)(K:zO->Nat->Nat->zW->Prop):Prop:=an f ⟨a⟩ w λe w=>(∃(x0:zO)(x1:Nat)(x2:Nat),e=.returned (zL x0 x1 x2)/\K x0 x1 x2 w)\/(∃c,e=.panicked c/\R (.panicked c) w)
abbrev Ij(A:(zT->zW->Prop)->Prop)(K:zT->zW->Prop):Prop:=∃J:zT->zW->Prop,A J/\∀x0(_:zU)w1,J x0 w1->K x0 w1
abbrev zd3(w:zW)(a:Addr)(K:Int->Prop):Prop:=∃(x0:Int),w.cell? a=some (.int .u8 x0)/\K x0
abbrev lI(f:FuncId)(a:List Value)(w:zW)(R:zE)(K:zO->zW->Prop):Prop:=an f ⟨a⟩ w λe w=>(∃(x0:zO),e=.returned (zP x0)/\K x0 w)\/(∃c,e=.panicked c/\R (.panicked c) w)
abbrev zK7(f:FuncId)(a:List Value)(w:zW)(R:zE)(K:Int->zT->zT->zO->Nat->Nat->zT->zO->Nat->Nat->zO->Nat->Nat->Int->Int->Int->Int->zW->Prop):Prop:=an f ⟨a⟩ w λe w=>(∃(x0:Int)(x1:zT)(x2:zT)(x3:zO)(x4:Nat)(x5:Nat)(x6:zT)(x7:zO)(x8:Nat)(x9:Nat)(jW:zO)(jX:Nat)(jY:Nat)(kE:Int)(lG:Int)(lH:Int)(ld:Int),e=.returned (.agg #[zI x0,zS x1,zS x2,zL x3 x4 x5,zS x6,zL x7 x8 x9,zL jW jX jY,zI kE,zI lG,zI lH,zI ld])/\K x0 x1 x2 x3 x4 x5 x6 x7 x8 x9 jW jX jY kE lG lH ld w)\/(∃c,e=.panicked c/\R (.panicked c) w)
abbrev Nx(f:FuncId)(a:List Value)(w:zW)(R:zE)(K:zO->Int->zW->Prop):Prop:=an f ⟨a⟩ w λe w=>(∃(x0:zO)(x1:Int),e=.returned (.tuple #[zP x0,zI x1])/\K x0 x1 w)\/(∃c,e=.panicked c/\R (.panicked c) w)
abbrev zK9(f:FuncId)(a:List Value)(w:zW)(R:zE)(K:Int->Bool->zT->zO->Nat->Nat->zO->Nat->Nat->zO->Nat->Nat->zO->Nat->Nat->zO->Nat->Nat->Int->zW->Prop):Prop:=an f ⟨a⟩ w λe w=>(∃(x0:Int)(x1:Bool)(x2:zT)(x3:zO)(x4:Nat)(x5:Nat)(x6:zO)(x7:Nat)(x8:Nat)(x9:zO)(jW:Nat)(jX:Nat)(jY:zO)(kE:Nat)(lG:Nat)(lH:zO)(ld:Nat)(aH_:Nat)(x18:Int),e=.returned (.tuple #[.agg #[zI x0,zB x1,zS x2,zL x3 x4 x5,zL x6 x7 x8,zL x9 jW jX,zL jY kE lG,zL lH ld aH_],zI x18])/\K x0 x1 x2 x3 x4 x5 x6 x7 x8 x9 jW jX jY kE lG lH ld aH_ x18 w)\/(∃c,e=.panicked c/\R (.panicked c) w)
abbrev aHF(w:zW)(a:Nat)(K:Int->Bool->zT->zO->Nat->Nat->zO->Nat->Nat->zO->Nat->Nat->zO->Nat->Nat->zO->Nat->Nat->Prop):Prop:=∃(x0:Int)(x1:Bool)(x2:zT)(x3:zO)(x4:Nat)(x5:Nat)(x6:zO)(x7:Nat)(x8:Nat)(x9:zO)(jW:Nat)(jX:Nat)(jY:zO)(kE:Nat)(lG:Nat)(lH:zO)(ld:Nat)(aH_:Nat),w.cell? (Addr.mk a 0 none)=some (zI x0)/\w.cell? (Addr.mk a 1 none)=some (zB x1)/\w.cell? (Addr.mk a 2 none)=some (zS x2)/\w.cell? (Addr.mk a 3 none)=some (zL x3 x4 x5)/\w.cell? (Addr.mk a 4 none)=some (zL x6 x7 x8)/\w.cell? (Addr.mk a 5 none)=some (zL x9 jW jX)/\w.cell? (Addr.mk a 6 none)=some (zL jY kE lG)/\w.cell? (Addr.mk a 7 none)=some (zL lH ld aH_)/\K x0 x1 x2 x3 x4 x5 x6 x7 x8 x9 jW jX jY kE lG lH ld aH_
abbrev aIp(w:zV)(a:Addr)(K:Int->Prop):Prop:=∃(x0:Int),(∀q,w q->q.cell? a=some (zI x0))/\K x0
abbrev j0(w:zV)(a:Addr)(K:zO->Nat->Nat->Prop):Prop:=∃(x0:zO)(x1:Nat)(x2:Nat),(∀q,w q->q.cell? a=some (zL x0 x1 x2))/\K x0 x1 x2
abbrev zs2(w:zW)(a:Nat)(K:Int->zT->zT->zO->Nat->Nat->zT->zO->Nat->Nat->zO->Nat->Nat->Int->Int->Int->Int->Prop):Prop:=∃(x0:Int)(x1:zT)(x2:zT)(x3:zO)(x4:Nat)(x5:Nat)(x6:zT)(x7:zO)(x8:Nat)(x9:Nat)(jW:zO)(jX:Nat)(jY:Nat)(kE:Int)(lG:Int)(lH:Int)(ld:Int),w.cell? (Addr.mk a 0 none)=some (zI x0)/\w.cell? (Addr.mk a 1 none)=some (zS x1)/\w.cell? (Addr.mk a 2 none)=some (zS x2)/\w.cell? (Addr.mk a 3 none)=some (zL x3 x4 x5)/\w.cell? (Addr.mk a 4 none)=some (zS x6)/\w.cell? (Addr.mk a 5 none)=some (zL x7 x8 x9)/\w.cell? (Addr.mk a 6 none)=some (zL jW jX jY)/\w.cell? (Addr.mk a 7 none)=some (zI kE)/\w.cell? (Addr.mk a 8 none)=some (zI lG)/\w.cell? (Addr.mk a 9 none)=some (zI lH)/\w.cell? (Addr.mk a 10 none)=some (zI ld)/\K x0 x1 x2 x3 x4 x5 x6 x7 x8 x9 jW jX jY kE lG lH ld
abbrev aHH(i0:Int)(w:zW)(K:(Int->zW->Prop)->(Int->zW->Nat)->Int->zW->Prop):Prop:=∃(I:Int->zW->Prop)(m:Int->zW->Nat),I i0 w/\∀x0(_:zU)w1,I x0 w1->K I m x0 w1
abbrev Ny(w:zW)(a:Addr)(K:Int->Bool->zT->zT->zT->zO->Nat->Nat->Prop):Prop:=∃(x0:Int)(x1:Bool)(x2:zT)(x3:zT)(x4:zT)(x5:zO)(x6:Nat)(x7:Nat),w.cell? a=some (zI x0)/\w.cell? (a.add 1)=some (zB x1)/\w.cell? (a.add 2)=some (zS x2)/\w.cell? (a.add 3)=some (zS x3)/\w.cell? (a.add 4)=some (zS x4)/\w.cell? (a.add 5)=some (zL x5 x6 x7)/\K x0 x1 x2 x3 x4 x5 x6 x7
abbrev aHI(w:zW)(a:Addr)(K:Bool->Prop):Prop:=∃(x0:Bool),w.cell? a=some (zB x0)/\K x0
abbrev Cw(w:zW)(a:Nat)(K:Int->Bool->zT->zT->zT->zO->Nat->Nat->Prop):Prop:=∃(x0:Int)(x1:Bool)(x2:zT)(x3:zT)(x4:zT)(x5:zO)(x6:Nat)(x7:Nat),w.cell? (Addr.mk a 0 none)=some (zI x0)/\w.cell? (Addr.mk a 1 none)=some (zB x1)/\w.cell? (Addr.mk a 2 none)=some (zS x2)/\w.cell? (Addr.mk a 3 none)=some (zS x3)/\w.cell? (Addr.mk a 4 none)=some (zS x4)/\w.cell? (Addr.mk a 5 none)=some (zL x5 x6 x7)/\K x0 x1 x2 x3 x4 x5 x6 x7
abbrev bD(f:FuncId)(a:List Value)(w:zW)(R:zE)(K:zW->Prop):Prop:=an f ⟨a⟩ w λe w=>(e=.returned (.tuple #[])/\K w)\/(∃c,e=.panicked c/\R (.panicked c) w)
abbrev aIQ(w:zW)(a:Addr)(K:Value->Prop):Prop:=∃(x0:Value),x0.oneCell'=true/\w.cell? a=some (x0)/\K x0
abbrev Nz(A:(zO->zW->Prop)->Prop)(K:zO->zW->Prop):Prop:=∃J:zO->zW->Prop,A J/\∀x0(_:zU)w1,J x0 w1->K x0 w1
abbrev NA(w:zV)(a:Addr)(K:Bool->Prop):Prop:=∃(x0:Bool),(∀q,w q->q.cell? a=some (zB x0))/\K x0
abbrev aHu(w:zV)(a:Addr)(K:zT->Prop):Prop:=∃(x0:zT),(∀q,w q->q.cell? a=some (zS x0))/\K x0
abbrev fE(w:zV)(a:Addr)(K:zO->Prop):Prop:=∃(x0:zO),(∀q,w q->q.cell? a=some (zP x0))/\K x0
abbrev cH(w:zW)(a:Addr)(K:zO->Prop):Prop:=∃(x0:zO),w.cell? a=some (zP x0)/\K x0
abbrev AD(f:FuncId)(a:List Value)(w:zW)(R:zE)(K:zO->Nat->Nat->Int->zW->Prop):Prop:=an f ⟨a⟩ w λe w=>(∃(x0:zO)(x1:Nat)(x2:Nat)(x3:Int),e=.returned (.tuple #[zL x0 x1 x2,zI x3])/\K x0 x1 x2 x3 w)\/(∃c,e=.panicked c/\R (.panicked c) w)
abbrev yU(w:zV)(a:Addr)(K:Value->Prop):Prop:=∃(x0:Value),x0.oneCell'=true/\(∀q,w q->q.cell? a=some (x0))/\K x0
abbrev zs5(w:zV)(a:Nat)(K:Int->Bool->zT->zO->Nat->Nat->zO->Nat->Nat->zO->Nat->Nat->zO->Nat->Nat->zO->Nat->Nat->Prop):Prop:=∃(x0:Int)(x1:Bool)(x2:zT)(x3:zO)(x4:Nat)(x5:Nat)(x6:zO)(x7:Nat)(x8:Nat)(x9:zO)(jW:Nat)(jX:Nat)(jY:zO)(kE:Nat)(lG:Nat)(lH:zO)(ld:Nat)(aH_:Nat),(∀q,w q->q.cell? (Addr.mk a 0 none)=some (zI x0))/\(∀q,w q->q.cell? (Addr.mk a 1 none)=some (zB x1))/\(∀q,w q->q.cell? (Addr.mk a 2 none)=some (zS x2))/\(∀q,w q->q.cell? (Addr.mk a 3 none)=some (zL x3 x4 x5))/\(∀q,w q->q.cell? (Addr.mk a 4 none)=some (zL x6 x7 x8))/\(∀q,w q->q.cell? (Addr.mk a 5 none)=some (zL x9 jW jX))/\(∀q,w q->q.cell? (Addr.mk a 6 none)=some (zL jY kE lG))/\(∀q,w q->q.cell? (Addr.mk a 7 none)=some (zL lH ld aH_))/\K x0 x1 x2 x3 x4 x5 x6 x7 x8 x9 jW jX jY kE lG lH ld aH_
abbrev azL(f:FuncId)(a:List Value)(w:zW)(R:zE)(K:zT->zT->Bool->zW->Prop):Prop:=an f ⟨a⟩ w λe w=>(∃(x0:zT)(x1:zT)(x2:Bool),e=.returned (.tuple #[zS x0,zS x1,zB x2])/\K x0 x1 x2 w)\/(∃c,e=.panicked c/\R (.panicked c) w)
abbrev fR(f:FuncId)(a:List Value)(w:zW)(R:zE)(K:Int->zW->Prop):Prop:=an f ⟨a⟩ w λe w=>(∃(x0:Int),e=.returned (zI x0)/\K x0 w)\/(∃c,e=.panicked c/\R (.panicked c) w)
abbrev HM(f:FuncId)(a:List Value)(w:zW)(R:zE)(K:Int->Bool->zW->Prop):Prop:=an f ⟨a⟩ w λe w=>(∃(x0:Int)(x1:Bool),e=.returned (.tuple #[zI x0,zB x1])/\K x0 x1 w)\/(∃c,e=.panicked c/\R (.panicked c) w)
abbrev aKN(A:(zO->Nat->Nat->zW->Prop)->Prop)(K:zO->Nat->Nat->zW->Prop):Prop:=∃J:zO->Nat->Nat->zW->Prop,A J/\∀x0 x1 x2(_:zU)w1,J x0 x1 x2 w1->K x0 x1 x2 w1
abbrev zl2(i0:zO)(i1:Nat)(i2:Nat)(w:zW)(K:(zO->Nat->Nat->zW->Prop)->(zO->Nat->Nat->zW->Nat)->zO->Nat->Nat->zW->Prop):Prop:=∃(I:zO->Nat->Nat->zW->Prop)(m:zO->Nat->Nat->zW->Nat),I i0 i1 i2 w/\∀x0 x1 x2(_:zU)w1,I x0 x1 x2 w1->K I m x0 x1 x2 w1
abbrev wB(i0:zO)(i1:Nat)(i2:Nat)(i3:Int)(w:zW)(K:(zO->Nat->Nat->Int->zW->Prop)->(zO->Nat->Nat->Int->zW->Nat)->zO->Nat->Nat->Int->zW->Prop):Prop:=∃(I:zO->Nat->Nat->Int->zW->Prop)(m:zO->Nat->Nat->Int->zW->Nat),I i0 i1 i2 i3 w/\∀x0 x1 x2 x3(_:zU)w1,I x0 x1 x2 x3 w1->K I m x0 x1 x2 x3 w1
abbrev VM(w:zV)(a:Nat)(K:zT->Bool->Prop):Prop:=∃(x0:zT)(x1:Bool),(∀q,w q->q.cell? (Addr.mk a 0 none)=some (zS x0))/\(∀q,w q->q.cell? (Addr.mk a 1 none)=some (zB x1))/\K x0 x1
abbrev aIR(w:zW)(K:(zW->Prop)->(zW->Nat)->zW->Prop):Prop:=∃(I:zW->Prop)(m:zW->Nat),I w/\∀(_:zU)w1,I w1->K I m w1
abbrev yB(f:FuncId)(a:List Value)(w:zW)(R:zE)(K:Int->Bool->zT->zO->Nat->Nat->zO->Nat->Nat->zO->Nat->Nat->zO->Nat->Nat->zO->Nat->Nat->zW->Prop):Prop:=an f ⟨a⟩ w λe w=>(∃(x0:Int)(x1:Bool)(x2:zT)(x3:zO)(x4:Nat)(x5:Nat)(x6:zO)(x7:Nat)(x8:Nat)(x9:zO)(jW:Nat)(jX:Nat)(jY:zO)(kE:Nat)(lG:Nat)(lH:zO)(ld:Nat)(aH_:Nat),e=.returned (.agg #[zI x0,zB x1,zS x2,zL x3 x4 x5,zL x6 x7 x8,zL x9 jW jX,zL jY kE lG,zL lH ld aH_])/\K x0 x1 x2 x3 x4 x5 x6 x7 x8 x9 jW jX jY kE lG lH ld aH_ w)\/(∃c,e=.panicked c/\R (.panicked c) w)
abbrev Cx(w:zW)(a:Addr)(K:Int->Bool->zT->zO->Nat->Nat->zO->Nat->Nat->zO->Nat->Nat->zO->Nat->Nat->zO->Nat->Nat->Prop):Prop:=∃(x0:Int)(x1:Bool)(x2:zT)(x3:zO)(x4:Nat)(x5:Nat)(x6:zO)(x7:Nat)(x8:Nat)(x9:zO)(jW:Nat)(jX:Nat)(jY:zO)(kE:Nat)(lG:Nat)(lH:zO)(ld:Nat)(aH_:Nat),w.cell? a=some (zI x0)/\w.cell? (a.add 1)=some (zB x1)/\w.cell? (a.add 2)=some (zS x2)/\w.cell? (a.add 3)=some (zL x3 x4 x5)/\w.cell? (a.add 4)=some (zL x6 x7 x8)/\w.cell? (a.add 5)=some (zL x9 jW jX)/\w.cell? (a.add 6)=some (zL jY kE lG)/\w.cell? (a.add 7)=some (zL lH ld aH_)/\K x0 x1 x2 x3 x4 x5 x6 x7 x8 x9 jW jX jY kE lG lH ld aH_
abbrev MS(f:FuncId)(a:List Value)(w:zW)(R:zE)(K:zT->zT->Bool->Bool->Bool->zW->Prop):Prop:=an f ⟨a⟩ w λe w=>(∃(x0:zT)(x1:zT)(x2:Bool)(x3:Bool)(x4:Bool),e=.returned (.tuple #[.agg #[zS x0,zS x1,zB x2,zB x3],zB x4])/\K x0 x1 x2 x3 x4 w)\/(∃c,e=.panicked c/\R (.panicked c) w)
abbrev zl5(i0:zT)(i1:zO)(i2:Nat)(i3:Nat)(w:zW)(K:(zT->zO->Nat->Nat->zW->Prop)->(zT->zO->Nat->Nat->zW->Nat)->zT->zO->Nat->Nat->zW->Prop):Prop:=∃(I:zT->zO->Nat->Nat->zW->Prop)(m:zT->zO->Nat->Nat->zW->Nat),I i0 i1 i2 i3 w/\∀x0 x1 x2 x3(_:zU)w1,I x0 x1 x2 x3 w1->K I m x0 x1 x2 x3 w1
abbrev EH(i0:Int)(i1:Int)(w:zW)(K:(Int->Int->zW->Prop)->(Int->Int->zW->Nat)->Int->Int->zW->Prop):Prop:=∃(I:Int->Int->zW->Prop)(m:Int->Int->zW->Nat),I i0 i1 w/\∀x0 x1(_:zU)w1,I x0 x1 w1->K I m x0 x1 w1
abbrev Cy(A:(Int->zW->Prop)->Prop)(K:Int->zW->Prop):Prop:=∃J:Int->zW->Prop,A J/\∀x0(_:zU)w1,J x0 w1->K x0 w1
abbrev uS(f:FuncId)(a:List Value)(w:zW)(R:zE)(K:Int->Int->zT->zW->Prop):Prop:=an f ⟨a⟩ w λe w=>(∃(x0:Int)(x1:Int)(x2:zT),e=.returned (.agg #[zI x0,zI x1,zS x2])/\K x0 x1 x2 w)\/(∃c,e=.panicked c/\R (.panicked c) w)
abbrev Ek(f:FuncId)(a:List Value)(w:zW)(R:zE)(K:zO->Nat->Nat->Bool->zW->Prop):Prop:=an f ⟨a⟩ w λe w=>(∃(x0:zO)(x1:Nat)(x2:Nat)(x3:Bool),e=.returned (.tuple #[zL x0 x1 x2,zB x3])/\K x0 x1 x2 x3 w)\/(∃c,e=.panicked c/\R (.panicked c) w)
abbrev Cf(f:FuncId)(a:List Value)(w:zW)(R:zE)(K:zT->Bool->zW->Prop):Prop:=an f ⟨a⟩ w λe w=>(∃(x0:zT)(x1:Bool),e=.returned (.tuple #[zS x0,zB x1])/\K x0 x1 w)\/(∃c,e=.panicked c/\R (.panicked c) w)
abbrev aH7(f:FuncId)(a:List Value)(w:zW)(R:zE)(K:Int->zT->zW->Prop):Prop:=an f ⟨a⟩ w λe w=>(∃(x0:Int)(x1:zT),e=.returned (.agg #[zI x0,zS x1])/\K x0 x1 w)\/(∃c,e=.panicked c/\R (.panicked c) w)
abbrev NC(w:zW)(a:Addr)(K:zT->zT->Bool->Bool->Prop):Prop:=∃(x0:zT)(x1:zT)(x2:Bool)(x3:Bool),w.cell? a=some (zS x0)/\w.cell? (a.add 1)=some (zS x1)/\w.cell? (a.add 2)=some (zB x2)/\w.cell? (a.add 3)=some (zB x3)/\K x0 x1 x2 x3
abbrev VN(w:zW)(a:Nat)(K:zT->zT->Bool->Bool->Prop):Prop:=∃(x0:zT)(x1:zT)(x2:Bool)(x3:Bool),w.cell? (Addr.mk a 0 none)=some (zS x0)/\w.cell? (Addr.mk a 1 none)=some (zS x1)/\w.cell? (Addr.mk a 2 none)=some (zB x2)/\w.cell? (Addr.mk a 3 none)=some (zB x3)/\K x0 x1 x2 x3
abbrev El(w:zW)(a:Nat)(K:Int->Int->zT->Prop):Prop:=∃(x0:Int)(x1:Int)(x2:zT),w.cell? (Addr.mk a 0 none)=some (zI x0)/\w.cell? (Addr.mk a 1 none)=some (zI x1)/\w.cell? (Addr.mk a 2 none)=some (zS x2)/\K x0 x1 x2
abbrev zF0(f:FuncId)(a:List Value)(w:zW)(K:Bool->zW->Prop):Prop:=an f ⟨a⟩ w λe w=>(∃(x0:Bool),e=.returned (zB x0)/\K x0 w)\/(∃c,e=.panicked c/\False)
abbrev af1(f:FuncId)(a:List Value)(w:zW)(R:zE)(K:zO->Nat->Nat->zO->Nat->Nat->zO->Nat->Nat->Int->Int->zW->Prop):Prop:=an f ⟨a⟩ w λe w=>(∃(x0:zO)(x1:Nat)(x2:Nat)(x3:zO)(x4:Nat)(x5:Nat)(x6:zO)(x7:Nat)(x8:Nat)(x9:Int)(jW:Int),e=.returned (.tuple #[zL x0 x1 x2,.agg #[zL x3 x4 x5,zL x6 x7 x8,zI x9],zI jW])/\K x0 x1 x2 x3 x4 x5 x6 x7 x8 x9 jW w)\/(∃c,e=.panicked c/\R (.panicked c) w)
abbrev zj6(A:(zO->Bool->zW->Prop)->Prop)(K:zO->Bool->zW->Prop):Prop:=∃J:zO->Bool->zW->Prop,A J/\∀x0 x1(_:zU)w1,J x0 x1 w1->K x0 x1 w1
abbrev af2(f:FuncId)(a:List Value)(w:zW)(R:zE)(K:zO->Nat->Nat->zO->Nat->Nat->zW->Prop):Prop:=an f ⟨a⟩ w λe w=>(∃(x0:zO)(x1:Nat)(x2:Nat)(x3:zO)(x4:Nat)(x5:Nat),e=.returned (.tuple #[zL x0 x1 x2,zL x3 x4 x5])/\K x0 x1 x2 x3 x4 x5 w)\/(∃c,e=.panicked c/\R (.panicked c) w)
abbrev MT(w:zV)(a:Nat)(K:Int->Int->zT->Prop):Prop:=∃(x0:Int)(x1:Int)(x2:zT),(∀q,w q->q.cell? (Addr.mk a 0 none)=some (zI x0))/\(∀q,w q->q.cell? (Addr.mk a 1 none)=some (zI x1))/\(∀q,w q->q.cell? (Addr.mk a 2 none)=some (zS x2))/\K x0 x1 x2
abbrev UO(f:FuncId)(a:List Value)(w:zW)(R:zE)(K:zT->Int->zW->Prop):Prop:=an f ⟨a⟩ w λe w=>(∃(x0:zT)(x1:Int),e=.returned (.tuple #[zS x0,zI x1])/\K x0 x1 w)\/(∃c,e=.panicked c/\R (.panicked c) w)
abbrev MU(w:zW)(a:Addr)(K:Int->zT->Prop):Prop:=∃(x0:Int)(x1:zT),w.cell? a=some (zI x0)/\w.cell? (a.add 1)=some (zS x1)/\K x0 x1
abbrev HN(w:zW)(a:Nat)(K:Int->zT->Prop):Prop:=∃(x0:Int)(x1:zT),w.cell? (Addr.mk a 0 none)=some (zI x0)/\w.cell? (Addr.mk a 1 none)=some (zS x1)/\K x0 x1
abbrev Cg(w:zW)(a:Nat)(K:zO->Nat->Nat->zO->Nat->Nat->Int->Prop):Prop:=∃(x0:zO)(x1:Nat)(x2:Nat)(x3:zO)(x4:Nat)(x5:Nat)(x6:Int),w.cell? (Addr.mk a 0 none)=some (zL x0 x1 x2)/\w.cell? (Addr.mk a 1 none)=some (zL x3 x4 x5)/\w.cell? (Addr.mk a 2 none)=some (zI x6)/\K x0 x1 x2 x3 x4 x5 x6
abbrev af3(w:zV)(a:Addr)(K:zO->Nat->Nat->zO->Nat->Nat->Int->Prop):Prop:=∃(x0:zO)(x1:Nat)(x2:Nat)(x3:zO)(x4:Nat)(x5:Nat)(x6:Int),(∀q,w q->q.cell? a=some (zL x0 x1 x2))/\(∀q,w q->q.cell? (a.add 1)=some (zL x3 x4 x5))/\(∀q,w q->q.cell? (a.add 2)=some (zI x6))/\K x0 x1 x2 x3 x4 x5 x6
abbrev VO(f:FuncId)(a:List Value)(w:zW)(K:zT->Int->Int->zT->zW->Prop):Prop:=an f ⟨a⟩ w λe w=>(∃(x0:zT)(x1:Int)(x2:Int)(x3:zT),e=.returned (.tuple #[zS x0,.agg #[zI x1,zI x2,zS x3]])/\K x0 x1 x2 x3 w)\/(∃c,e=.panicked c/\False)
abbrev ND(f:FuncId)(a:List Value)(w:zW)(K:zW->Prop):Prop:=an f ⟨a⟩ w λe w=>(e=.returned (.tuple #[])/\K w)\/(∃c,e=.panicked c/\False)
abbrev NF(i0:zT)(w:zW)(K:(zT->zW->Prop)->(zT->zW->Nat)->zT->zW->Prop):Prop:=∃(I:zT->zW->Prop)(m:zT->zW->Nat),I i0 w/\∀x0(_:zU)w1,I x0 w1->K I m x0 w1
abbrev AE(w:zW)(a:Nat)(K:zT->zO->Nat->Nat->Prop):Prop:=∃(x0:zT)(x1:zO)(x2:Nat)(x3:Nat),w.cell? (Addr.mk a 0 none)=some (zS x0)/\w.cell? (Addr.mk a 1 none)=some (zL x1 x2 x3)/\K x0 x1 x2 x3
abbrev af4(f:FuncId)(a:List Value)(w:zW)(R:zE)(K:zT->zO->Nat->Nat->zW->Prop):Prop:=an f ⟨a⟩ w λe w=>(∃(x0:zT)(x1:zO)(x2:Nat)(x3:Nat),e=.returned (.agg #[zS x0,zL x1 x2 x3])/\K x0 x1 x2 x3 w)\/(∃c,e=.panicked c/\R (.panicked c) w)
abbrev zj8(A:(zT->Int->zW->Prop)->Prop)(K:zT->Int->zW->Prop):Prop:=∃J:zT->Int->zW->Prop,A J/\∀x0 x1(_:zU)w1,J x0 x1 w1->K x0 x1 w1
abbrev zj9(A:(Bool->Int->zW->Prop)->Prop)(K:Bool->Int->zW->Prop):Prop:=∃J:Bool->Int->zW->Prop,A J/\∀x0 x1(_:zU)w1,J x0 x1 w1->K x0 x1 w1
abbrev UP(f:FuncId)(a:List Value)(w:zW)(R:zE)(K:Int->zW->Prop):Prop:=an f ⟨a⟩ w λe w=>(∃(x0:Int),e=.returned (.int .u8 x0)/\K x0 w)\/(∃c,e=.panicked c/\R (.panicked c) w)
abbrev af5(f:FuncId)(a:List Value)(w:zW)(R:zE)(K:Int->zT->zW->Prop):Prop:=an f ⟨a⟩ w λe w=>(∃(x0:Int)(x1:zT),e=.returned (.tuple #[.int .u8 x0,zS x1])/\K x0 x1 w)\/(∃c,e=.panicked c/\R (.panicked c) w)
abbrev af6(f:FuncId)(a:List Value)(w:zW)(R:zE)(K:zT->Int->Int->zT->Int->zW->Prop):Prop:=an f ⟨a⟩ w λe w=>(∃(x0:zT)(x1:Int)(x2:Int)(x3:zT)(x4:Int),e=.returned (.tuple #[zS x0,.agg #[zI x1,zI x2,zS x3],zI x4])/\K x0 x1 x2 x3 x4 w)\/(∃c,e=.panicked c/\R (.panicked c) w)
abbrev Ik(w:zW)(a:Addr)(K:Int->Prop):Prop:=∃(x0:Int),w.cell? a=some (.int .u32 x0)/\K x0
abbrev tK(w:zV)(a:Addr)(K:Int->Prop):Prop:=∃(x0:Int),(∀q,w q->q.cell? a=some (.int .u32 x0))/\K x0
abbrev tF(f:FuncId)(a:List Value)(w:zW)(R:zE)(K:Int->zW->Prop):Prop:=an f ⟨a⟩ w λe w=>(∃(x0:Int),e=.returned (.int .u32 x0)/\K x0 w)\/(∃c,e=.panicked c/\R (.panicked c) w)
abbrev af7(w:zV)(a:Nat)(K:Int->Bool->zT->zT->zT->zO->Nat->Nat->Prop):Prop:=∃(x0:Int)(x1:Bool)(x2:zT)(x3:zT)(x4:zT)(x5:zO)(x6:Nat)(x7:Nat),(∀q,w q->q.cell? (Addr.mk a 0 none)=some (zI x0))/\(∀q,w q->q.cell? (Addr.mk a 1 none)=some (zB x1))/\(∀q,w q->q.cell? (Addr.mk a 2 none)=some (zS x2))/\(∀q,w q->q.cell? (Addr.mk a 3 none)=some (zS x3))/\(∀q,w q->q.cell? (Addr.mk a 4 none)=some (zS x4))/\(∀q,w q->q.cell? (Addr.mk a 5 none)=some (zL x5 x6 x7))/\K x0 x1 x2 x3 x4 x5 x6 x7
abbrev zF3(f:FuncId)(a:List Value)(w:zW)(K:zO->Nat->Nat->zW->Prop):Prop:=an f ⟨a⟩ w λe w=>(∃(x0:zO)(x1:Nat)(x2:Nat),e=.returned (zL x0 x1 x2)/\K x0 x1 x2 w)\/(∃c,e=.panicked c/\False)
abbrev MV(w:zV)(a:Addr)(K:zT->Bool->zT->Prop):Prop:=∃(x0:zT)(x1:Bool)(x2:zT),(∀q,w q->q.cell? a=some (zS x0))/\(∀q,w q->q.cell? (a.add 1)=some (zB x1))/\(∀q,w q->q.cell? (a.add 2)=some (zS x2))/\K x0 x1 x2
abbrev YO:Nat:=5
abbrev Rv:Nat:=6
abbrev Ri:Nat:=9
abbrev Gh:Nat:=10
abbrev Ky:Nat:=11
abbrev aIZ:Nat:=13
abbrev JP:Nat:=14
abbrev F7:Nat:=15
abbrev Kz:Nat:=16
abbrev Rj:Nat:=17
abbrev Kk:Nat:=18
abbrev Ds:Nat:=19
abbrev Bs:Nat:=21
abbrev Dn:Nat:=22
abbrev P6:Nat:=23
abbrev vH:Nat:=24
abbrev Dm:Nat:=25
abbrev Zg:Nat:=26
abbrev Zr:Nat:=27
abbrev aJ6:Nat:=28
abbrev Y5:Nat:=29
abbrev Y6:Nat:=30
abbrev Zs:Nat:=31
abbrev F3:Nat:=32
abbrev Y7:Nat:=33
abbrev Zh:Nat:=34
abbrev Zt:Nat:=35
abbrev Y8:Nat:=36
abbrev Yq:Nat:=37
abbrev Yy:Nat:=38
abbrev lR:Nat:=40
abbrev JM:Nat:=41
abbrev KA:Nat:=42
abbrev uc:Nat:=43
abbrev JV:Nat:=44
abbrev JW:Nat:=45
abbrev vI:Nat:=46
abbrev OO:Nat:=47
abbrev Di:Nat:=48
abbrev JQ:Nat:=49
abbrev Rk:Nat:=50
abbrev aKT:Nat:=51
abbrev QV:Nat:=52
abbrev J7:Nat:=53
abbrev JN:Nat:=54
abbrev rQ:Nat:=55
abbrev FO:Nat:=56
abbrev YP:Nat:=57
abbrev YF:Nat:=58
abbrev Kl:Nat:=59
abbrev YG:Nat:=60
abbrev Y9:Nat:=61
abbrev Yz:Nat:=62
abbrev YQ:Nat:=63
abbrev Yr:Nat:=64
abbrev YH:Nat:=65
abbrev YR:Nat:=66
abbrev Yk:Nat:=67
abbrev YS:Nat:=68
abbrev O8:Nat:=69
abbrev amU:Nat:=70
abbrev Qh:Nat:=71
abbrev Qv:Nat:=72
abbrev wY:Nat:=73
abbrev aKO:Nat:=74
abbrev alq:Nat:=75
abbrev Px:Nat:=76
abbrev QW:Nat:=79
abbrev Kt:Nat:=82
abbrev Dv:Nat:=83
abbrev QX:Nat:=86
abbrev Ki:Nat:=87
abbrev Bt:Nat:=88
abbrev amV:Nat:=89
abbrev Jq:Nat:=91
abbrev OL:Nat:=92
abbrev QL:Nat:=93
abbrev OY:Nat:=94
abbrev zw:Nat:=95
abbrev ajq:Nat:=96
abbrev Xu:Nat:=97
abbrev QM:Nat:=100
abbrev Jo:Nat:=102
abbrev JX:Nat:=104
abbrev akr:Nat:=107
abbrev Js:Nat:=108
abbrev Qw:Nat:=109
abbrev JY:Nat:=110
abbrev JC:Nat:=111
abbrev Qi:Nat:=112
abbrev FE:Nat:=113
abbrev PL:Nat:=114
abbrev FF:Nat:=115
abbrev Db:Nat:=116
abbrev JE:Nat:=117
abbrev JF:Nat:=118
abbrev Pd:Nat:=119
abbrev QY:Nat:=120
abbrev O4:Nat:=121
abbrev aJ5:Nat:=123
abbrev oA:Nat:=124
abbrev Pe:Nat:=125
abbrev JO:Nat:=126
abbrev O9:Nat:=127
abbrev PM:Nat:=128
abbrev aJX:Nat:=129
abbrev PN:Nat:=130
abbrev Py:Nat:=131
abbrev vE:Nat:=132
abbrev sY:Nat:=133
abbrev O5:Nat:=134
abbrev amE:Nat:=135
abbrev XL:Nat:=136
abbrev XM:Nat:=137
abbrev ajk:Nat:=143
abbrev aJ_:Nat:=144
abbrev aJ2:Nat:=145
abbrev FB:Nat:=147
abbrev Gc:Nat:=148
abbrev RG:Nat:=150
abbrev akO:Nat:=151
abbrev amW:Nat:=155
abbrev Fq:Nat:=156
abbrev YI:Nat:=158
abbrev alI:Nat:=161
abbrev XN:Nat:=163
abbrev Bu:Nat:=165
abbrev Ku:Nat:=166
abbrev FR:Nat:=167
abbrev Fv:Nat:=168
abbrev FC:Nat:=169
abbrev Dj:Nat:=170
abbrev aKQ:Nat:=171
abbrev JG:Nat:=172
abbrev Pf:Nat:=173
abbrev P7:Nat:=174
abbrev P8:Nat:=175
abbrev Dk:Nat:=176
abbrev Jv:Nat:=177
abbrev J2:Nat:=178
abbrev P9:Nat:=179
abbrev P_:Nat:=181
abbrev JR:Nat:=184
abbrev Pq:Nat:=186
abbrev Xw:Nat:=188
abbrev QZ:Nat:=189
abbrev xd:Nat:=191
abbrev wZ:Nat:=192
abbrev aJZ:Nat:=193
abbrev J8:Nat:=194
abbrev PO:Nat:=195
abbrev aJ0:Nat:=196
abbrev qN:Nat:=197
abbrev Kv:Nat:=200
abbrev KB:Nat:=201
abbrev Km:Nat:=203
abbrev PA:Nat:=204
abbrev aKD:Nat:=205
abbrev Q_:Nat:=206
abbrev Q0:Nat:=207
abbrev Rm:Nat:=208
abbrev Qx:Nat:=224
abbrev OM:Nat:=230
abbrev Dr:Nat:=231
abbrev OP:Nat:=232
abbrev OQ:Nat:=233
abbrev Pg:Nat:=234
abbrev Jw:Nat:=235
abbrev FT:Nat:=236
abbrev Df:Nat:=237
abbrev JH:Nat:=238
abbrev Rn:Nat:=239
abbrev aKP:Nat:=241
abbrev Qa:Nat:=242
abbrev JI:Nat:=243
abbrev J9:Nat:=244
abbrev JS:Nat:=245
abbrev FK:Nat:=246
abbrev qT:Nat:=247
abbrev FP:Nat:=248
abbrev kg:Nat:=249
abbrev Ye:Nat:=250
abbrev QG:Nat:=251
abbrev Qy:Nat:=252
abbrev OF:Nat:=253
abbrev PB:Nat:=255
abbrev Dc:Nat:=256
abbrev FU:Nat:=257
abbrev PR:Nat:=258
abbrev Q1:Nat:=259
abbrev amh:Nat:=260
abbrev alr:Nat:=261
abbrev Bm:Nat:=266
abbrev Jx:Nat:=267
abbrev Bv:Nat:=269
abbrev OG:Nat:=270
abbrev Bw:Nat:=271
abbrev ami:Nat:=272
abbrev ant:Nat:=273
abbrev Qj:Nat:=274
abbrev OR:Nat:=275
abbrev JZ:Nat:=289
abbrev OZ:Nat:=290
abbrev PC:Nat:=291
abbrev aKR:Nat:=292
abbrev Qz:Nat:=296
abbrev KC:Nat:=298
abbrev QN:Nat:=299
abbrev PD:Nat:=300
abbrev OT:Nat:=301
abbrev Rw:Nat:=302
abbrev XO:Nat:=303
abbrev akP:Nat:=305
abbrev ajZ:Nat:=306
abbrev ajy:Nat:=307
abbrev ajR:Nat:=308
abbrev alJ:Nat:=309
abbrev ak_:Nat:=310
abbrev aks:Nat:=311
abbrev als:Nat:=312
abbrev alu:Nat:=313
abbrev al2:Nat:=314
abbrev amj:Nat:=315
abbrev al3:Nat:=316
abbrev alK:Nat:=317
abbrev alL:Nat:=318
abbrev RH:Nat:=321
abbrev Q2:Nat:=322
abbrev Qk:Nat:=323
abbrev F8:Nat:=324
abbrev PE:Nat:=325
abbrev Ra:Nat:=326
abbrev J3:Nat:=327
abbrev OH:Nat:=328
abbrev OK:Nat:=329
abbrev aJ8:Nat:=330
abbrev OI:Nat:=331
abbrev Rb:Nat:=332
abbrev QH:Nat:=333
abbrev qQ:Nat:=334
abbrev KD:Nat:=335
abbrev Ro:Nat:=336
abbrev QI:Nat:=337
abbrev Ql:Nat:=338
abbrev Rp:Nat:=339
abbrev alM:Nat:=343
abbrev ala:Nat:=344
abbrev akQ:Nat:=345
abbrev aLk:Nat:=346
abbrev PT:Nat:=347
abbrev alb:Nat:=348
abbrev Ju:Nat:=349
abbrev Fy:Nat:=350
abbrev aj0:Nat:=351
abbrev Pu:Nat:=352
abbrev Xv:Nat:=355
abbrev OU:Nat:=362
abbrev Jr:Nat:=363
abbrev Kn:Nat:=367
abbrev PF:Nat:=368
abbrev Pv:Nat:=369
abbrev Bn:Nat:=370
abbrev Xz:Nat:=371
abbrev J4:Nat:=372
abbrev J0:Nat:=373
abbrev Rc:Nat:=374
abbrev Dt:Nat:=375
abbrev J_:Nat:=386
abbrev FV:Nat:=391
abbrev YT:Nat:=392
abbrev YU:Nat:=393
abbrev YV:Nat:=394
abbrev YW:Nat:=395
abbrev Yt:Nat:=396
abbrev Yu:Nat:=397
abbrev Yv:Nat:=398
abbrev Yw:Nat:=399
abbrev FZ:Nat:=400
abbrev Yx:Nat:=401
abbrev Yf:Nat:=402
abbrev YJ:Nat:=403
abbrev YK:Nat:=404
abbrev X8:Nat:=405
abbrev QO:Nat:=406
abbrev ON:Nat:=407
abbrev Rq:Nat:=408
abbrev PU:Nat:=409
abbrev QA:Nat:=410
abbrev Kw:Nat:=411
abbrev Fp:Nat:=412
abbrev QS:Nat:=413
abbrev Qm:Nat:=414
abbrev Ka:Nat:=418
abbrev QJ:Nat:=419
abbrev Qn:Nat:=420
abbrev PG:Nat:=421
abbrev PV:Nat:=422
abbrev PW:Nat:=424
abbrev Dd:Nat:=425
abbrev O2:Nat:=427
abbrev Fu:Nat:=431
abbrev ajm:Nat:=432
abbrev Ph:Nat:=433
abbrev JJ:Nat:=436
abbrev Fz:Nat:=437
abbrev FW:Nat:=438
abbrev Kb:Nat:=439
abbrev Pj:Nat:=440
abbrev Pk:Nat:=441
abbrev PX:Nat:=442
abbrev Qo:Nat:=443
abbrev Qp:Nat:=444
abbrev QT:Nat:=445
abbrev Fs:Nat:=446
abbrev Kc:Nat:=452
abbrev Ke:Nat:=463
abbrev Jn:Nat:=466
abbrev Kj:Nat:=474
abbrev Yg:Nat:=475
abbrev Q3:Nat:=476
abbrev Q4:Nat:=477
abbrev aIX:Nat:=478
abbrev KE:Nat:=479
abbrev aKC:Nat:=480
abbrev Da:Nat:=481
abbrev aj1:Nat:=482
abbrev akt:Nat:=483
abbrev aj2:Nat:=484
abbrev akR:Nat:=485
abbrev ajS:Nat:=486
abbrev Pm:Nat:=487
abbrev PY:Nat:=490
abbrev Re:Nat:=501
abbrev XI:Nat:=502
abbrev aKU:Nat:=503
abbrev Ko:Nat:=504
abbrev J5:Nat:=512
abbrev PZ:Nat:=513
abbrev PI:Nat:=514
abbrev Qb:Nat:=515
abbrev pg:Nat:=516
abbrev Qc:Nat:=517
abbrev KF:Nat:=518
abbrev KP:Nat:=519
abbrev Kp:Nat:=521
abbrev DB:Nat:=25
abbrev KQ:Nat:=66
abbrev qS:Nat:=95
abbrev F5:Nat:=97
abbrev aHV:Nat:=100
abbrev aj3:Nat:=175
abbrev QB:Nat:=176
abbrev F4:Nat:=178
abbrev amX:Nat:=191
abbrev qU:Nat:=236
abbrev amY:Nat:=439
def aW{P:Program}{f:FuncId}{fn:Func}{c:Code}{args:List Value}{w:World}{R:Ending->World->Prop}{C:Prop}(l:List (Nat×List (Nat×Ty)))(d:List (Nat×Mn))(hf:P.funcs[f]?=some fn)(hb:fn.body=some c)(h:C)(e:C=vc P ⟨l,d,[]⟩ c 1 (lT P fn.results.toList R) (nS fn.ntmps args) w:=by kernel_rfl):Calls P f ⟨args⟩ w R:=
 aHs ⟨l,d,[]⟩ hf hb (Eq.mp e h)
variable(w:zW)(R:zE)
def amk(l:zO)(lL lC:Nat)(aC:aHi Rv [] w R λr w1=>aq (! r) (zR R (zB false) w1) (zM w1 [zS [97],zS [98],zS [120,32,121],zS [46,104],zS [42],zS [99,49],zS [90],zS [97,45,98],zS [113,39,114],zS [101]] 9 λw2=>VL [] 0 w2 λxI m s i w3=>jZ (λxJ=>gQ (λaHc=>aq (decide (i<(lL:Int))) (aHc (decide (i<10)) w3) (aHc false w3)) λx w4=>aq x (xJ w4) (VK Gh [zS s,zS []] w4 R λr1 F6 Gi Gj vY vW vX HO G8 GK GL G9 GM GN HP Hq Hr G_ w5=>zX w5 [zI 0,zS [],zS [],zN,zS [],zN,zN,zI 0,zI 0,zI 0,zI 0] 39 [zI F6,zS Gi,zS Gj,zL vY vW vX,zS HO,zL G8 GK GL,zL G9 GM GN,zI HP,zI Hq,zI Hr,zI G_] λw7=>aq r1.isNone (zR R (zB false) w7) (aHy JP [zP r1,zS []] w7 R λr2 rL rC w8=>VL [] 0 w8 λlJ m1 want i1 w9=>aq (decide (i1<(rL:Int))) (zD i1 rL (aE r2 (λa=>bE w9 (a.add (Int.toNat i1*1)) λv=>0<=(0:Int)/\∃b:UInt8,v[Int.toNat 0]?=some b/\aq (! decide ((b.toNat:Int)=46)) (zD i1 rL (aE r2 (λa1=>bE w9 (a1.add (Int.toNat i1*1)) λv1=>want.length+v1.length<=9223372036854775807/\(want++v1).length+([10]:zT).length<=9223372036854775807/\lJ ((want++v1)++[10]) (i64.wrap (i1+1)) w9/\m1 ((want++v1)++[10]) (i64.wrap (i1+1)) w9<m1 want i1 w9))) (lJ want (i64.wrap (i1+1)) w9/\m1 want (i64.wrap (i1+1)) w9<m1 want i1 w9)))) (Ij (λgI=>aq (decide (want=[])) (gI [42,10] w9) (gI want w9)) λUn aP=>s.length+([102,111,114,32,102,32,105,110,32,42,59,32,100,111,32,101,99,104,111,32,34,36,102,34,59,32,100,111,110,101]:zT).length<=9223372036854775807/\VK Gh [zS (s++[102,111,114,32,102,32,105,110,32,42,59,32,100,111,32,101,99,104,111,32,34,36,102,34,59,32,100,111,110,101]),zS []] aP R λr3 anP apm apn TT Te Tf ayA av3 auk aul av4 aum aun ayB axm axn av5 bg=>zX bg [zI 0,zS [],zS [],zN,zS [],zN,zN,zI 0,zI 0,zI 0,zI 0] 39 [zI anP,zS apm,zS apn,zL TT Te Tf,zS ayA,zL av3 auk aul,zL av4 aum aun,zI ayB,zI axm,zI axn,zI av5] λaHa=>s.length+([108,115]:zT).length<=9223372036854775807/\VK Gh [zS (s++[108,115]),zS []] aHa R λr4 anQ apo apq axo av6 av7 ayC av8 auo aup av9 auq aur ayD axp axq av_ bR=>zX bR [zI 0,zS [],zS [],zN,zS [],zN,zN,zI 0,zI 0,zI 0,zI 0] 39 [zI anQ,zS apo,zS apq,zL axo av6 av7,zS ayC,zL av8 auo aup,zL av9 auq aur,zI ayD,zI axp,zI axq,zI av_] λbX=>aq r (yT bX bg.heap.size λfQ pN pO=>aq ((decide (fQ=0))&&((decide (pN=Un))&&((decide (pO=[]))&&true))) (aq (decide (Un=[42,10])) (zR R (zB true) bX) (bE bX (zA bR 1) λv2=>zR R (zB (decide (v2=Un))) bX)) (zR R (zB false) bX)) (zR R (zB false) bX))))) λcF=>s.length+([101,99,104,111,32,62,32]:zT).length<=9223372036854775807/\zD i lL (aE l (λa2=>zd3 cF (a2.add (Int.toNat i*1)) λv3=>(10:Int)≠0/\zD (Int.tmod (i64.wrap v3) 10) 10 (bE cF ((zA w1 0).add (Int.toNat (Int.tmod (i64.wrap v3) 10)*1)) λv4=>zM cF [zI 0,zB true,zS v4,zS [],zS [],zN] 51 λdI=>cQ aIZ [zL (some (zA cF 0)) 1 1] dI R λr5 aHr=>(s++[101,99,104,111,32,62,32]).length+r5.length<=9223372036854775807/\((s++[101,99,104,111,32,62,32])++r5).length+([10]:zT).length<=9223372036854775807/\xI (((s++[101,99,104,111,32,62,32])++r5)++[10]) (i64.wrap (i+1)) aHr/\m (((s++[101,99,104,111,32,62,32])++r5)++[10]) (i64.wrap (i+1)) aHr<m s i w3))))):an YO #[zL l lL lC] w R:=
 aW [(506,[(5,(.leaf .str)),(6,(.leaf (.int .i64)))]),(1012,[]),(2024,[(27,(.leaf .bool))]),(16378,[(9,(.leaf .str)),(11,(.leaf (.int .i64)))]),(4095,[(9,(.leaf .str))])] [] Tryz.func5 rfl aC
def anu(aC:lI F7 [] w R λr w1=>aq r.isNone (zR R (zB false) w1) (zK7 Kz [zP r,zS [101,99,104,111,32,39,97,32,98,39,32,124,32,115,111,114,116,32,62,32,102,59,32,99,97,116,32,102],.agg #[zS [],zI 0,zN,zN,zS [],zI 20,zB false,zN]] w1 R λF6 Gi Gj vY vW vX HO G8 GK GL G9 GM GN HP Hq Hr G_ w2=>zX w2 [zI 0,zS [],zS [],zN,zS [],zN,zN,zI 0,zI 0,zI 0,zI 0] 39 [zI F6,zS Gi,zS Gj,zL vY vW vX,zS HO,zL G8 GK GL,zL G9 GM GN,zI HP,zI Hq,zI Hr,zI G_] λw4=>zK2 Ri [zS [50,42,51],zN] w4 R λr1 r2 rL rC r3 w5=>Nx Rj [zI 9] w5 R λr4 r5 w6=>zK9 Kk [zS [97]] w6 R λcM k6 rName kV kS kT kP kN kO kU kQ kR k7 kY kZ aHP kW kX r6 w7=>zX w7 [zI 0,zB false,zS [],zN,zN,zN,zN,zN] 66 [zI cM,zB k6,zS rName,zL kV kS kT,zL kP kN kO,zL kU kQ kR,zL k7 kY kZ,zL aHP kW kX] λw9=>zM w9 [zS [101,99,104,111]] 9 λaP=>Cv Ky [zL (some (zA w9 0)) 1 1,zS []] aP R λmF qp qq r7 bg=>zX bg [zI 0,zS [],zS []] 35 [zI mF,zS qp,zS qq] λaHa=>yT aHa w2.heap.size λfQ pN pO=>aq ((decide (fQ=0))&&((decide (pN=[97,32,98,10]))&&((decide (pO=[]))&&true))) (aq (decide (r1=6)) (aq (decide (r3=0)) (aq (! r4.isNone) (aq (decide (r5=0)) (aq (decide (r6=0)) (aHF aHa w7.heap.size λbZ eH b_ aHq aHo eu aHm aHk aHl aHp eo aHn eL eD eE eF eA eB=>cQ Ds [.agg #[zI bZ,zB eH,zS b_,zL aHq aHo eu,zL aHm aHk aHl,zL aHp eo aHn,zL eL eD eE,zL eF eA eB]] aHa R λr8 bR=>aq (decide (r8=[97])) (bE bR (zA bg 1) λv=>aq (decide (v=[10])) (zM bR [zI 0,zB true,zS [97],zS [],zS [],zN] 51 λct=>cQ aIZ [zL (some (zA bR 0)) 1 1] ct R λr9 bX=>zR R (zB (decide (r9=[39,97,39]))) bX) (zR R (zB false) bR)) (zR R (zB false) bR)) (zR R (zB false) aHa)) (zR R (zB false) aHa)) (zR R (zB false) aHa)) (zR R (zB false) aHa)) (zR R (zB false) aHa)) (zR R (zB false) aHa))):an Rv #[] w R:=
 aW [] [] Tryz.func6 rfl aC
def amZ(s:zT)(l:zO)(lL lC:Nat)(aC:zM w [zI 0] 3 λw1=>zM w1 [zN] 27 λw2=>zM w2 [zI 0] 28 λw3=>zM w3 [zS s] 72 λw4=>an Dn #[zP (some (Addr.mk w3.heap.size 0 none))] w4 (λed w5=>(∃r:zT,ed=.returned (zS r)/\bE w5 (Addr.mk w3.heap.size 0 none) λv=>aq (decide (v=[])) (False) (an P6 #[zP (some (Addr.mk w3.heap.size 0 none)),zI 1] w5 (λdm w6=>(∃r1:zO,dm=.returned (zP r1)/\an Dn #[zP (some (Addr.mk w3.heap.size 0 none))] w6 (λgd w7=>(∃r2:zT,gd=.returned (zS r2)/\bE w7 (Addr.mk w3.heap.size 0 none) λv1=>an vH #[zB (decide (v1=[])),zI 130] w7 (λaHM w8=>(aHM=.returned (.tuple #[])/\zM w8 [zL l lL lC] 79 λw9=>an Dm #[zP (some (Addr.mk w8.heap.size 0 none)),zP r1] w9 (λic aP=>(∃r3:Int,ic=.returned (zI r3)/\zC (Addr.mk w.heap.size 0 none) aP [zI r3] λbg=>zH bg.drew λSw=>aIp Sw (Addr.mk w.heap.size 0 none) λv2=>j0 Sw (Addr.mk w8.heap.size 0 none) λv3 vL vC=>zC (Addr.mk w.heap.size 0 none) bg.drew [zI v2] λbI=>Sw bI/\zC (Addr.mk w1.heap.size 0 none) bI [zL v3 vL vC] λaHa=>zC (Addr.mk w2.heap.size 0 none) aHa [zI 0] λbR=>CallsD aL Bs #[zP (some (Addr.mk w.heap.size 0 none)),zP (some (Addr.mk w1.heap.size 0 none)),zP (some (Addr.mk w2.heap.size 0 none))] .returning bR (λaHY ux ct=>(∃rv,aHY=.returned rv)/\settle ux=.returning/\bU ct (Addr.mk w.heap.size 0 none) λv4=>cg ct (Addr.mk w1.heap.size 0 none) λv5 cJ dZ=>bU ct (Addr.mk w2.heap.size 0 none) λv6=>zR R (.tuple #[zI v4,zL v5 cJ dZ,zI v6]) ct))\/(∃ru,ic=.panicked ru/\CallsD aL Bs #[zP (some (Addr.mk w.heap.size 0 none)),zP (some (Addr.mk w1.heap.size 0 none)),zP (some (Addr.mk w2.heap.size 0 none))] (.panicking ru) aP (λaIS sH bX=>(∃sI,aIS=.returned sI)/\settle sH=.returning/\bU bX (Addr.mk w.heap.size 0 none) λv7=>cg bX (Addr.mk w1.heap.size 0 none) λv8 lK aIa=>bU bX (Addr.mk w2.heap.size 0 none) λv9=>zR R (.tuple #[zI v7,zL v8 lK aIa,zI v9]) bX))))\/(∃oS,aHM=.panicked oS/\CallsD aL Bs #[zP (some (Addr.mk w.heap.size 0 none)),zP (some (Addr.mk w1.heap.size 0 none)),zP (some (Addr.mk w2.heap.size 0 none))] (.panicking oS) w8 (λu9 u_ cF=>(∃aJe,u9=.returned aJe)/\settle u_=.returning/\bU cF (Addr.mk w.heap.size 0 none) λv10=>cg cF (Addr.mk w1.heap.size 0 none) λv11 lM ry=>bU cF (Addr.mk w2.heap.size 0 none) λv12=>zR R (.tuple #[zI v10,zL v11 lM ry,zI v12]) cF))))\/(∃lN,gd=.panicked lN/\CallsD aL Bs #[zP (some (Addr.mk w.heap.size 0 none)),zP (some (Addr.mk w1.heap.size 0 none)),zP (some (Addr.mk w2.heap.size 0 none))] (.panicking lN) w7 (λAO Cz dI=>(∃CA,AO=.returned CA)/\settle Cz=.returning/\bU dI (Addr.mk w.heap.size 0 none) λoT=>cg dI (Addr.mk w1.heap.size 0 none) λoU CB Il=>bU dI (Addr.mk w2.heap.size 0 none) λtL=>zR R (.tuple #[zI oT,zL oU CB Il,zI tL]) dI))))\/(∃aHD,dm=.panicked aHD/\CallsD aL Bs #[zP (some (Addr.mk w.heap.size 0 none)),zP (some (Addr.mk w1.heap.size 0 none)),zP (some (Addr.mk w2.heap.size 0 none))] (.panicking aHD) w6 (λAP CC aHr=>(∃CD,AP=.returned CD)/\settle CC=.returning/\bU aHr (Addr.mk w.heap.size 0 none) λyV=>cg aHr (Addr.mk w1.heap.size 0 none) λCE aIq CF=>bU aHr (Addr.mk w2.heap.size 0 none) λCG=>zR R (.tuple #[zI yV,zL CE aIq CF,zI CG]) aHr)))))\/(∃ch,ed=.panicked ch/\CallsD aL Bs #[zP (some (Addr.mk w.heap.size 0 none)),zP (some (Addr.mk w1.heap.size 0 none)),zP (some (Addr.mk w2.heap.size 0 none))] (.panicking ch) w5 (λEm Im gR=>(∃Io,Em=.returned Io)/\settle Im=.returning/\bU gR (Addr.mk w.heap.size 0 none) λAQ=>cg gR (Addr.mk w1.heap.size 0 none) λv20 EI Ip=>bU gR (Addr.mk w2.heap.size 0 none) λv21=>zR R (.tuple #[zI AQ,zL v20 EI Ip,zI v21]) gR)))):an Ri #[zS s,zL l lL lC] w R:=
 aJm {live:=[],c_:=[(11,.held)],ef:=[250]} Tryz.func9 rfl (Eq.mp (by kernel_rfl) aC)
def aod(script gS:zT)(aC:zM w [zI 0,zS [],zS [],zN,zS [],zN,zN,zI 0,zI 0,zI 0,zI 0] 39 λw1=>lI F7 [] w1 R λr w2=>aq r.isNone (False) (zK7 Kz [zP r,zS script,.agg #[zS [],zI 0,zN,zN,zS gS,zI 120,zB false,zN]] w2 R λF6 Gi Gj vY vW vX HO G8 GK GL G9 GM GN HP Hq Hr G_ w3=>zC (zA w 0) w3 [zI F6,zS Gi,zS Gj,zL vY vW vX,zS HO,zL G8 GK GL,zL G9 GM GN,zI HP,zI Hq,zI Hr,zI G_] λw4=>zs2 w4 w.heap.size λKG KY KZ kA ki kj MW aKJ LC LD L2 LF LG MX Mp Mq L3=>zR R (.tuple #[zP r,.agg #[zI KG,zS KY,zS KZ,zL kA ki kj,zS MW,zL aKJ LC LD,zL L2 LF LG,zI MX,zI Mp,zI Mq,zI L3]]) w4)):an Gh #[zS script,zS gS] w R:=
 aHs {live:=[],c_:=[],ef:=[58]} Tryz.func10 rfl (Eq.mp (by kernel_rfl) aC)
def am0(argv:zO)(pL uH:Nat)(gS:zT)(aC:zM w [zI 0,zS [],zS []] 35 λw1=>cP (w1.alloc (.map #[] 0)) (λw2=>dN aL 81 (.map (some w1.heap.size)) (zS [116,114,117,101]) (.func (.func Zg) #[] #[]) w2 (λw3=>dN aL 81 (.map (some w1.heap.size)) (zS [102,97,108,115,101]) (.func (.func Zr) #[] #[]) w3 (λw4=>dN aL 81 (.map (some w1.heap.size)) (zS [101,99,104,111]) (.func (.func aJ6) #[] #[]) w4 (λw5=>dN aL 81 (.map (some w1.heap.size)) (zS [104,101,97,100]) (.func (.func Y5) #[] #[]) w5 (λw6=>dN aL 81 (.map (some w1.heap.size)) (zS [116,97,105,108]) (.func (.func Y6) #[] #[]) w6 (λw7=>dN aL 81 (.map (some w1.heap.size)) (zS [119,99]) (.func (.func Zs) #[] #[]) w7 (λw8=>dN aL 81 (.map (some w1.heap.size)) (zS [115,111,114,116]) (.func (.func F3) #[] #[]) w8 (λw9=>dN aL 81 (.map (some w1.heap.size)) (zS [117,110,105,113]) (.func (.func Y7) #[] #[]) w9 (λaP=>dN aL 81 (.map (some w1.heap.size)) (zS [99,117,116]) (.func (.func Zh) #[] #[]) aP (λbg=>dN aL 81 (.map (some w1.heap.size)) (zS [116,114]) (.func (.func Zt) #[] #[]) bg (λbI=>dN aL 81 (.map (some w1.heap.size)) (zS [103,114,101,112]) (.func (.func Y8) #[] #[]) bI (λaHa=>dN aL 81 (.map (some w1.heap.size)) (zS [98,97,115,101,110,97,109,101]) (.func (.func Yq) #[] #[]) aHa (λbR=>dN aL 81 (.map (some w1.heap.size)) (zS [100,105,114,110,97,109,101]) (.func (.func Yy) #[] #[]) bR (λct=>aq (decide ((pL:Int)=0)) (False) (zD 0 pL (aE argv (λa=>bE ct (a.add (Int.toNat 0*1)) λv=>x_ aL 81 (.map (some w1.heap.size)) (zS v) ct (λlv ok=>aq (! ok) (False) (0<=(1:Int)/\(1:Int)<=(pL:Nat)/\gj lv (λg first cap=>aq (cY aL g) (an g ⟨first++([zL (if uH=Int.toNat 1 then argv else Option.map (·.add (Int.toNat 1*1)) argv) (pL-Int.toNat 1) (uH-Int.toNat 1),zS gS]++cap)⟩ ct (λed bX=>(∃(mF:Int)(qp:zT)(qq:zT)(r:Bool),ed=.returned (.tuple #[.agg #[zI mF,zS qp,zS qq],zB r])/\zX bX [zI 0,zS [],zS []] 35 [zI mF,zS qp,zS qq] λdI=>aq (! r) (False) (yT dI bX.heap.size λfQ pN pO=>zC (zA w 0) dI [zI fQ,zS pN,zS pO] λaHr=>yT aHr w.heap.size λqZ Mr Ms=>zR R (.tuple #[.agg #[zI qZ,zS Mr,zS Ms],zB true]) aHr))\/(∃ch,ed=.panicked ch/\R (.panicked ch) bX))) False))))))))))))))))))))):an Ky #[zL argv pL uH,zS gS] w R:=
 aHs {live:=[],c_:=[],ef:=[58,250,1018]} Tryz.func11 rfl (Eq.mp (by kernel_rfl) aC)
def am1(l:zO)(lL lC:Nat)(aC:zM w [zP none,zN] 86 λw1=>aHH 0 w1 λxI m x w2=>aq (decide (x<(lL:Int))) (jZ (λxJ=>zD x lL (aE l (λa=>Ny w2 (a.add (Int.toNat x*6)) λbZ mG jf b_ kF kB ko kr=>zX w2 [zI 0,zB false,zS [],zS [],zS [],zN] 51 [zI bZ,zB mG,zS jf,zS b_,zS kF,zL kB ko kr] λw4=>gQ (λaHc=>bU w4 (zA w2 0) λv=>aq (decide (v=0)) (aHI w4 (zA w2 1) λv1=>aHc v1 w4) (aHc false w4)) λx1 w5=>aq x1 (bE w5 (zA w2 2) λv2=>cQ JM [zS v2,zS [39],zS [39,92,39,39]] w5 R λr w6=>([39]:zT).length+r.length<=9223372036854775807/\(([39]:zT)++r).length+([39]:zT).length<=9223372036854775807/\zK lR [zP (some (zA w 0)),zS ((([39]:zT)++r)++[39])] w6 R λdm w7=>∃(r1:Int)(r2:Value),r2.oneCell'=true/\dm=.returned (.tuple #[zI r1,r2])/\xJ w7) (bU w5 (zA w2 0) λv3=>aq (decide (v3=0)) (bE w5 (zA w2 2) λv4=>zK lR [zP (some (zA w 0)),zS v4] w5 R λgd w8=>∃(r3:Int)(r4:Value),r4.oneCell'=true/\gd=.returned (.tuple #[zI r3,r4])/\xJ w8) (aHI w5 (zA w2 1) λv5=>aq v5 (Cw w5 w2.heap.size λeC GA aJc eP HQ He GO GP=>cQ KA [.agg #[zI eC,zB GA,zS aJc,zS eP,zS HQ,zL He GO GP]] w5 R λr5 w9=>([34]:zT).length+r5.length<=9223372036854775807/\(([34]:zT)++r5).length+([34]:zT).length<=9223372036854775807/\zK lR [zP (some (zA w 0)),zS ((([34]:zT)++r5)++[34])] w9 R λic aP=>∃(r6:Int)(r7:Value),r7.oneCell'=true/\ic=.returned (.tuple #[zI r6,r7])/\xJ aP) (Cw w5 w2.heap.size λoG SI BV mI UQ TU Tg Th=>cQ KA [.agg #[zI oG,zB SI,zS BV,zS mI,zS UQ,zL TU Tg Th]] w5 R λr8 bg=>zK lR [zP (some (zA w 0)),zS r8] bg R λaIS bI=>∃(r9:Int)(aHJ:Value),aHJ.oneCell'=true/\aIS=.returned (.tuple #[zI r9,aHJ])/\xJ bI)))))) λaHa=>xI (i64.wrap (x+1)) aHa/\m (i64.wrap (x+1)) aHa<m x w2) (cQ uc [zP (some (zA w 0))] w2 R λgJ bR=>zR R (zS gJ) bR)):an aIZ #[zL l lL lC] w R:=
 aW [(58,[(8,(.leaf (.int .i64)))]),(467,[]),(7474,[(15,(.leaf .bool))])] [] Tryz.func13 rfl aC
def akS(x:zO)(path:zT)(aC:bD JV [zP x,.agg #[zS path,zB true]] w R λw1=>aE x (λa=>aIQ w1 a λv=>aHy JW [v,zS path] w1 R λr rL rC w2=>zR R (zL r rL rC) w2)):an JP #[zP x,zS path] w R:=
 aW [] [] Tryz.func14 rfl aC
def anv(aC:cP (w.alloc (.map #[] 0)) (λw1=>zM w1 [.map (some w.heap.size),zP none] 100 λw2=>zR R (zP (some (zA w1 0))) w2)):an F7 #[] w R:=
 aW [] [] Tryz.func15 rfl aC
def am2(x:zO)(script af8:zT)(ael:Int)(uI:zO)(uy uz:Nat)(uJ:zO)(uA uB:Nat)(sIn:zT)(afd:Int)(adx:Bool)(aem:zO)(ady adz:Nat)(aC:zM w [zS af8,zI ael,zL uI uy uz,zL uJ uA uB,zS sIn,zI afd,zB adx,zL aem ady adz] 57 λw1=>zM w1 [zI 0,zS [],zS [],zN,zS [],zN,zN,zI 0,zI 0,zI 0,zI 0] 39 λw2=>Nz (λxJ=>zH w2.drew λSw=>aIp Sw (zA w 1) λv=>NA Sw (zA w 6) λv1=>aIp Sw (zA w 5) λv2=>aHu Sw (zA w 0) λv3=>aIp Sw (zA w 1) λv4=>aHu Sw (zA w 0) λv5=>aHu Sw (zA w 4) λv6=>(zM w2.drew [zP x,zI (bits .and .i64 v 7),zB v1,zI 0,zS [],zS [],zN,zS [],zN,zN,zI 0,zI 0,zI 0,zI 0,zI (if 0>v2 then 0 else v2),zP none,zN] 104 λw3=>Sw w3/\(lI vI [zP x,zS v3,zI v4] w3 R λr w4=>Sw w4/\cP (w4.alloc (.map #[] 0)) (λw5=>Sw w5/\zM w5 [zP (some (zA w2.drew 0)),zP r,zS v5,zN,zN,zI 0,.map (some w4.heap.size),zS v6,zS [],zI 0,zI 0,zI 0,zI 0,zI 0] 112 λw6=>xJ (some (zA w5 0)) w6))/\(cP (w3.alloc (.map #[] 0)) (λw7=>Sw w7/\lI vI [zP x,zS v3,zI v4] w7 R λr1 w8=>Sw w8/\zM w8 [zP (some (zA w2.drew 0)),zP r1,zS v5,zN,zN,zI 0,.map (some w3.heap.size),zS v6,zS [],zI 0,zI 0,zI 0,zI 0,zI 0] 112 λw9=>xJ (some (zA w8 0)) w9)))/\(lI vI [zP x,zS v3,zI v4] w2.drew R λr2 aP=>Sw aP/\(zM aP [zP x,zI (bits .and .i64 v 7),zB v1,zI 0,zS [],zS [],zN,zS [],zN,zN,zI 0,zI 0,zI 0,zI 0,zI (if 0>v2 then 0 else v2),zP none,zN] 104 λbg=>Sw bg/\cP (bg.alloc (.map #[] 0)) (λbI=>Sw bI/\zM bI [zP (some (zA aP 0)),zP r2,zS v5,zN,zN,zI 0,.map (some bg.heap.size),zS v6,zS [],zI 0,zI 0,zI 0,zI 0,zI 0] 112 λaHa=>xJ (some (zA bI 0)) aHa))/\(cP (aP.alloc (.map #[] 0)) (λbR=>Sw bR/\zM bR [zP x,zI (bits .and .i64 v 7),zB v1,zI 0,zS [],zS [],zN,zS [],zN,zN,zI 0,zI 0,zI 0,zI 0,zI (if 0>v2 then 0 else v2),zP none,zN] 104 λct=>Sw ct/\zM ct [zP (some (zA bR 0)),zP r2,zS v5,zN,zN,zI 0,.map (some aP.heap.size),zS v6,zS [],zI 0,zI 0,zI 0,zI 0,zI 0] 112 λbX=>xJ (some (zA ct 0)) bX)))/\(cP (w2.drew.alloc (.map #[] 0)) (λcF=>Sw cF/\(zM cF [zP x,zI (bits .and .i64 v 7),zB v1,zI 0,zS [],zS [],zN,zS [],zN,zN,zI 0,zI 0,zI 0,zI 0,zI (if 0>v2 then 0 else v2),zP none,zN] 104 λdI=>Sw dI/\lI vI [zP x,zS v3,zI v4] dI R λr3 aHr=>Sw aHr/\zM aHr [zP (some (zA cF 0)),zP r3,zS v5,zN,zN,zI 0,.map (some w2.drew.heap.size),zS v6,zS [],zI 0,zI 0,zI 0,zI 0,zI 0] 112 λgR=>xJ (some (zA aHr 0)) gR)/\(lI vI [zP x,zS v3,zI v4] cF R λr4 fN=>Sw fN/\zM fN [zP x,zI (bits .and .i64 v 7),zB v1,zI 0,zS [],zS [],zN,zS [],zN,zN,zI 0,zI 0,zI 0,zI 0,zI (if 0>v2 then 0 else v2),zP none,zN] 104 λju=>Sw ju/\zM ju [zP (some (zA fN 0)),zP r4,zS v5,zN,zN,zI 0,.map (some w2.drew.heap.size),zS v6,zS [],zI 0,zI 0,zI 0,zI 0,zI 0] 112 λtM=>xJ (some (zA ju 0)) tM)))) λh pS=>cg pS (zA w 2) λv7 vL vC=>cg pS (zA w 3) λv8 cJ dZ=>aE h (λa=>zC (a.add 3) pS [zL v7 vL vC,zL v8 cJ dZ,zI 0] λpT=>zH pT.drew λcu=>aE h (λa1=>fE cu a1 λv9=>j0 cu (zA w 7) λv10 lK aIa=>aHy OO [zL v10 lK aIa] pT.drew R λr5 rL rC CH=>cu CH/\aE v9 (λa2=>zC ((a2.add 3).add 6) CH [zL r5 rL rC] λrz=>zK9 Kk [zS script] rz R λcM k6 rName kV kS kT kP kN kO kU kQ kR k7 kY kZ aHP kW kX r6 pU=>zX pU [zI 0,zB false,zS [],zN,zN,zN,zN,zN] 66 [zI cM,zB k6,zS rName,zL kV kS kT,zL kP kN kO,zL kU kQ kR,zL k7 kY kZ,zL aHP kW kX] λnB=>jZ (λaHc=>aq (decide (r6=0)) (aHF nB pU.heap.size λbZ eH b_ aHq aHo eu aHm aHk aHl aHp eo aHn eL eD eE eF eA eB=>bD Di [zP h,.agg #[zI bZ,zB eH,zS b_,zL aHq aHo eu,zL aHm aHk aHl,zL aHp eo aHn,zL eL eD eE,zL eF eA eB]] nB R λwC=>aHc wC) (bD JQ [zP h,zS [115,104],zI r6] nB R λpV=>aE h (λa3=>cH pV a3 λv11=>aE h (λa4=>zC ((a4.add 3).add 2) pV [zI 2] λNG=>aE v11 (λa5=>zC ((a5.add 3).add 10) NG [zI r6] λNH=>aHc NH))))) λgT=>aE h (λa6=>cH gT a6 λv12=>aE v12 (λa7=>∃(KG:Int)(KY:zT)(KZ:zT)(kA:zO)(ki kj:Nat)(MW:zT)(aKJ:zO)(LC LD:Nat)(L2:zO)(LF LG:Nat)(MX:Int)(Mp:Int)(Mq:Int)(L3:Int),gT.cell? (a7.add 3)=some (zI KG)/\gT.cell? ((a7.add 3).add 1)=some (zS KY)/\gT.cell? ((a7.add 3).add 2)=some (zS KZ)/\gT.cell? ((a7.add 3).add 3)=some (zL kA ki kj)/\gT.cell? ((a7.add 3).add 4)=some (zS MW)/\gT.cell? ((a7.add 3).add 5)=some (zL aKJ LC LD)/\gT.cell? ((a7.add 3).add 6)=some (zL L2 LF LG)/\gT.cell? ((a7.add 3).add 7)=some (zI MX)/\gT.cell? ((a7.add 3).add 8)=some (zI Mp)/\gT.cell? ((a7.add 3).add 9)=some (zI Mq)/\gT.cell? ((a7.add 3).add 10)=some (zI L3)/\zX gT [zI 0,zS [],zS [],zN,zS [],zN,zN,zI 0,zI 0,zI 0,zI 0] 39 [zI KG,zS KY,zS KZ,zL kA ki kj,zS MW,zL aKJ LC LD,zL L2 LF LG,zI MX,zI Mp,zI Mq,zI L3] λEJ=>zH EJ.drew λaHN=>aE h (λa8=>aIp aHN ((a8.add 3).add 2) λoT=>aE h (λa9=>aHu aHN (a9.add 8) λoU=>aE h (λoV=>fE aHN oV λtL=>aE tL (λyW=>cQ uc [zP (some (yW.add 15))] EJ.drew R λr7 NI=>aHN NI/\zC (zA gT 0) NI [zI oT,zS oU,zS r7] λIq=>zH Iq.drew λyX=>aE h (λa12=>j0 yX (a12.add 3) λyV lM ry=>aE h (λVP=>aHu yX (VP.add 2) λCE=>aE h (λVQ=>fE yX VQ λCG=>aE CG (λVR=>aIp yX (VR.add 14) λAQ=>zC (zA gT 3) Iq.drew [zL yV lM ry] λVS=>yX VS/\zC (zA gT 4) VS [zS CE] λVT=>yX VT/\zC (zA gT 9) VT [zI AQ] λIr=>zs2 Ir gT.heap.size λanR apr aps uC aJa uu ayE awa aus aut awb auu auv ayF axr axt awc=>zC (zA w1 0) Ir [zI anR,zS apr,zS aps,zL uC aJa uu,zS ayE,zL awa aus aut,zL awb auu auv,zI ayF,zI axr,zI axt,zI awc] λNJ=>zs2 NJ w1.heap.size λanS apt apu Hf GQ GR ayG awd auw auy awe auz auA ayH axu axv awf=>zR R (.agg #[zI anS,zS apt,zS apu,zL Hf GQ GR,zS ayG,zL awd auw auy,zL awe auz auA,zI ayH,zI axu,zI axv,zI awf]) NJ)))))))))))))):an Kz #[zP x,zS script,.agg #[zS af8,zI ael,zL uI uy uz,zL uJ uA uB,zS sIn,zI afd,zB adx,zL aem ady adz]] w R:=
 aW [(3,[(7,(.leaf .ptr))]),(63,[])] [(1,.held),(3,.held),(10,.held),(11,.held)] Tryz.func16 rfl aC
def am3(adA:Int)(aC:Nx Rk [zI adA] w R λr r1 w1=>aq (! decide (r1=0)) (zR R (.tuple #[zP none,zI r1]) w1) (lI F7 [] w1 R λr2 w2=>lI aKT [zP r] w2 R λr3 w3=>zM w3 [zP r2,zP r,zP r3] 125 λw4=>zR R (.tuple #[zP (some (zA w3 0)),zI 0]) w4)):an Rj #[zI adA] w R:=
 aW [] [] Tryz.func17 rfl aC
def aml(s:zT)(aC:zM w [zI 0,zB false,zS [],zN,zN,zN,zN,zN] 66 λw1=>zM w1 [zI 0] 28 λw2=>AD QV [zS s] w2 R λr rL rC r1 w3=>zC (zA w1 0) w3 [zI r1] λw4=>bU w4 (zA w1 0) λv=>aq (! decide (v=0)) (zH w4.drew λSw=>aIp Sw (zA w1 0) λv1=>zC (zA w 0) w4.drew [zI 0,zB false,zS [],zN,zN,zN,zN,zN] λw5=>Sw w5/\zC (zA w1 0) w5 [zI v1] λw6=>aHF w6 w.heap.size λbZ eH b_ aHq aHo eu aHm aHk aHl aHp eo aHn eL eD eE eF eA eB=>bU w6 (zA w1 0) λv2=>zR R (.tuple #[.agg #[zI bZ,zB eH,zS b_,zL aHq aHo eu,zL aHm aHk aHl,zL aHp eo aHn,zL eL eD eE,zL eF eA eB],zI v2]) w6) (zM w4 [zL r rL rC] 131 λw7=>an JN #[zP (some (zA w4 0)),zI 1] w7 (λdm w8=>(∃(cM:Int)(k6:Bool)(rName:zT)(kV:zO)(kS kT:Nat)(kP:zO)(kN kO:Nat)(kU:zO)(kQ kR:Nat)(k7:zO)(kY kZ:Nat)(aHP:zO)(kW kX:Nat),dm=.returned (.agg #[zI cM,zB k6,zS rName,zL kV kS kT,zL kP kN kO,zL kU kQ kR,zL k7 kY kZ,zL aHP kW kX])/\zC (zA w 0) w8 [zI cM,zB k6,zS rName,zL kV kS kT,zL kP kN kO,zL kU kQ kR,zL k7 kY kZ,zL aHP kW kX] λw9=>cg w9 (zA w4 0) λv3 vL vC=>an rQ #[zB (decide ((vL:Int)=0))] w9 (λgd aP=>(gd=.returned (.tuple #[])/\aHF aP w.heap.size λeC iP eP iH iE iF iB iz iA iG iC iD iQ iK iL iM iI iJ=>zC (zA w 0) aP [zI eC,zB iP,zS eP,zL iH iE iF,zL iB iz iA,zL iG iC iD,zL iQ iK iL,zL iM iI iJ] λbg=>zC (zA w1 0) bg [zI 0] λbI=>CallsD aL J7 #[zP (some (zA w 0)),zP (some (zA w1 0))] .returning bI (λaHM ux aHa=>(∃rv,aHM=.returned rv)/\settle ux=.returning/\aHF aHa w.heap.size λoG yb mI aJH aJE aJF xm aJC xh xE xo xp yc xS xT xU xK aJI=>bU aHa (zA w1 0) λv4=>zR R (.tuple #[.agg #[zI oG,zB yb,zS mI,zL aJH aJE aJF,zL xm aJC xh,zL xE xo xp,zL yc xS xT,zL xU xK aJI],zI v4]) aHa))\/(∃lN,gd=.panicked lN/\CallsD aL J7 #[zP (some (zA w 0)),zP (some (zA w1 0))] (.panicking lN) aP (λic sH bR=>(∃sI,ic=.returned sI)/\settle sH=.returning/\aHF bR w.heap.size λxV yd uD xM xF xG xq xj xk xH xu xw ye xW xX xY xN xO=>bU bR (zA w1 0) λv5=>zR R (.tuple #[.agg #[zI xV,zB yd,zS uD,zL xM xF xG,zL xq xj xk,zL xH xu xw,zL ye xW xX,zL xY xN xO],zI v5]) bR))))\/(∃aHD,dm=.panicked aHD/\CallsD aL J7 #[zP (some (zA w 0)),zP (some (zA w1 0))] (.panicking aHD) w8 (λaHY u_ ct=>(∃aJe,aHY=.returned aJe)/\settle u_=.returning/\aHF ct w.heap.size λaxw ayI TV awg auB auC asp aqv aqw auD asq asr ayJ axx axy axz awh awi=>bU ct (zA w1 0) λv6=>zR R (.tuple #[.agg #[zI axw,zB ayI,zS TV,zL awg auB auC,zL asp aqv aqw,zL auD asq asr,zL ayJ axx axy,zL axz awh awi],zI v6]) ct))))):an Kk #[zS s] w R:=
 aJm {live:=[],c_:=[(3,.held)]} Tryz.func18 rfl (Eq.mp (by kernel_rfl) aC)
def al4(jM:Int)(jU:Bool)(jN:zT)(jI:zO)(jF jG:Nat)(jC:zO)(jA jB:Nat)(jH:zO)(jD jE:Nat)(jV:zO)(jO jP:Nat)(jQ:zO)(jJ jK:Nat)(aC:zM w [zI jM,zB jU,zS jN,zL jI jF jG,zL jC jA jB,zL jH jD jE,zL jV jO jP,zL jQ jJ jK] 66 λw1=>zX w1 [.nilFunc,.nilFunc,.nilFunc,.nilFunc,.nilFunc,.nilFunc,.nilFunc,.nilFunc,.nilFunc,.nilFunc,.nilFunc,.nilFunc] 134 [.func (.func FO) #[] #[],.func (.func YP) #[] #[],.func (.func YF) #[] #[],.func (.func Kl) #[] #[],.func (.func YG) #[] #[],.func (.func Y9) #[] #[],.func (.func Yz) #[] #[],.func (.func YQ) #[] #[],.func (.func Yr) #[] #[],.func (.func YH) #[] #[],.func (.func YR) #[] #[],.func (.func Yk) #[] #[]] λw3=>bU w3 (zA w 0) λv=>aq (decide (v<0)) (zR R (zS []) w3) (bU w3 (zA w 0) λv1=>aq (decide (12<=v1)) (zR R (zS []) w3) (zH w3.drew λSw=>aIp Sw (zA w 0) λv2=>zD v2 12 (yU Sw ((zA w1 0).add (Int.toNat v2*1)) λv3=>zs5 Sw w.heap.size λbZ eH b_ aHq aHo eu aHm aHk aHl aHp eo aHn eL eD eE eF eA eB=>gj v3 (λg first cap=>aq (cY aL g) (an g ⟨first++([.agg #[zI bZ,zB eH,zS b_,zL aHq aHo eu,zL aHm aHk aHl,zL aHp eo aHn,zL eL eD eE,zL eF eA eB]]++cap)⟩ w3.drew (λed w4=>(∃r:zT,ed=.returned (zS r)/\bU w4 (zA w 0) λv4=>aq (decide (4<=v4)) (bU w4 (zA w 0) λv5=>aq (decide (v5<=9)) (False) (zR R (zS r) w4)) (zR R (zS r) w4))\/(∃ch,ed=.panicked ch/\R (.panicked ch) w4))) False))))):an Ds #[.agg #[zI jM,zB jU,zS jN,zL jI jF jG,zL jC jA jB,zL jH jD jE,zL jV jO jP,zL jQ jJ jK]] w R:=
 aHs {live:=[],c_:=[(4,.held)],ef:=[250]} Tryz.func19 rfl (Eq.mp (by kernel_rfl) aC)
def alv(p:zO)(aC:aE p (λa=>bE w a λv=>cQ Qh [zS v,zS [32,9,10]] w R λr w1=>aE p (λa1=>zC a1 w1 [zS r] λw2=>aHy Qv [] w2 R λr1 rL rC w3=>aHH 0 w3 λxI m x w4=>aq (decide (x<(rL:Int))) (zD x rL (aE r1 (λa2=>bE w4 (a2.add (Int.toNat x*1)) λv1=>aE p (λa3=>bE w4 a3 λv2=>aHi wY [zS v2,zS v1] w4 R λr2 w5=>aq r2 (zR R (zS v1) w5) (xI (i64.wrap (x+1)) w5/\m (i64.wrap (x+1)) w5<m x w4))))) (zR R (zS []) w4)))):an Dn #[zP p] w R:=
 aW [(58,[(15,(.leaf (.int .i64)))])] [] Tryz.func22 rfl aC
def akT(p:zO)(depth:Int)(aC:bD vH [zB (decide (depth<=30)),zI 2] w R λw1=>azL aKO [zP p] w1 R λr r1 r2 w2=>aq r2 (False) (lI Px [zP p,zI depth] w2 R λr3 w3=>zR R (zP r3) w3)):an P6 #[zP p,zI depth] w R:=
 aHs {live:=[],c_:=[],ef:=[118]} Tryz.func23 rfl (Eq.mp (by kernel_rfl) aC)
def am4(ok:Bool)(ex:Int)(aC:aq (! ok) (R (.panicked [{v:=(.iface 28 (zI ex)),recovered:=false}]) w) (zR R (.tuple #[]) w)):an vH #[zB ok,zI ex] w R:=
 aW [] [] Tryz.func24 rfl aC
def XX(wo t:zO)(aC:aE t (λa=>bU w a λv=>aq (decide (v=1)) (False) (aq (decide (v=2)) (False) (aq (decide (v=3)) (aE t (λa1=>cg w (a1.add 4) λv1 vL vC=>zD 0 vL (aE v1 (λa2=>cH w (a2.add (Int.toNat 0*1)) λv2=>fR Dm [zP wo,zP v2] w R λr w1=>zH w1.drew λSw=>aE t (λa3=>aHu Sw (a3.add 2) λv3=>aE t (λa4=>j0 Sw (a4.add 4) λv4 cJ dZ=>zD 1 cJ (aE v4 (λa5=>fE Sw (a5.add (Int.toNat 1*1)) λv5=>fR Dm [zP wo,zP v5] w1.drew R λr1 w2=>Sw w2/\fR QW [zS v3,zI r,zI r1] w2 R λr2 w3=>zR R (zI r2) w3)))))))) (aq (decide (v=4)) (False) (aq (decide (v=5)) (False) (aq (decide (v=6)) (False) (aq (decide (v=7)) (False) (aE t (λa6=>bU w (a6.add 1) λv6=>zR R (zI v6) w)))))))))):an Dm #[zP wo,zP t] w R:=
 aHs {live:=[],c_:=[(8,.held)],ef:=[106,430,6910,27646,110590,442366]} Tryz.func25 rfl (Eq.mp (by kernel_rfl) aC)
def amF(args:zO)(aH2 aIy:Nat)(x:zT)(aC:zM w [zI 0,zS [],zS []] 35 λw1=>cQ Dv [zL args aH2 aIy,zS [32]] w1 R λr w2=>r.length+([10]:zT).length<=9223372036854775807/\Cv Kt [zS (r++[10])] w2 R λmF qp qq r1 w3=>zC (zA w 0) w3 [zI mF,zS qp,zS qq] λw4=>yT w4 w.heap.size λfQ pN pO=>zR R (.tuple #[.agg #[zI fQ,zS pN,zS pO],zB r1]) w4):an aJ6 #[zL args aH2 aIy,zS x] w R:=
 aW [] [] Tryz.func28 rfl aC
def amG(args:zO)(aH2 aIy:Nat)(gS:zT)(aC:zM w [zI 0,zS [],zS []] 35 λw1=>aHi OL [zL args aH2 aIy,.func (.func QL) #[] #[]] w1 R λr w2=>aq r (False) (aHy QX [zS gS] w2 R λr1 rL rC w3=>bD OY [zL r1 rL rC] w3 R λw4=>aKN (λxJ=>aHi zw [zL args aH2 aIy,zS [45,117]] w4 R λr2 w5=>aq r2 (aHy ajq [zL r1 rL rC] w5 R λr3 jv lX w6=>xJ r3 jv lX w6) (xJ r1 rL rC w5)) λl lL lC w7=>jZ (λaHc=>aHi zw [zL args aH2 aIy,zS [45,114]] w7 R λr4 w8=>aq r4 (bD Xu [zL l lL lC] w8 R λw9=>aHc w9) (aHc w8)) λaP=>cQ Ki [zL l lL lC] aP R λr5 bg=>Cv Kt [zS r5] bg R λmF qp qq r6 bI=>zC (zA w 0) bI [zI mF,zS qp,zS qq] λaHa=>yT aHa w.heap.size λfQ pN pO=>zR R (.tuple #[.agg #[zI fQ,zS pN,zS pO],zB r6]) aHa)):an F3 #[zL args aH2 aIy,zS gS] w R:=
 aHs {live:=[(31,[(6,(.leaf .slc))]),(63,[])],c_:=[],ef:=[26]} Tryz.func32 rfl (Eq.mp (by kernel_rfl) aC)
def Xr(b:zO)(s:zT)(aC:bD Js [zP b] w R λw1=>aE b (λa=>cg w1 (a.add 1) λv vL vC=>af0 w1 5 1 1 v vL vC s (λp cp w2=>aE b (λa2=>zC (a2.add 1) w2 [zL p (vL+s.length) cp] λw3=>zR R (.tuple #[zI (s.length:Int),.nilIface]) w3)))):an lR #[zP b,zS s] w R:=
 aW [] [] Tryz.func40 rfl aC
def aku(s old new:zT)(aC:cQ Qw [zS s,zS old,zS new,zI (-1)] w R λr w1=>zR R (zS r) w1):an JM #[zS s,zS old,zS new] w R:=
 aW [] [] Tryz.func41 rfl aC
def am5(oJ:Int)(oE:Bool)(oK oL oW:zT)(oM:zO)(oH oI:Nat)(aC:zM w [zI oJ,zB oE,zS oK,zS oL,zS oW,zL oM oH oI] 51 λw1=>bU w1 (zA w 0) λv=>aq (decide (v=2)) (bE w1 (zA w 2) λv1=>([36,40]:zT).length+v1.length<=9223372036854775807/\(([36,40]:zT)++v1).length+([41]:zT).length<=9223372036854775807/\zR R (zS ((([36,40]:zT)++v1)++[41])) w1) (aq (decide (v=3)) (bE w1 (zA w 2) λv2=>([36,40,40]:zT).length+v2.length<=9223372036854775807/\(([36,40,40]:zT)++v2).length+([41,41]:zT).length<=9223372036854775807/\zR R (zS ((([36,40,40]:zT)++v2)++[41,41])) w1) (aq (decide (v=1)) (bE w1 (zA w 4) λv3=>aq (decide (v3=[108,101,110])) (bE w1 (zA w 3) λv4=>([36,123,35]:zT).length+v4.length<=9223372036854775807/\(([36,123,35]:zT)++v4).length+([125]:zT).length<=9223372036854775807/\zR R (zS ((([36,123,35]:zT)++v4)++[125])) w1) (zH w1.drew λSw=>aHu Sw (zA w 3) λv5=>([36,123]:zT).length+v5.length<=9223372036854775807/\aHu Sw (zA w 4) λv6=>(([36,123]:zT)++v5).length+v6.length<=9223372036854775807/\j0 Sw (zA w 5) λv7 vL vC=>cQ aIZ [zL v7 vL vC] w1.drew R λr w2=>Sw w2/\((([36,123]:zT)++v5)++v6).length+r.length<=9223372036854775807/\(((([36,123]:zT)++v5)++v6)++r).length+([125]:zT).length<=9223372036854775807/\zR R (zS ((((([36,123]:zT)++v5)++v6)++r)++[125])) w2)) (zR R (zS []) w1)))):an KA #[.agg #[zI oJ,zB oE,zS oK,zS oL,zS oW,zL oM oH oI]] w R:=
 aW [] [(9,.held)] Tryz.func42 rfl aC
def ajz(b:zO)(aC:aE b (λa=>cg w (a.add 1) λv vL vC=>(v=none\/vC≠0)/\aE b (λa1=>cg w (a1.add 1) λv1 cJ dZ=>Mj 5 v (cJ:Int) w.drew (λus w1=>zR R (zS us) w1)))):an uc #[zP b] w R:=
 aW [] [(1,.tail 10)] Tryz.func43 rfl aC
def alc(x:zO)(Hs:zT)(fnames:Bool)(aC:zM w [zS Hs,zB fnames] 95 λw1=>jZ (λxJ=>gQ (λaHc=>zH w1.drew λSw=>aE x (λa=>fE Sw (a.add 1) λv=>aq v.isNone (aHc true w1.drew) (NA Sw (zA w 1) λv1=>aq (! v1) (aE x (λa1=>fE Sw (a1.add 1) λv2=>aE v2 (λa2=>yU Sw (a2.add 2) λv3=>aHu Sw (zA w 0) λv4=>∃x1:Bool,(Instr.lookup 176 v3 (zS v4) false).run aL w1.drew=.ok (zB x1) w1.drew/\aHc x1 w1.drew))) (aHc false w1.drew)))) λx2 w2=>aq x2 (zR R (.tuple #[]) w2) (xJ w2)) λw3=>zH w3.drew λcu=>aE x (λa3=>fE cu (a3.add 1) λv5=>aE v5 (λa4=>yU cu (a4.add 1) λv6=>VM cu w.heap.size λayK axA=>∃(x3:zT)(x4:Bool),(Instr.lookup 175 v6 (.agg #[zS ayK,zB axA]) true).run aL w3.drew=.ok (.tuple #[zS x3,zB x4]) w3.drew/\aq (! x4) (zH w3.drew.drew λaHN=>aE x (λa5=>fE aHN (a5.add 1) λv7=>aE v7 (λa6=>yU aHN (a6.add 1) λv8=>VM aHN w.heap.size λaxB awj=>aE x (λa7=>fE aHN (a7.add 1) λv9=>aE v9 (λa8=>yU aHN a8 λv10=>VM aHN w.heap.size λaxC awk=>cQ JY [v10,.agg #[zS axC,zB awk]] w3.drew.drew R λr w4=>aHN w4/\dN aL 175 v8 (.agg #[zS axB,zB awj]) (zS r) w4 (λw5=>zR R (.tuple #[]) w5)))))) (zR R (.tuple #[]) w3.drew)))):an JV #[zP x,.agg #[zS Hs,zB fnames]] w R:=
 aW [(3,[]),(6,[(27,(.leaf .bool))])] [(1,.held),(2,.held),(4,.held)] Tryz.func44 rfl aC
def ald(t:Option Nat)(path:zT)(aC:zK Qi [.map t,zS path] w R λed w1=>∃r:Value,r.oneCell'=true/\ed=.returned r/\aHy JC [r] w1 R λr1 rL rC w2=>zR R (zL r1 rL rC) w2):an JW #[.map t,zS path] w R:=
 aW [] [] Tryz.func45 rfl aC
def anT(s:zO)(cwd:zT)(umask:Int)(aC:zM w [zP s,zS cwd,zI (bits .and .i64 umask 7)] 186 λw1=>zR R (zP (some (zA w 0))) w1):an vI #[zP s,zS cwd,zI umask] w R:=
 aW [] [] Tryz.func46 rfl aC
def ajg(s:zO)(sL sC:Nat)(aC:aq s.isNone (zR R zN w) (zM w [] 116 λw1=>eW w1 116 6 104 (some (zA w 0)) 0 0 s sL (λp cp w2=>zR R (zL p (0+sL) cp) w2))):an OO #[zL s sL sC] w R:=
 aW [] [] Tryz.func47 rfl aC
def XV(h:zO)(jM:Int)(jU:Bool)(jN:zT)(jI:zO)(jF jG:Nat)(jC:zO)(jA jB:Nat)(jH:zO)(jD jE:Nat)(jV:zO)(jO jP:Nat)(jQ:zO)(jJ jK:Nat)(aC:zM w [zP h] 101 λw1=>zM w1 [zI jM,zB jU,zS jN,zL jI jF jG,zL jC jA jB,zL jH jD jE,zL jV jO jP,zL jQ jJ jK] 66 λw2=>cH w2 (zA w 0) λv=>aE v (λa=>bU w2 (a.add 9) λv1=>aq (! decide (v1=0)) (zR R (.tuple #[]) w2) (cH w2 (zA w 0) λv2=>aE v2 (λa1=>cH w2 a1 λv3=>aE v3 (λa2=>bU w2 (a2.add 14) λv4=>aq (decide (v4=0)) (False) (cH w2 (zA w 0) λv5=>aE v5 (λa3=>cH w2 a3 λv6=>aE v6 (λa4=>bU w2 (a4.add 14) λv7=>aE v6 (λa5=>zC (a5.add 14) w2 [zI (i64.wrap (v7-1))] λw3=>bU w3 (zA w1 0) λv8=>aq (decide (v8=3)) (cH w3 (zA w 0) λv9=>aHF w3 w1.heap.size λbZ eH b_ aHq aHo eu aHm aHk aHl aHp eo aHn eL eD eE eF eA eB=>bD FE [zP v9,.agg #[zI bZ,zB eH,zS b_,zL aHq aHo eu,zL aHm aHk aHl,zL aHp eo aHn,zL eL eD eE,zL eF eA eB]] w3 R λw4=>zR R (.tuple #[]) w4) (aq (decide (v8=2)) (cH w3 (zA w 0) λv10=>aHF w3 w1.heap.size λeC iP eP iH iE iF iB iz iA iG iC iD iQ iK iL iM iI iJ=>bD PL [zP v10,.agg #[zI eC,zB iP,zS eP,zL iH iE iF,zL iB iz iA,zL iG iC iD,zL iQ iK iL,zL iM iI iJ]] w3 R λw5=>zR R (.tuple #[]) w5) (aq (decide (v8=1)) (cH w3 (zA w 0) λv11=>aHF w3 w1.heap.size λoG yb mI aJH aJE aJF xm aJC xh xE xo xp yc xS xT xU xK aJI=>bD FF [zP v11,.agg #[zI oG,zB yb,zS mI,zL aJH aJE aJF,zL xm aJC xh,zL xE xo xp,zL yc xS xT,zL xU xK aJI]] w3 R λw6=>zR R (.tuple #[]) w6) (aq (decide (v8=11)) (False) (aq (decide (v8=0)) (cH w3 (zA w 0) λv12=>aHF w3 w1.heap.size λxV yd uD xM xF xG xq xj xk xH xu xw ye xW xX xY xN xO=>bD Db [zP v12,.agg #[zI xV,zB yd,zS uD,zL xM xF xG,zL xq xj xk,zL xH xu xw,zL ye xW xX,zL xY xN xO]] w3 R λw7=>zR R (.tuple #[]) w7) (cH w3 (zA w 0) λoT=>cg w3 (zA w1 5) λoU vL vC=>bD JE [zP oT,zL oU vL vC,.func (.func JF) #[] #[zP (some (zA w 0)),zP (some (zA w1 0))]] w3 R λw8=>zR R (.tuple #[]) w8)))))))))))))):an Di #[zP h,.agg #[zI jM,zB jU,zS jN,zL jI jF jG,zL jC jA jB,zL jH jD jE,zL jV jO jP,zL jQ jJ jK]] w R:=
 aHs {live:=[],c_:=[],ef:=[206,16126]} Tryz.func48 rfl (Eq.mp (by kernel_rfl) aC)
def akU(h:zO)(what:zT)(ex:Int)(aC:zH w.drew λSw=>aE h (λa=>fE Sw a λv=>aE v (λa1=>what.length+([58,32,101,114,114,111,114,32]:zT).length<=9223372036854775807/\cQ Bt [zI ex] w.drew R λr w1=>Sw w1/\(what++[58,32,101,114,114,111,114,32]).length+r.length<=9223372036854775807/\((what++[58,32,101,114,114,111,114,32])++r).length+([10]:zT).length<=9223372036854775807/\zK lR [zP (some (a1.add 15)),zS (((what++[58,32,101,114,114,111,114,32])++r)++[10])] w1 R λdm w2=>∃(r1:Int)(r2:Value),r2.oneCell'=true/\dm=.returned (.tuple #[zI r1,r2])/\aE h (λa2=>zC ((a2.add 3).add 2) w2 [zI 1] λw3=>zR R (.tuple #[]) w3)))):an JQ #[zP h,zS what,zI ex] w R:=
 aW [] [(0,.held)] Tryz.func49 rfl aC
def am6(n:Int)(aC:aq (decide (n<1)) (zR R (.tuple #[zP none,zI 1]) w) (aq (decide (4096<n)) (zR R (.tuple #[zP none,zI 1]) w) (0<=n/\n<=n/\64*n<=281474976710656/\n<=9223372036854775807/\zR R (.tuple #[zP (some (Addr.mk (w.alloc (.cells (madeCells #[.int .u8 0,.int .u8 0,.int .u8 0,.int .u8 0,.int .u8 0,.int .u8 0,.int .u8 0,.int .u8 0,.int .u8 0,.int .u8 0,.int .u8 0,.int .u8 0,.int .u8 0,.int .u8 0,.int .u8 0,.int .u8 0,.int .u8 0,.int .u8 0,.int .u8 0,.int .u8 0,.int .u8 0,.int .u8 0,.int .u8 0,.int .u8 0,.int .u8 0,.int .u8 0,.int .u8 0,.int .u8 0,.int .u8 0,.int .u8 0,.int .u8 0,.int .u8 0,.int .u8 0,.int .u8 0,.int .u8 0,.int .u8 0,.int .u8 0,.int .u8 0,.int .u8 0,.int .u8 0,.int .u8 0,.int .u8 0,.int .u8 0,.int .u8 0,.int .u8 0,.int .u8 0,.int .u8 0,.int .u8 0,.int .u8 0,.int .u8 0,.int .u8 0,.int .u8 0,.int .u8 0,.int .u8 0,.int .u8 0,.int .u8 0,.int .u8 0,.int .u8 0,.int .u8 0,.int .u8 0,.int .u8 0,.int .u8 0,.int .u8 0,.int .u8 0] (Int.toNat n*64)) 439)).heap.size 0 none)),zI 0]) ((w.alloc (.cells (madeCells #[.int .u8 0,.int .u8 0,.int .u8 0,.int .u8 0,.int .u8 0,.int .u8 0,.int .u8 0,.int .u8 0,.int .u8 0,.int .u8 0,.int .u8 0,.int .u8 0,.int .u8 0,.int .u8 0,.int .u8 0,.int .u8 0,.int .u8 0,.int .u8 0,.int .u8 0,.int .u8 0,.int .u8 0,.int .u8 0,.int .u8 0,.int .u8 0,.int .u8 0,.int .u8 0,.int .u8 0,.int .u8 0,.int .u8 0,.int .u8 0,.int .u8 0,.int .u8 0,.int .u8 0,.int .u8 0,.int .u8 0,.int .u8 0,.int .u8 0,.int .u8 0,.int .u8 0,.int .u8 0,.int .u8 0,.int .u8 0,.int .u8 0,.int .u8 0,.int .u8 0,.int .u8 0,.int .u8 0,.int .u8 0,.int .u8 0,.int .u8 0,.int .u8 0,.int .u8 0,.int .u8 0,.int .u8 0,.int .u8 0,.int .u8 0,.int .u8 0,.int .u8 0,.int .u8 0,.int .u8 0,.int .u8 0,.int .u8 0,.int .u8 0,.int .u8 0] (Int.toNat n*64)) 439)).alloc (.cells #[zL (some (zA w 0)) (Int.toNat n) (Int.toNat n),zB true,zI 0,.int .u64 0] 191))))):an Rk #[zI n] w R:=
 aW [] [] Tryz.func50 rfl aC
def am7(d:zO)(aC:lI QY [zP d] w R λr w1=>zM w1 [zP r,zN] 195 λw2=>cH w2 (zA w1 0) λv=>aHy O4 [zP v] w2 R λr1 rL rC w3=>aHH 0 w3 λxI m x w4=>aq (decide (x<(rL:Int))) (False) (zR R (zP (some (zA w1 0))) w4)):an aKT #[zP d] w R:=
 aHs {live:=[(58,[(18,(.leaf (.int .i64)))])],c_:=[],ef:=[932]} Tryz.func51 rfl (Eq.mp (by kernel_rfl) aC)
def Q5(s:zT)(w:zW)(R:zE):Prop:=aq (decide (20000<(s.length:Int))) (Wr ((w.alloc (.cells #[zN] 126)).alloc (.cells #[zI 0] 28)) (zA w 0)/\Wr (((w.alloc (.cells #[zN] 126)).alloc (.cells #[zI 0] 28)).setCell (zA w 0) zN) (Addr.mk (w.alloc (.cells #[zN] 126)).heap.size 0 none)/\∃(v:zO)(vL vC:Nat),((((w.alloc (.cells #[zN] 126)).alloc (.cells #[zI 0] 28)).setCell (zA w 0) zN).setCell (Addr.mk (w.alloc (.cells #[zN] 126)).heap.size 0 none) (zI 2)).cell? (zA w 0)=some (zL v vL vC)/\∃v1:Int,((((w.alloc (.cells #[zN] 126)).alloc (.cells #[zI 0] 28)).setCell (zA w 0) zN).setCell (Addr.mk (w.alloc (.cells #[zN] 126)).heap.size 0 none) (zI 2)).cell? (Addr.mk (w.alloc (.cells #[zN] 126)).heap.size 0 none)=some (zI v1)/\zR R (.tuple #[zL v vL vC,zI v1]) ((((w.alloc (.cells #[zN] 126)).alloc (.cells #[zI 0] 28)).setCell (zA w 0) zN).setCell (Addr.mk (w.alloc (.cells #[zN] 126)).heap.size 0 none) (zI 2))) (aIR (((w.alloc (.cells #[zN] 126)).alloc (.cells #[zI 0] 28)).alloc (.cells #[zS s] 200)) λxI m w1=>bE w1 (Addr.mk ((w.alloc (.cells #[zN] 126)).alloc (.cells #[zI 0] 28)).heap.size 0 none) λv2=>aq (! (decide (v2=[]))) (bE w1 (Addr.mk ((w.alloc (.cells #[zN] 126)).alloc (.cells #[zI 0] 28)).heap.size 0 none) λv3=>0<=(0:Int)/\∃b:UInt8,v3[Int.toNat 0]?=some b/\gQ (λxJ=>aq (decide ((b.toNat:Int)=32)) (xJ true w1) (xJ (decide ((b.toNat:Int)=9)) w1)) λx w2=>aq x (an oA #[zP (some (Addr.mk ((w.alloc (.cells #[zN] 126)).alloc (.cells #[zI 0] 28)).heap.size 0 none)),zI 1] w2 (λed w3=>(ed=.returned (.tuple #[])/\xI w3/\m w3<m w1)\/(∃ch,ed=.panicked ch/\CallsD aL aJ5 #[zP (some (zA w 0)),zP (some (Addr.mk (w.alloc (.cells #[zN] 126)).heap.size 0 none))] (.panicking ch) w3 (λdm ux w4=>(∃rv,dm=.returned rv)/\settle ux=.returning/\cg w4 (zA w 0) λv4 cJ dZ=>bU w4 (Addr.mk (w.alloc (.cells #[zN] 126)).heap.size 0 none) λv5=>zR R (.tuple #[zL v4 cJ dZ,zI v5]) w4)))) (aq (decide ((b.toNat:Int)=35)) (an Pe #[zP (some (Addr.mk ((w.alloc (.cells #[zN] 126)).alloc (.cells #[zI 0] 28)).heap.size 0 none))] w2 (λgd w5=>(gd=.returned (.tuple #[])/\xI w5/\m w5<m w1)\/(∃aHD,gd=.panicked aHD/\CallsD aL aJ5 #[zP (some (zA w 0)),zP (some (Addr.mk (w.alloc (.cells #[zN] 126)).heap.size 0 none))] (.panicking aHD) w5 (λaHM sH w6=>(∃sI,aHM=.returned sI)/\settle sH=.returning/\cg w6 (zA w 0) λv6 lK aIa=>bU w6 (Addr.mk (w.alloc (.cells #[zN] 126)).heap.size 0 none) λv7=>zR R (.tuple #[zL v6 lK aIa,zI v7]) w6)))) (aq (decide ((b.toNat:Int)=10)) (an oA #[zP (some (Addr.mk ((w.alloc (.cells #[zN] 126)).alloc (.cells #[zI 0] 28)).heap.size 0 none)),zI 1] w2 (λic w7=>(ic=.returned (.tuple #[])/\cg w7 (zA w 0) λv8 lM ry=>∃xs news:List Value,aS (w7.alloc (.cells #[zI 2,zS [10]] 203)) 0 203 2 (zL v8 lM ry) lM xs/\news.length=1*2/\(∀qv:Value,qv∈news->qv.oneCell'=true)/\(0<1->∃a:Addr,(some (zA w7 0))=some a/\∀(j:Nat)(u:Value),news[j]?=some u->(w7.alloc (.cells #[zI 2,zS [10]] 203)).cell? (a.add j)=some u)/\lM+1<=9223372036854775807/\(lM+1)*24<=140737488355328/\∀(p:zO)(cp:Nat)(w8:zW),aS w8 0 203 2 (Value.slice p (lM+1) cp) (lM+1) (xs++news)->(w7.alloc (.cells #[zI 2,zS [10]] 203)).grownBy w8 (Value.ownBlock (Value.slice v8 lM ry))->oh v8 p (lM+1) ry cp (w7.alloc (.cells #[zI 2,zS [10]] 203)).heap.size->Wr w8 (zA w 0)/\xI (w8.setCell (zA w 0) (zL p (lM+1) cp))/\m (w8.setCell (zA w 0) (zL p (lM+1) cp))<m w1)\/(∃lN,ic=.panicked lN/\CallsD aL aJ5 #[zP (some (zA w 0)),zP (some (Addr.mk (w.alloc (.cells #[zN] 126)).heap.size 0 none))] (.panicking lN) w7 (λaHY u_ w9=>(∃aJe,aHY=.returned aJe)/\settle u_=.returning/\cg w9 (zA w 0) λv9 CB Il=>bU w9 (Addr.mk (w.alloc (.cells #[zN] 126)).heap.size 0 none) λv10=>zR R (.tuple #[zL v9 CB Il,zI v10]) w9)))) (an JO #[zP (some (Addr.mk ((w.alloc (.cells #[zN] 126)).alloc (.cells #[zI 0] 28)).heap.size 0 none))] w2 (λaIS aP=>(∃r:Bool,aIS=.returned (zB r)/\aq r (zH aP.drew λSw=>j0 Sw (zA w 0) λv11 aIq CF=>an O9 #[zP (some (Addr.mk ((w.alloc (.cells #[zN] 126)).alloc (.cells #[zI 0] 28)).heap.size 0 none))] aP.drew (λu9 bg=>(∃r1:zT,u9=.returned (zS r1)/\Sw bg/\Sw (bg.alloc (.cells #[zI 1,zS r1] 203))/\∃xs1 Mt:List Value,aS (bg.alloc (.cells #[zI 1,zS r1] 203)) 0 203 2 (zL v11 aIq CF) aIq xs1/\Mt.length=1*2/\(∀qv:Value,qv∈Mt->qv.oneCell'=true)/\(0<1->∃a1:Addr,(some (zA bg 0))=some a1/\∀(j:Nat)(u:Value),Mt[j]?=some u->(bg.alloc (.cells #[zI 1,zS r1] 203)).cell? (a1.add j)=some u)/\aIq+1<=9223372036854775807/\(aIq+1)*24<=140737488355328/\∀(p1:zO)(qx:Nat)(bI:zW),aS bI 0 203 2 (Value.slice p1 (aIq+1) qx) (aIq+1) (xs1++Mt)->(bg.alloc (.cells #[zI 1,zS r1] 203)).grownBy bI (Value.ownBlock (Value.slice v11 aIq CF))->oh v11 p1 (aIq+1) CF qx (bg.alloc (.cells #[zI 1,zS r1] 203)).heap.size->Wr bI (zA w 0)/\xI (bI.setCell (zA w 0) (zL p1 (aIq+1) qx))/\m (bI.setCell (zA w 0) (zL p1 (aIq+1) qx))<m w1)\/(∃ru,u9=.panicked ru/\CallsD aL aJ5 #[zP (some (zA w 0)),zP (some (Addr.mk (w.alloc (.cells #[zN] 126)).heap.size 0 none))] (.panicking ru) bg (λAO Cz aHa=>(∃CA,AO=.returned CA)/\settle Cz=.returning/\cg aHa (zA w 0) λv12 EI Ip=>bU aHa (Addr.mk (w.alloc (.cells #[zN] 126)).heap.size 0 none) λoT=>zR R (.tuple #[zL v12 EI Ip,zI oT]) aHa)))) (zH aP.drew λcu=>j0 cu (zA w 0) λoU wD VU=>an PM #[zP (some (Addr.mk ((w.alloc (.cells #[zN] 126)).alloc (.cells #[zI 0] 28)).heap.size 0 none))] aP.drew (λAP bR=>(∃r2:zT,AP=.returned (zS r2)/\cu bR/\cu (bR.alloc (.cells #[zI 0,zS r2] 203))/\∃xs2 Mu:List Value,aS (bR.alloc (.cells #[zI 0,zS r2] 203)) 0 203 2 (zL oU wD VU) wD xs2/\Mu.length=1*2/\(∀qv:Value,qv∈Mu->qv.oneCell'=true)/\(0<1->∃a2:Addr,(some (zA bR 0))=some a2/\∀(j:Nat)(u:Value),Mu[j]?=some u->(bR.alloc (.cells #[zI 0,zS r2] 203)).cell? (a2.add j)=some u)/\wD+1<=9223372036854775807/\(wD+1)*24<=140737488355328/\∀(p2:zO)(EK:Nat)(ct:zW),aS ct 0 203 2 (Value.slice p2 (wD+1) EK) (wD+1) (xs2++Mu)->(bR.alloc (.cells #[zI 0,zS r2] 203)).grownBy ct (Value.ownBlock (Value.slice oU wD VU))->oh oU p2 (wD+1) VU EK (bR.alloc (.cells #[zI 0,zS r2] 203)).heap.size->Wr ct (zA w 0)/\xI (ct.setCell (zA w 0) (zL p2 (wD+1) EK))/\m (ct.setCell (zA w 0) (zL p2 (wD+1) EK))<m w1)\/(∃vb,AP=.panicked vb/\CallsD aL aJ5 #[zP (some (zA w 0)),zP (some (Addr.mk (w.alloc (.cells #[zN] 126)).heap.size 0 none))] (.panicking vb) bR (λEm CC bX=>(∃CD,Em=.returned CD)/\settle CC=.returning/\cg bX (zA w 0) λtL vL8 vC8=>bU bX (Addr.mk (w.alloc (.cells #[zN] 126)).heap.size 0 none) λyV=>zR R (.tuple #[zL tL vL8 vC8,zI yV]) bX)))))\/(∃oS,aIS=.panicked oS/\CallsD aL aJ5 #[zP (some (zA w 0)),zP (some (Addr.mk (w.alloc (.cells #[zN] 126)).heap.size 0 none))] (.panicking oS) aP (λMY Im cF=>(∃Io,MY=.returned Io)/\settle Im=.returning/\cg cF (zA w 0) λCE vL9 vC9=>bU cF (Addr.mk (w.alloc (.cells #[zN] 126)).heap.size 0 none) λCG=>zR R (.tuple #[zL CE vL9 vC9,zI CG]) cF))))))) (cg w1 (zA w 0) λAQ af9 af_=>Wr w1 (zA w 0)/\Wr (w1.setCell (zA w 0) (zL AQ af9 af_)) (Addr.mk (w.alloc (.cells #[zN] 126)).heap.size 0 none)/\CallsD aL aJ5 #[zP (some (zA w 0)),zP (some (Addr.mk (w.alloc (.cells #[zN] 126)).heap.size 0 none))] .returning ((w1.setCell (zA w 0) (zL AQ af9 af_)).setCell (Addr.mk (w.alloc (.cells #[zN] 126)).heap.size 0 none) (zI 0)) (λUR VV dI=>(∃VW,UR=.returned VW)/\settle VV=.returning/\cg dI (zA w 0) λv20 azM azN=>bU dI (Addr.mk (w.alloc (.cells #[zN] 126)).heap.size 0 none) λv21=>zR R (.tuple #[zL v20 azM azN,zI v21]) dI)))
def amm(s:zT)(aC:Q5 s w R):an QV #[zS s] w R:=
 aJm {live:=[(124,[]),(3978,[(29,(.leaf .bool))])],c_:=[(16,.held),(7,.held)]} Tryz.func52 rfl (Eq.mp (α:=Q5 s w R) (by kernel_rfl) aC)
def akv(p:zO)(depth:Int)(aC:zM w [zI 0,zB false,zS [],zN,zN,zN,zN,zN] 66 λw1=>zX w1 [zI 0,zB false,zS [],zN,zN,zN,zN,zN] 66 [zI 3,zB false,zS [],zN,zN,zN,zN,zN] λw3=>bD aJX [zP p] w3 R λw4=>aIR w4 λxI m w5=>aHi PN [zP p] w5 R λr w6=>aq (! r) (zH w6.drew λSw=>j0 Sw (zA w1 7) λv vL vC=>yB Py [zP p,zI depth] w6.drew R λcM k6 rName kV kS kT kP kN kO kU kQ kR k7 kY kZ aHP kW kX w7=>Sw w7/\zM w7 [zI cM,zB k6,zS rName,zL kV kS kT,zL kP kN kO,zL kU kQ kR,zL k7 kY kZ,zL aHP kW kX] 66 λw8=>Sw w8/\eW w8 66 8 152 v vL vC (some (zA w7 0)) 1 (λp1 cp w9=>zC (zA w1 7) w9 [zL p1 (vL+1) cp] λaP=>aHi vE [zP p,zI 1,zS [59]] aP R λr1 bg=>aq (! r1) (zM bg [zS [10]] 9 λbI=>aHi sY [zP p,zI 2,zL (some (zA bg 0)) 1 1] bI R λr2 aHa=>aq (! r2) (aHF aHa w1.heap.size λbZ eH b_ aHq aHo eu aHm aHk aHl aHp eo aHn eL eD eE eF eA eB=>zC (zA w 0) aHa [zI bZ,zB eH,zS b_,zL aHq aHo eu,zL aHm aHk aHl,zL aHp eo aHn,zL eL eD eE,zL eF eA eB] λbR=>aHF bR w.heap.size λeC iP eP iH iE iF iB iz iA iG iC iD iQ iK iL iM iI iJ=>zR R (.agg #[zI eC,zB iP,zS eP,zL iH iE iF,zL iB iz iA,zL iG iC iD,zL iQ iK iL,zL iM iI iJ]) bR) (bD aJX [zP p] aHa R λct=>xI ct/\m ct<m w5)) (bD aJX [zP p] bg R λbX=>xI bX/\m bX<m w5))) (aHF w6 w1.heap.size λoG yb mI aJH aJE aJF xm aJC xh xE xo xp yc xS xT xU xK aJI=>zC (zA w 0) w6 [zI oG,zB yb,zS mI,zL aJH aJE aJF,zL xm aJC xh,zL xE xo xp,zL yc xS xT,zL xU xK aJI] λcF=>aHF cF w.heap.size λxV yd uD xM xF xG xq xj xk xH xu xw ye xW xX xY xN xO=>zR R (.agg #[zI xV,zB yd,zS uD,zL xM xF xG,zL xq xj xk,zL xH xu xw,zL ye xW xX,zL xY xN xO]) cF)):an JN #[zP p,zI depth] w R:=
 aW [(58,[])] [(5,.held)] Tryz.func54 rfl aC
def amH(ok:Bool)(aC:aq (! ok) (R (.panicked [{v:=(.iface 28 (zI 100)),recovered:=false}]) w) (zR R (.tuple #[]) w)):an rQ #[zB ok] w R:=
 aW [] [] Tryz.func55 rfl aC
def alN(jM:Int)(jU:Bool)(jN:zT)(jI:zO)(jF jG:Nat)(jC:zO)(jA jB:Nat)(jH:zO)(jD jE:Nat)(jV:zO)(jO jP:Nat)(jQ:zO)(jJ jK:Nat)(aC:zM w [zI jM,zB jU,zS jN,zL jI jF jG,zL jC jA jB,zL jH jD jE,zL jV jO jP,zL jQ jJ jK] 66 λw1=>cg w1 (zA w 5) λv vL vC=>aHy O8 [zL v vL vC,.func (.func amU) #[] #[]] w1 R λr rL rC w2=>cg w2 (zA w 4) λv1 cJ dZ=>aHy O5 [zL v1 cJ dZ,.func (.func amE) #[] #[]] w2 R λr1 jv lX w3=>eW w3 9 1 16 r rL rC r1 jv (λp cp w4=>cg w4 (zA w 3) λv2 lK aIa=>aHy XL [zL v2 lK aIa,.func (.func aIZ) #[] #[]] w4 R λr2 yY CI w5=>eW w5 9 1 16 p (rL+jv) cp r2 yY (λp1 qx w6=>cQ YS [zL p1 ((rL+jv)+yY) qx] w6 R λr3 w7=>zR R (zS r3) w7))):an FO #[.agg #[zI jM,zB jU,zS jN,zL jI jF jG,zL jC jA jB,zL jH jD jE,zL jV jO jP,zL jQ jJ jK]] w R:=
 aW [] [] Tryz.func56 rfl aC
def amn(jM:Int)(jU:Bool)(jN:zT)(jI:zO)(jF jG:Nat)(jC:zO)(jA jB:Nat)(jH:zO)(jD jE:Nat)(jV:zO)(jO jP:Nat)(jQ:zO)(jJ jK:Nat)(aC:zM w [zI jM,zB jU,zS jN,zL jI jF jG,zL jC jA jB,zL jH jD jE,zL jV jO jP,zL jQ jJ jK] 66 λw1=>cg w1 (zA w 7) λv vL vC=>aHy XM [zL v vL vC,.func (.func Ds) #[] #[]] w1 R λr rL rC w2=>cQ Dv [zL r rL rC,zS [59,32]] w2 R λr1 w3=>zR R (zS r1) w3):an Kl #[.agg #[zI jM,zB jU,zS jN,zL jI jF jG,zL jC jA jB,zL jH jD jE,zL jV jO jP,zL jQ jJ jK]] w R:=
 aW [] [] Tryz.func59 rfl aC
def amo(l:zO)(lL lC:Nat)(w:zW)(R:zE)(aC:cQ Dv [zL l lL lC,zS [32]] w R λr w1=>zR R (zS r) w1):an YS #[zL l lL lC] w R:=
 aW [] [] Tryz.func68 rfl aC
def ajA(l:zO)(lL lC:Nat)(f:Value)(aC:0<=(lL:Int)/\(lL:Int)<=(lL:Int)/\16*(lL:Int)<=281474976710656/\(lL:Int)<=9223372036854775807/\cP (w.alloc (.cells (madeCells #[zS []] (Int.toNat (lL:Int)*1)) 9)) (λw1=>aHH 0 w1 λxI m x w2=>aq (decide (x<(lL:Int))) (False) (zR R (zL (some (zA w 0)) (Int.toNat (lL:Int)) (Int.toNat (lL:Int))) w2))):an O8 #[zL l lL lC,f] w R:=
 aHs {live:=[(58,[(13,(.leaf (.int .i64)))])],c_:=[],ef:=[932]} Tryz.func69 rfl (Eq.mp (by kernel_rfl) aC)
def alw(aC:zM w [zS [60,60],zS [62,62],zS [60,61],zS [62,61],zS [61,61],zS [33,61],zS [38,38],zS [124,124],zS [43,61],zS [45,61],zS [42,61],zS [47,61],zS [37,61],zS [43],zS [45],zS [42],zS [47],zS [37],zS [60],zS [62],zS [38],zS [124],zS [94],zS [63],zS [58],zS [61],zS [33],zS [126],zS [40],zS [41]] 9 λw1=>zR R (zL (some (zA w 0)) 30 30) w1):an Qv #[] w R:=
 aW [] [] Tryz.func72 rfl aC
def ajE(p:zO)(aC:cQ Dn [zP p] w R λr w1=>aE p (λa=>bE w1 a λv=>cQ aJ_ [zS v] w1 R λr1 w2=>aE p (λa1=>bE w2 a1 λv1=>0<=(r1.length:Int)/\(r1.length:Int)<=v1.length/\zM w2 [zS (v1.drop (Int.toNat (r1.length:Int)))] 72 λw3=>zM w3 [zS [61],zS [43,61],zS [45,61],zS [42,61],zS [47,61],zS [37,61]] 9 λw4=>cQ aJ2 [zP (some (zA w2 0)),zL (some (zA w3 0)) 6 6] w4 R λr2 w5=>aq (decide (r1=[])) (zR R (.tuple #[zS [],zS [],zB false]) w5) (aq (decide (r2=[])) (zR R (.tuple #[zS [],zS [],zB false]) w5) (bE w5 (zA w2 0) λv2=>aE p (λa2=>zC a2 w5 [zS v2] λw6=>zR R (.tuple #[zS r1,zS r2,zB true]) w6)))))):an aKO #[zP p] w R:=
 aW [] [] Tryz.func74 rfl aC
def aj4(p:zO)(depth:Int)(aC:lI FB [zP p,zI 0,zI depth] w R λr w1=>zM w1 [zS [63]] 9 λw2=>cQ aJ2 [zP p,zL (some (zA w1 0)) 1 1] w2 R λr1 w3=>aq (decide (r1=[])) (zR R (zP r) w3) (False)):an Px #[zP p,zI depth] w R:=
 aHs {live:=[],c_:=[],ef:=[59]} Tryz.func76 rfl (Eq.mp (by kernel_rfl) aC)
def amq(op:zT)(a b:Int)(aC:jZ (λxJ=>aq (! decide (b=0)) (bD vH [zB true,zI 131] w R λw1=>xJ w1) (aq (! (decide (op=[47]))) (bD vH [zB (! (decide (op=[37]))),zI 131] w R λw2=>xJ w2) (bD vH [zB false,zI 131] w R λw3=>xJ w3))) λw4=>aq (decide (op=[43])) (zR R (zI (i64.wrap (a+b))) w4) (aq (decide (op=[45])) (zR R (zI (i64.wrap (a-b))) w4) (aq (decide (op=[42])) (zR R (zI (i64.wrap (a*b))) w4) (aq (decide (op=[47])) (b≠0/\zR R (zI (i64.wrap (Int.tdiv a b))) w4) (False))))):an QW #[zS op,zI a,zI b] w R:=
 aHs {live:=[(3,[])],c_:=[],ef:=[15103]} Tryz.func79 rfl (Eq.mp (by kernel_rfl) aC)
def amI(s:zT)(aC:zX w [zI 0,zS [],zS []] 35 [zI 0,zS s,zS []] λw2=>yT w2 w.heap.size λfQ pN pO=>zR R (.tuple #[.agg #[zI fQ,zS pN,zS pO],zB true]) w2):an Kt #[zS s] w R:=
 aW [] [] Tryz.func82 rfl aC
def amr(s:zT)(aC:aq (decide (s=[])) (zR R zN w) (cQ alq [zS s,zS [10]] w R λr w1=>aHy QM [zS r,zS [10]] w1 R λr1 rL rC w2=>zR R (zL r1 rL rC) w2)):an QX #[zS s] w R:=
 aW [] [] Tryz.func86 rfl aC
def al5(l:zO)(lL lC:Nat)(aC:zM w [zP none,zN] 86 λw1=>aHH 0 w1 λxI m x w2=>aq (decide (x<(lL:Int))) (zD x lL (aE l (λa=>bE w2 (a.add (Int.toNat x*1)) λv=>v.length+([10]:zT).length<=9223372036854775807/\zK lR [zP (some (zA w 0)),zS (v++[10])] w2 R λed w3=>∃(r:Int)(r1:Value),r1.oneCell'=true/\ed=.returned (.tuple #[zI r,r1])/\xI (i64.wrap (x+1)) w3/\m (i64.wrap (x+1)) w3<m x w2))) (cQ uc [zP (some (zA w 0))] w2 R λr2 w4=>zR R (zS r2) w4)):an Ki #[zL l lL lC] w R:=
 aW [(58,[(8,(.leaf (.int .i64)))])] [] Tryz.func87 rfl aC
def Xt(s:zO)(sL sC:Nat)(v:zT)(aC:aHH 0 w λxI m x w1=>aq (decide (x<(sL:Int))) (zD x sL (aE s (λa=>bE w1 (a.add (Int.toNat x*1)) λv1=>aq (decide (v=v1)) (zR R (zI x) w1) (xI (i64.wrap (x+1)) w1/\m (i64.wrap (x+1)) w1<m x w1)))) (zR R (zI (-1)) w1)):an Jq #[zL s sL sC,zS v] w R:=
 aW [(26,[(8,(.leaf (.int .i64)))])] [] Tryz.func91 rfl aC
def ajc(s:zO)(sL sC:Nat)(f:Value)(aC:fR Fq [zL s sL sC,f] w R λr w1=>zR R (zB (decide (0<=r))) w1):an OL #[zL s sL sC,f] w R:=
 aW [] [] Tryz.func92 rfl aC
def al6(s:zT)(aC:aq (! (decide (s=[45,114]))) (zR R (zB (! (decide (s=[45,117])))) w) (zR R (zB false) w)):an QL #[zS s] w R:=
 aW [] [] Tryz.func93 rfl aC
def Xp(s:zO)(sL sC:Nat)(v:zT)(aC:fR Jq [zL s sL sC,zS v] w R λr w1=>zR R (zB (decide (0<=r))) w1):an zw #[zL s sL sC,zS v] w R:=
 aW [] [] Tryz.func95 rfl aC
def aje(s:zO)(sL sC:Nat)(del:Value)(aC:fR Fq [zL s sL sC,del] w R λr w1=>aq (decide (r=(-1:Int))) (zR R (zL s sL sC) w1) (EH r (i64.wrap (r+1)) w1 λxI m i j w2=>aq (decide (j<(sL:Int))) (zD j sL (aE s (λa=>bE w2 (a.add (Int.toNat j*1)) λv=>gj del (λg first cap=>aq (cY aL g) (an g ⟨first++([zS v]++cap)⟩ w2 (λdm w3=>(∃r1:Bool,dm=.returned (zB r1)/\aq (! r1) (zD i sL (aE s (λa1=>zC (a1.add (Int.toNat i*1)) w3 [zS v] λw4=>xI (i64.wrap (i+1)) (i64.wrap (j+1)) w4/\m (i64.wrap (i+1)) (i64.wrap (j+1)) w4<m i j w2))) (xI i (i64.wrap (j+1)) w3/\m i (i64.wrap (j+1)) w3<m i j w2))\/(∃aHD,dm=.panicked aHD/\R (.panicked aHD) w3))) False)))) (0<=i/\i<=(sL:Nat)/\LW aL 25 (zL (if sC=Int.toNat i then s else Option.map (·.add (Int.toNat i*1)) s) (sL-Int.toNat i) (sC-Int.toNat i)) w2 (λw5=>0<=i/\i<=(sC:Nat)/\zR R (zL s (Int.toNat i) sC) w5)))):an Jo #[zL s sL sC,del] w R:=
 aW [(122,[(5,(.leaf (.int .i64))),(6,(.leaf (.int .i64)))])] [] Tryz.func102 rfl aC
def ajr(b:zO)(aC:aE b (λa=>cH w a λv=>aq v.isNone (aE b (λa1=>afa w a1/\Tc aL XN/\afb aL 86 w a1/\aE b (λa2=>zC a2 w [zP (some a1)] λw1=>zR R (.tuple #[]) w1))) (aE b (λa3=>cH w a3 λv1=>MJ aL 86 .neq v1 b (λpb=>aq pb (False) (zR R (.tuple #[]) w)))))):an Js #[zP b] w R:=
 aW [] [] Tryz.func108 rfl aC
def alx(s old new:zT)(n:Int)(aC:aq (decide (old=new)) (zR R (zS s) w) (aq (decide (n=0)) (zR R (zS s) w) (Cy (λxJ=>fR amV [zS s,zS old] w R λr w1=>aq (decide (r=0)) (zR R (zS s) w1) (gQ (λaHc=>aq (decide (n<0)) (aHc true w1) (aHc (decide (r<n)) w1)) λx w2=>aq x (xJ r w2) (xJ n w2))) λn1 w3=>zM w3 [zP none,zN] 86 λw4=>bD akO [zP (some (zA w3 0)),zI (i64.wrap ((s.length:Int)+(i64.wrap (n1*(i64.wrap ((new.length:Int)-(old.length:Int)))))))] w4 R λw5=>aq (decide (0<(old.length:Int))) (EH 0 0 w5 λxI m start x1 w6=>aq (decide (x1<n1)) (0<=start/\start<=s.length/\fR amW [zS (s.drop (Int.toNat start)),zS old] w6 R λr1 w7=>0<=start/\start<=(i64.wrap (start+r1))/\(i64.wrap (start+r1))<=s.length/\zK lR [zP (some (zA w3 0)),zS ((s.drop (Int.toNat start)).take (Int.toNat (i64.wrap (start+r1))-Int.toNat start))] w7 R λaHM w8=>∃(r2:Int)(r3:Value),r3.oneCell'=true/\aHM=.returned (.tuple #[zI r2,r3])/\zK lR [zP (some (zA w3 0)),zS new] w8 R λic w9=>∃(r4:Int)(r5:Value),r5.oneCell'=true/\ic=.returned (.tuple #[zI r4,r5])/\xI (i64.wrap ((i64.wrap (start+r1))+(old.length:Int))) (i64.wrap (x1+1)) w9/\m (i64.wrap ((i64.wrap (start+r1))+(old.length:Int))) (i64.wrap (x1+1)) w9<m start x1 w6) (0<=start/\start<=s.length/\zK lR [zP (some (zA w3 0)),zS (s.drop (Int.toNat start))] w6 R λaHY aP=>∃(r6:Int)(r7:Value),r7.oneCell'=true/\aHY=.returned (.tuple #[zI r6,r7])/\cQ uc [zP (some (zA w3 0))] aP R λr8 bg=>zR R (zS r8) bg)) (False)))):an Qw #[zS s,zS old,zS new,zI n] w R:=
 aHs {live:=[(7,[(3,(.leaf (.int .i64)))]),(119,[(36,(.leaf .bool))]),(4074,[(11,(.leaf (.int .i64))),(53,(.leaf (.int .i64)))])],c_:=[],ef:=[1019]} Tryz.func109 rfl (Eq.mp (by kernel_rfl) aC)
def XY(t:Option Nat)(Hs:zT)(fnames:Bool)(aC:zM w [zS Hs,zB fnames] 95 λw1=>aHI w1 (zA w 1) λv=>aq v (bE w1 (zA w 0) λv1=>aHy JW [.map t,zS v1] w1 R λr rL rC w2=>cQ Bu [zL r rL rC] w2 R λr1 w3=>zR R (zS r1) w3) (bE w1 (zA w 0) λv2=>uS FR [.map t,zS v2] w1 R λcM fA fB w4=>cQ Ku [.agg #[zI cM,zI fA,zS fB]] w4 R λr2 w5=>zR R (zS r2) w5)):an JY #[.map t,.agg #[zS Hs,zB fnames]] w R:=
 aW [] [] Tryz.func110 rfl aC
def ajT(seq:Value)(aC:aHy Fv [seq] w R λr rL rC w1=>bD OY [zL r rL rC] w1 R λw2=>zR R (zL r rL rC) w2):an JC #[seq] w R:=
 aW [] [] Tryz.func111 rfl aC
def ale(t:Option Nat)(path:zT)(aC:zM w [.map t] 97 λw1=>zM w1 [zS path] 9 λw2=>zR R (.func (.func FC) #[] #[zP (some (zA w 0)),zP (some (zA w1 0))]) w2):an Qi #[.map t,zS path] w R:=
 aW [] [] Tryz.func112 rfl aC
def akV(h:zO)(jM:Int)(jU:Bool)(jN:zT)(jI:zO)(jF jG:Nat)(jC:zO)(jA jB:Nat)(jH:zO)(jD jE:Nat)(jV:zO)(jO jP:Nat)(jQ:zO)(jJ jK:Nat)(aC:zM w [zI jM,zB jU,zS jN,zL jI jF jG,zL jC jA jB,zL jH jD jE,zL jV jO jP,zL jQ jJ jK] 66 λw1=>jZ (λxJ=>cg w1 (zA w 7) λv vL vC=>aq (decide ((vL:Int)=0)) (aE h (λa=>zC ((a.add 3).add 2) w1 [zI 0] λw2=>xJ w2)) (xJ w1)) λw3=>cg w3 (zA w 7) λv1 cJ dZ=>aHH 0 w3 λxI m x w4=>aq (decide (x<(cJ:Int))) (zD x cJ (aE v1 (λa1=>Cx w4 (a1.add (Int.toNat x*8)) λbZ eH b_ aHq aHo eu aHm aHk aHl aHp eo aHn eL eD eE eF eA eB=>zX w4 [zI 0,zB false,zS [],zN,zN,zN,zN,zN] 66 [zI bZ,zB eH,zS b_,zL aHq aHo eu,zL aHm aHk aHl,zL aHp eo aHn,zL eL eD eE,zL eF eA eB] λw6=>aHF w6 w4.heap.size λeC iP eP iH iE iF iB iz iA iG iC iD iQ iK iL iM iI iJ=>bD Di [zP h,.agg #[zI eC,zB iP,zS eP,zL iH iE iF,zL iB iz iA,zL iG iC iD,zL iQ iK iL,zL iM iI iJ]] w6 R λw7=>xI (i64.wrap (x+1)) w7/\m (i64.wrap (x+1)) w7<m x w4))) (zR R (.tuple #[]) w4)):an FE #[zP h,.agg #[zI jM,zB jU,zS jN,zL jI jF jG,zL jC jA jB,zL jH jD jE,zL jV jO jP,zL jQ jJ jK]] w R:=
 aW [(3,[]),(30,[(17,(.leaf (.int .i64)))])] [] Tryz.func113 rfl aC
def akW(h:zO)(jM:Int)(jU:Bool)(jN:zT)(jI:zO)(jF jG:Nat)(jC:zO)(jA jB:Nat)(jH:zO)(jD jE:Nat)(jV:zO)(jO jP:Nat)(jQ:zO)(jJ jK:Nat)(aC:zM w [zI jM,zB jU,zS jN,zL jI jF jG,zL jC jA jB,zL jH jD jE,zL jV jO jP,zL jQ jJ jK] 66 λw1=>cg w1 (zA w 7) λv vL vC=>aq (decide ((vL:Int)=1)) (False) (cg w1 (zA w 7) λv1 cJ dZ=>bD aKQ [zP h,zL v1 cJ dZ] w1 R λw2=>aHI w2 (zA w 1) λv2=>aq (! v2) (zR R (.tuple #[]) w2) (aE h (λa=>bU w2 (a.add 9) λv3=>aq (! decide (v3=0)) (zR R (.tuple #[]) w2) (False))))):an FF #[zP h,.agg #[zI jM,zB jU,zS jN,zL jI jF jG,zL jC jA jB,zL jH jD jE,zL jV jO jP,zL jQ jJ jK]] w R:=
 aHs {live:=[],c_:=[],ef:=[26,59]} Tryz.func115 rfl (Eq.mp (by kernel_rfl) aC)
def aj5(h:zO)(jM:Int)(jU:Bool)(jN:zT)(jI:zO)(jF jG:Nat)(jC:zO)(jA jB:Nat)(jH:zO)(jD jE:Nat)(jV:zO)(jO jP:Nat)(jQ:zO)(jJ jK:Nat)(aC:zM w [zP h] 101 λw1=>zM w1 [zI jM,zB jU,zS jN,zL jI jF jG,zL jC jA jB,zL jH jD jE,zL jV jO jP,zL jQ jJ jK] 66 λw2=>cH w2 (zA w 0) λv=>aE v (λa=>zC (a.add 13) w2 [zI (-1)] λw3=>cH w3 (zA w 0) λv1=>cg w3 (zA w1 3) λv2 vL vC=>Ek JG [zP v1,zL v2 vL vC] w3 R λr rL rC r1 w4=>zX w4 [zN] 25 [zL r rL rC] λw6=>aq r1 (cH w6 (zA w 0) λv3=>cg w6 (zA w1 5) λv4 cJ dZ=>bD JE [zP v3,zL v4 cJ dZ,.func (.func Pf) #[] #[zP (some (zA w 0)),zP (some (zA w1 0)),zP (some (zA w4 0))]] w6 R λw7=>zR R (.tuple #[]) w7) (zR R (.tuple #[]) w6))):an Db #[zP h,.agg #[zI jM,zB jU,zS jN,zL jI jF jG,zL jC jA jB,zL jH jD jE,zL jV jO jP,zL jQ jJ jK]] w R:=
 aW [] [] Tryz.func116 rfl aC
def aj6(h l:zO)(lL lC:Nat)(AR:Value)(aC:zM w [zP h] 101 λw1=>cH w1 (zA w 0) λv=>MS P8 [zP v,zL l lL lC] w1 R λrin rto ayL ris r w2=>zX w2 [zS [],zS [],zB false,zB false] 244 [zS rin,zS rto,zB ayL,zB ris] λw4=>aq (! r) (zR R (.tuple #[]) w4) (cH w4 (zA w 0) λv1=>aE v1 (λa=>bE w4 (a.add 7) λv2=>cH w4 (zA w 0) λv3=>aE v3 (λa1=>bE w4 (a1.add 8) λv4=>cH w4.drew (zA w 0) λv5=>bE w4.drew (zA w2 0) λv6=>aE v5 (λa2=>zC (a2.add 7) w4.drew [zS v6] λw5=>jZ (λxJ=>aHI w5 (zA w2 3) λv7=>aq v7 (cH w5 (zA w 0) λv8=>aE v8 (λa3=>zC (a3.add 8) w5 [zS []] λw6=>xJ w6)) (xJ w5)) λw7=>gj AR (λg first cap=>aq (cY aL g) (an g ⟨first++([]++cap)⟩ w7 (λdm w8=>(dm=.returned (.tuple #[])/\jZ (λaHc=>aHI w8 (zA w2 2) λv9=>aq v9 (cH w8 (zA w 0) λv10=>aE v10 (λa4=>zC (a4.add 7) w8 [zS v2] λw9=>aHc w9)) (aHc w8)) λaP=>aHI aP (zA w2 3) λv11=>aq (! v11) (zR R (.tuple #[]) aP) (cH aP (zA w 0) λv12=>aE v12 (λa5=>bE aP (a5.add 8) λoT=>zX aP [zS []] 9 [zS oT] λbI=>cH bI (zA w 0) λoU=>aE oU (λa6=>zC (a6.add 8) bI [zS v4] λaHa=>cH aHa (zA w 0) λtL=>fR Dk [zP tL,.func (.func Jv) #[] #[zP (some (zA w 0)),zP (some (zA w2 0)),zP (some (zA aP 0))]] aHa R λr1 bR=>aq (! decide (r1=0)) (False) (zR R (.tuple #[]) bR)))))\/(∃aHD,dm=.panicked aHD/\R (.panicked aHD) w8))) False)))))):an JE #[zP h,zL l lL lC,AR] w R:=
 aHs {live:=[(63,[]),(255,[])],c_:=[(3,.still)],ef:=[32766]} Tryz.func117 rfl (Eq.mp (by kernel_rfl) aC)
def aj7(cap iS:zO)(aC:aE cap (λa=>cH w a λv=>aE iS (λa1=>Cx w a1 λbZ eH b_ aHq aHo eu aHm aHk aHl aHp eo aHn eL eD eE eF eA eB=>bD Pd [zP v,.agg #[zI bZ,zB eH,zS b_,zL aHq aHo eu,zL aHm aHk aHl,zL aHp eo aHn,zL eL eD eE,zL eF eA eB]] w R λw1=>zR R (.tuple #[]) w1))):an JF #[zP cap,zP iS] w R:=
 aW [] [] Tryz.func118 rfl aC
def ajF(h:zO)(jM:Int)(jU:Bool)(jN:zT)(jI:zO)(jF jG:Nat)(jC:zO)(jA jB:Nat)(jH:zO)(jD jE:Nat)(jV:zO)(jO jP:Nat)(jQ:zO)(jJ jK:Nat)(aC:zM w [zI jM,zB jU,zS jN,zL jI jF jG,zL jC jA jB,zL jH jD jE,zL jV jO jP,zL jQ jJ jK] 66 λw1=>bU w1 (zA w 0) λv=>aq (decide (v=4)) (False) (aq (decide (v=5)) (False) (aq (decide (v=6)) (False) (aq (decide (v=7)) (False) (aq (decide (v=8)) (aHF w1 w.heap.size λbZ eH b_ aHq aHo eu aHm aHk aHl aHp eo aHn eL eD eE eF eA eB=>bD JR [zP h,.agg #[zI bZ,zB eH,zS b_,zL aHq aHo eu,zL aHm aHk aHl,zL aHp eo aHn,zL eL eD eE,zL eF eA eB]] w1 R λw2=>zR R (.tuple #[]) w2) (aq (decide (v=9)) (False) (zR R (.tuple #[]) w1))))))):an Pd #[zP h,.agg #[zI jM,zB jU,zS jN,zL jI jF jG,zL jC jA jB,zL jH jD jE,zL jV jO jP,zL jQ jJ jK]] w R:=
 aHs {live:=[],c_:=[],ef:=[58,238,958,3838,61438]} Tryz.func119 rfl (Eq.mp (by kernel_rfl) aC)
def ams(d:zO)(aC:zM w [zP d,zN,zI 0] 253 λw1=>aIR w1 λxI m w2=>Cf Pq [zP (some (zA w 0))] w2 R λr r1 w3=>aq (! r1) (zR R (zP (some (zA w 0))) w3) (False)):an QY #[zP d] w R:=
 aHs {live:=[(14,[])],c_:=[],ef:=[907]} Tryz.func120 rfl (Eq.mp (by kernel_rfl) aC)
def ajv(j:zO)(aC:aE j (λa=>cg w (a.add 1) λv vL vC=>aHy Xw [zL v vL vC] w R λr rL rC w1=>zR R (zL r rL rC) w1)):an O4 #[zP j] w R:=
 aW [] [] Tryz.func121 rfl aC
def akw(x:zO)(n:Int)(aC:aE x (λa=>bE w a λv=>bD xd [zB (decide (n<=(v.length:Int)))] w R λw1=>aE x (λa1=>bE w1 a1 λv1=>0<=n/\n<=v1.length/\aE x (λa2=>zC a2 w1 [zS (v1.drop (Int.toNat n))] λw2=>zR R (.tuple #[]) w2)))):an oA #[zP x,zI n] w R:=
 aW [] [] Tryz.func124 rfl aC
def ajG(x:zO)(aC:aE x (λa=>bE w a λv=>fR wZ [zS v,.int .u8 10] w R λr w1=>aq (decide (0<=r)) (bD oA [zP x,zI r] w1 R λw2=>zR R (.tuple #[]) w2) (aE x (λa1=>zC a1 w1 [zS []] λw3=>zR R (.tuple #[]) w3)))):an Pe #[zP x] w R:=
 aW [] [] Tryz.func125 rfl aC
def akx(x:zO)(aC:aE x (λa=>bE w a λv=>aq (decide (v=[])) (zR R (zB true) w) (aE x (λa1=>bE w a1 λv1=>0<=(0:Int)/\∃b:UInt8,v1[Int.toNat 0]?=some b/\fR wZ [zS [32,9,10,59,124,38,40,41,60,62],.int .u8 (b.toNat:Int)] w R λr w1=>zR R (zB (decide (0<=r))) w1)))):an JO #[zP x] w R:=
 aW [] [] Tryz.func126 rfl aC
def ajB(x:zO)(aC:Cy (λxJ=>gQ (λaHc=>zH w.drew λSw=>aE x (λa=>aHu Sw a λv=>aq (decide (1<(v.length:Int))) (aE x (λa1=>aHu Sw a1 λv1=>0<=(0:Int)/\∃b:UInt8,v1[Int.toNat 0]?=some b/\aE x (λa2=>aHu Sw a2 λv2=>0<=(1:Int)/\∃b1:UInt8,v2[Int.toNat 1]?=some b1/\aq (decide ((b.toNat:Int)=(b1.toNat:Int))) (aE x (λa3=>aHu Sw a3 λv3=>0<=(0:Int)/\∃b2:UInt8,v3[Int.toNat 0]?=some b2/\fR wZ [zS [38,124,59,62],.int .u8 (b2.toNat:Int)] w.drew R λr w1=>aHc (decide (0<=r)) w1)) (aHc false w.drew)))) (aHc false w.drew))) λx1 w2=>aq x1 (xJ 2 w2) (xJ 1 w2)) λn w3=>aE x (λa4=>bE w3 a4 λv4=>0<=n/\n<=v4.length/\bD oA [zP x,zI n] w3 R λw4=>zR R (zS (v4.take (Int.toNat n))) w4)):an O9 #[zP x] w R:=
 aW [(7,[(3,(.leaf (.int .i64)))]),(14,[(32,(.leaf .bool))])] [(2,.held)] Tryz.func127 rfl aC
def aky(x:zO)(aC:aE x (λa=>bE w a λv=>aIR w λxI m w1=>aHi JO [zP x] w1 R λr w2=>aq (! r) (bD aJZ [zP x,zI 1] w2 R λw3=>xI w3/\m w3<m w1) (aE x (λa1=>bE w2 a1 λv1=>0<=(i64.wrap ((v.length:Int)-(v1.length:Int)))/\(i64.wrap ((v.length:Int)-(v1.length:Int)))<=v.length/\zR R (zS (v.take (Int.toNat (i64.wrap ((v.length:Int)-(v1.length:Int)))))) w2)))):an PM #[zP x] w R:=
 aW [(28,[])] [] Tryz.func128 rfl aC
def aj8(p:zO)(aC:aIR w λxI m w1=>aHi vE [zP p,zI 2,zS [10]] w1 R λr w2=>aq r (xI w2/\m w2<m w1) (zR R (.tuple #[]) w2)):an aJX #[zP p] w R:=
 aW [(2,[])] [] Tryz.func129 rfl aC
def akz(p:zO)(aC:aE p (λa=>cg w a λv vL vC=>aq (decide ((vL:Int)=0)) (zR R (zB true) w) (zM w [zS [41],zS [59,59]] 9 λw1=>aHi sY [zP p,zI 1,zL (some (zA w 0)) 2 2] w1 R λr w2=>aq r (zR R (zB true) w2) (aHy J8 [] w2 R λr1 rL rC w3=>aHi sY [zP p,zI 0,zL r1 rL rC] w3 R λr2 w4=>zR R (zB r2) w4)))):an PN #[zP p] w R:=
 aW [] [] Tryz.func130 rfl aC
def aj9(p:zO)(depth:Int)(aC:zM w [zI 0,zB false,zS [],zN,zN,zN,zN,zN] 66 λw1=>yB PO [zP p,zI depth] w1 R λcM k6 rName kV kS kT kP kN kO kU kQ kR k7 kY kZ aHP kW kX w2=>zM w2 [zI cM,zB k6,zS rName,zL kV kS kT,zL kP kN kO,zL kU kQ kR,zL k7 kY kZ,zL aHP kW kX] 66 λw3=>zX w3 [zI 0,zB false,zS [],zN,zN,zN,zN,zN] 66 [zI 2,zB false,zS [],zN,zN,zN,zN,zL (some (zA w2 0)) 1 1] λw5=>aIR w5 λxI m w6=>zM w6 [zS [38,38],zS [124,124]] 9 λw7=>aHi sY [zP p,zI 1,zL (some (zA w6 0)) 2 2] w7 R λr w8=>aq r (False) (cg w8 (zA w3 6) λv vL vC=>aq (decide ((vL:Int)=0)) (cg w8 (zA w3 7) λv1 cJ dZ=>zD 0 cJ (aE v1 (λa=>Cx w8 (a.add (Int.toNat 0*8)) λbZ eH b_ aHq aHo eu aHm aHk aHl aHp eo aHn eL eD eE eF eA eB=>zC (zA w 0) w8 [zI bZ,zB eH,zS b_,zL aHq aHo eu,zL aHm aHk aHl,zL aHp eo aHn,zL eL eD eE,zL eF eA eB] λw9=>aHF w9 w.heap.size λeC iP eP iH iE iF iB iz iA iG iC iD iQ iK iL iM iI iJ=>zR R (.agg #[zI eC,zB iP,zS eP,zL iH iE iF,zL iB iz iA,zL iG iC iD,zL iQ iK iL,zL iM iI iJ]) w9))) (False))):an Py #[zP p,zI depth] w R:=
 aHs {live:=[(28,[])],c_:=[],ef:=[450,123]} Tryz.func131 rfl (Eq.mp (by kernel_rfl) aC)
def akA(p:zO)(kind:Int)(text:zT)(aC:zM w [zS text] 9 λw1=>aHi sY [zP p,zI kind,zL (some (zA w 0)) 1 1] w1 R λr w2=>aq r (aH7 aJ0 [zP p] w2 R λcM aIL w3=>zR R (zB r) w3) (zR R (zB r) w2)):an vE #[zP p,zI kind,zS text] w R:=
 aW [] [] Tryz.func132 rfl aC
def alf(p:zO)(kind:Int)(texts:zO)(aen aeo:Nat)(aC:aH7 qN [zP p,zI 0] w R λcM aIL w1=>zX w1 [zI 0,zS []] 203 [zI cM,zS aIL] λw3=>bU w3 (zA w1 0) λv=>aq (decide (v=kind)) (bE w3 (zA w1 1) λv1=>aHi zw [zL texts aen aeo,zS v1] w3 R λr w4=>zR R (zB r) w4) (zR R (zB false) w3)):an sY #[zP p,zI kind,zL texts aen aeo] w R:=
 aW [] [] Tryz.func133 rfl aC
def ajw(l:zO)(lL lC:Nat)(f:Value)(aC:0<=(lL:Int)/\(lL:Int)<=(lL:Int)/\16*(lL:Int)<=281474976710656/\(lL:Int)<=9223372036854775807/\cP (w.alloc (.cells (madeCells #[zS []] (Int.toNat (lL:Int)*1)) 9)) (λw1=>aHH 0 w1 λxI m x w2=>aq (decide (x<(lL:Int))) (False) (zR R (zL (some (zA w 0)) (Int.toNat (lL:Int)) (Int.toNat (lL:Int))) w2))):an O5 #[zL l lL lC,f] w R:=
 aHs {live:=[(58,[(13,(.leaf (.int .i64)))])],c_:=[],ef:=[932]} Tryz.func134 rfl (Eq.mp (by kernel_rfl) aC)
def ajH(l:zO)(lL lC:Nat)(f:Value)(aC:0<=(lL:Int)/\(lL:Int)<=(lL:Int)/\16*(lL:Int)<=281474976710656/\(lL:Int)<=9223372036854775807/\cP (w.alloc (.cells (madeCells #[zS []] (Int.toNat (lL:Int)*1)) 9)) (λw1=>aHH 0 w1 λxI m x w2=>aq (decide (x<(lL:Int))) (zD x lL (aE l (λa=>cg w2 (a.add (Int.toNat x*1)) λv vL vC=>gj f (λg first cap=>aq (cY aL g) (an g ⟨first++([zL v vL vC]++cap)⟩ w2 (λed w3=>(∃r:zT,ed=.returned (zS r)/\zD x (Int.toNat (lL:Int)) (zC ((zA w 0).add (Int.toNat x*1)) w3 [zS r] λw4=>xI (i64.wrap (x+1)) w4/\m (i64.wrap (x+1)) w4<m x w2))\/(∃ch,ed=.panicked ch/\R (.panicked ch) w3))) False)))) (zR R (zL (some (zA w 0)) (Int.toNat (lL:Int)) (Int.toNat (lL:Int))) w2))):an XL #[zL l lL lC,f] w R:=
 aW [(58,[(13,(.leaf (.int .i64)))])] [] Tryz.func136 rfl aC
def ajI(l:zO)(lL lC:Nat)(f:Value)(aC:0<=(lL:Int)/\(lL:Int)<=(lL:Int)/\16*(lL:Int)<=281474976710656/\(lL:Int)<=9223372036854775807/\cP (w.alloc (.cells (madeCells #[zS []] (Int.toNat (lL:Int)*1)) 9)) (λw1=>aHH 0 w1 λxI m x w2=>aq (decide (x<(lL:Int))) (zD x lL (aE l (λa=>Cx w2 (a.add (Int.toNat x*8)) λbZ eH b_ aHq aHo eu aHm aHk aHl aHp eo aHn eL eD eE eF eA eB=>zX w2 [zI 0,zB false,zS [],zN,zN,zN,zN,zN] 66 [zI bZ,zB eH,zS b_,zL aHq aHo eu,zL aHm aHk aHl,zL aHp eo aHn,zL eL eD eE,zL eF eA eB] λw4=>aHF w4 w2.heap.size λeC iP eP iH iE iF iB iz iA iG iC iD iQ iK iL iM iI iJ=>gj f (λg first cap=>aq (cY aL g) (an g ⟨first++([.agg #[zI eC,zB iP,zS eP,zL iH iE iF,zL iB iz iA,zL iG iC iD,zL iQ iK iL,zL iM iI iJ]]++cap)⟩ w4 (λed w5=>(∃r:zT,ed=.returned (zS r)/\zD x (Int.toNat (lL:Int)) (zC ((zA w 0).add (Int.toNat x*1)) w5 [zS r] λw6=>xI (i64.wrap (x+1)) w6/\m (i64.wrap (x+1)) w6<m x w2))\/(∃ch,ed=.panicked ch/\R (.panicked ch) w5))) False)))) (zR R (zL (some (zA w 0)) (Int.toNat (lL:Int)) (Int.toNat (lL:Int))) w2))):an XM #[zL l lL lC,f] w R:=
 aW [(58,[(13,(.leaf (.int .i64)))])] [] Tryz.func137 rfl aC
def YX(s:zT)(aC:cP (w.alloc (.stringIter (S s) 0)) (λw1=>aIR w1 λxI m w2=>(zA w 0).off=0/\∃(b:zT)(pos:Nat),w2.heap[(zA w 0).block]?=some (.stringIter ⟨⟨b⟩⟩ pos)/\aq (decide (pos<b.length)) (cP (w2.iterAt (zA w 0).block ⟨⟨b⟩⟩ (pos+(Utf8.decode ⟨⟨b⟩⟩ pos).2)) (λw3=>aHi Kv [.int .i32 ((Utf8.decode ⟨⟨b⟩⟩ pos).1:Int)] w3 R λr w4=>aq (! r) (aq (decide ((pos:Int)=0)) (0<=(pos:Int)/\(pos:Int)<=s.length/\zR R (zS (s.take (Int.toNat (pos:Int)))) w4) (aHi KB [.int .i32 ((Utf8.decode ⟨⟨b⟩⟩ pos).1:Int)] w4 R λr1 w5=>aq (! r1) (0<=(pos:Int)/\(pos:Int)<=s.length/\zR R (zS (s.take (Int.toNat (pos:Int)))) w5) (xI w5/\m w5<m w2))) (xI w4/\m w4<m w2))) (zR R (zS s) w2))):an aJ_ #[zS s] w R:=
 aW [(26,[])] [] Tryz.func144 rfl aC
def akX(p ops:zO)(opsL aga:Nat)(aC:cQ Dn [zP p] w R λr w1=>aq (decide (r=[])) (zR R (zS []) w1) (aHi zw [zL ops opsL aga,zS r] w1 R λr1 w2=>aq (! r1) (zR R (zS []) w2) (aE p (λa=>bE w2 a λv=>0<=(r.length:Int)/\(r.length:Int)<=v.length/\aE p (λa1=>zC a1 w2 [zS (v.drop (Int.toNat (r.length:Int)))] λw3=>zR R (zS r) w3))))):an aJ2 #[zP p,zL ops opsL aga] w R:=
 aW [] [] Tryz.func145 rfl aC
def XP(p:zO)(l depth:Int)(aC:aHy Km [] w R λr rL rC w1=>aq (decide (l=(rL:Int))) (lI PA [zP p,zI depth] w1 R λr1 w2=>zR R (zP r1) w2) (lI FB [zP p,zI (i64.wrap (l+1)),zI depth] w1 R λr2 w3=>∃(xI:zO->zW->Prop)(m:zO->zW->Nat),(xI r2 w3)/\∀(a:zO)(aJf:zU)(w4:zW),(xI a w4)->aHy Km [] w4 R λr3 jv lX w5=>zD l jv (aE r3 (λa1=>cg w5 (a1.add (Int.toNat l*1)) λv vL vC=>cQ aJ2 [zP p,zL v vL vC] w5 R λr4 w6=>aq (decide (r4=[])) (zR R (zP a) w6) (lI FB [zP p,zI (i64.wrap (l+1)),zI depth] w6 R λr5 w7=>zM w7 [zP a,zP r5] 74 λw8=>zM w8 [zI 3,zI 0,zS r4,zS [],zL (some (zA w7 0)) 2 2] 147 λw9=>aq (decide (r4=[124,124])) (zC (zA w8 0) w9 [zI 5] λaP=>xI (some (zA w8 0)) aP/\m (some (zA w8 0)) aP<m a w4) (aq (decide (r4=[38,38])) (zC (zA w8 0) w9 [zI 4] λbg=>xI (some (zA w8 0)) bg/\m (some (zA w8 0)) bg<m a w4) (xI (some (zA w8 0)) w9/\m (some (zA w8 0)) w9<m a w4))))))):an FB #[zP p,zI l,zI depth] w R:=
 aW [(30,[(7,(.leaf .ptr))])] [] Tryz.func147 rfl aC
def ZS(l:zO)(lL lC:Nat)(name:zT)(w:zW)(R:zE):Prop:=HM aKD [zL l lL lC,zS name] (w.alloc (.cells #[zS [],zS [],zB false,zB false] 32)) R λr r1 w1=>jZ (λxJ=>aq r1 (zD r lL (aE l (λa=>NC w1 (a.add (Int.toNat r*4)) λb_ me qV rS=>Wr w1 (zA w 0)/\Wr (w1.setCell (zA w 0) (zS b_)) (zA w 1)/\Wr ((w1.setCell (zA w 0) (zS b_)).setCell (zA w 1) (zS me)) (zA w 2)/\Wr (((w1.setCell (zA w 0) (zS b_)).setCell (zA w 1) (zS me)).setCell (zA w 2) (zB qV)) (zA w 3)/\xJ ((((w1.setCell (zA w 0) (zS b_)).setCell (zA w 1) (zS me)).setCell (zA w 2) (zB qV)).setCell (zA w 3) (zB rS))))) (xJ w1)) λw2=>VN w2 w.heap.size λeP rY aKb By=>Wr w2 (zA w 0)/\Wr (w2.setCell (zA w 0) (zS eP)) (zA w 1)/\Wr ((w2.setCell (zA w 0) (zS eP)).setCell (zA w 1) (zS rY)) (zA w 2)/\Wr (((w2.setCell (zA w 0) (zS eP)).setCell (zA w 1) (zS rY)).setCell (zA w 2) (zB aKb)) (zA w 3)/\∃(mI:zT)(DS:zT)(aau:Bool)(aav:Bool),((((w2.setCell (zA w 0) (zS eP)).setCell (zA w 1) (zS rY)).setCell (zA w 2) (zB aKb)).setCell (zA w 3) (zB By)).cell? (zA w 0)=some (zS mI)/\((((w2.setCell (zA w 0) (zS eP)).setCell (zA w 1) (zS rY)).setCell (zA w 2) (zB aKb)).setCell (zA w 3) (zB By)).cell? (zA w 1)=some (zS DS)/\((((w2.setCell (zA w 0) (zS eP)).setCell (zA w 1) (zS rY)).setCell (zA w 2) (zB aKb)).setCell (zA w 3) (zB By)).cell? (zA w 2)=some (zB aau)/\((((w2.setCell (zA w 0) (zS eP)).setCell (zA w 1) (zS rY)).setCell (zA w 2) (zB aKb)).setCell (zA w 3) (zB By)).cell? (zA w 3)=some (zB aav)/\zR R (.tuple #[.agg #[zS mI,zS DS,zB aau,zB aav],zB r1]) ((((w2.setCell (zA w 0) (zS eP)).setCell (zA w 1) (zS rY)).setCell (zA w 2) (zB aKb)).setCell (zA w 3) (zB By))
def anU(l:zO)(lL lC:Nat)(name:zT)(aC:ZS l lL lC name w R):an Gc #[zL l lL lC,zS name] w R:=
 aW [(7,[])] [] Tryz.func148 rfl aC
end Go.Proofs.YtihaaoehhgmphaaGreatDoor
