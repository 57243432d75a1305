/- Texts of one proof, one behind the other. Conditions: as each theorem names them. -/
import Derived.Test.YtihaaoehhgmphaaGreatDoorQ8
import Derived.Lib.IndexMore
import Derived.Lib.ItoaMem
set_option linter.all false
namespace Go.Proofs.YtihaaoehhgmphaaGreatDoor.L
open IntKind
def abx:∀(n:Nat) (s:ag),s.length<=n->∀l,toks s=some l->l.length<=s.length/\∀x∈l,x.2.length<=s.length/\x.2≠[]/\x.1<3
 |_,[],_,l,h=>by rw[TA]at h;obtain rfl:=bU h;exact⟨aV _,λx hx=>by cases hx⟩
 |0,a::r,hn,_,_=>by simp only[bf]at hn;omega
 |n+1,a::r,hn,l,h=>by
  rw[SZ]at h;cases h1:ku a r with
  |none=>rw[h1]at h;cases h
  |some y=>
   obtain⟨l1,t⟩:=y;rw[h1]at h;simp only[Option.bind]at h;cases h2:toks t with
   |none=>rw[h2]at h;cases h
   |some m=>
    rw[h2]at h;obtain rfl:=bU h;have hlen:=RX h1;simp only[bf]at hn⊢;obtain⟨i1,i2⟩:=abx n t (by omega) m h2;refine⟨by rw[cB];omega,λx hx=>?_⟩;rcases kW.1 hx with hx|hx
    .rcases aqd h1 with⟨_,rfl,rfl⟩|⟨_,rfl,rfl⟩|⟨_,rfl,rfl⟩|⟨_,_,rfl,rfl⟩|⟨_,_,p,hp,hpt,_,rfl⟩
     .cases hx
     .cases hx
     .obtain rfl:=gE.1 hx
      exact⟨by simp,by simp,by show 2<3;decide⟩
     .obtain rfl:=gE.1 hx
      have ho:=Tz (a:=a) (r:=r);simp only[bf]at ho;refine⟨?_,λe=>?_,by show 1<3;decide⟩
      .rw[aHl,bf]
       omega
      .have:=gJ List.length e
       rw[aHl,bf]at this;simp only[aHf]at this;omega
     .obtain rfl:=gE.1 hx
      refine⟨?_,hp,by show 0<3;decide⟩;have:=gJ List.length hpt;simp only[bf,cB]at this;show p.length<=_
      omega
    .obtain⟨j1,j2,j3⟩:=i2 x hx
     exact⟨by omega,j2,j3⟩
def Er(s:ag):Bool:=(iK s).1.all λx=>!(CM.contains x)&& !(x.2.contains 123)
def atp(s:ag)(hp:Er s=true):TB (iK s).1:=by
 have hp:∀x∈(iK s).1,x∉CM/\123∉x.2:=λx hx=>by have:=pY.1 hp x hx;simpa using this
 revert hp;unfold iK;split
 .exact λ_=>⟨by simp,λx hx=>by cases hx⟩
 .split
  .intro hp
   rename_i qs _ l hl;obtain⟨h1,h2⟩:=abx _ s (aV _) l hl;refine⟨by show l.length<=_;omega,λx hx=>?_⟩;obtain⟨j1,j2,j3⟩:=h2 x hx;exact⟨by omega,j2,by omega,hp x hx⟩
  .exact λ_=>⟨by simp,λx hx=>by cases hx⟩
def nd0:Nd:=.mk 0 false [] [] [] [] [] []
def qT(s:ag):Nd×Int:=if Er s=false then(nd0,999)else if(iK s).2=0 then match Ej (iK s).1 with
 |.ok x=>(x,0)
 |.bad k=>(nd0,(k:Int))
 else(nd0,(iK s).2)
end Go.Proofs.YtihaaoehhgmphaaGreatDoor.L
namespace Go.Proofs.YtihaaoehhgmphaaGreatDoor.L
open IntKind Go.RowKit Vc
variable{w:World}
def Ef(w:World)(F:Nat->Prop):ey w F nd0 qd:=by
 refine⟨_,_,_,_,none,0,rfl,?_,?_,?_,?_,aV _,λh=>absurd rfl h⟩
 .exact⟨none,0,rfl,aV _,λh=>absurd rfl h⟩
 .exact⟨none,0,rfl,aV _,λh=>absurd rfl h⟩
 .exact⟨none,0,rfl,aV _,λh=>absurd rfl h⟩
 .exact⟨none,0,rfl,aV _,λh=>absurd rfl h⟩
def agk(w:World)(F:Nat->Prop):∀l:List Tok,WJ.Cs w F l (tc l)
 |[]=>rfl
 |x::r=>⟨[.int .i64 (x.1:Int),.string (S x.2)],tc r,rfl,rfl,agk w F r⟩
def awE{B:Nat}{v:Value}{l:List Tok}(hv:∃p C,v=.slice p l.length C)(h:aS w B 203 2 v l.length (tc l)):WJ.At w (λk=>B<=k/\k<w.heap.size) l v:=by obtain⟨p,C,rfl⟩:=hv;exact cA.aHm.at (X:=λk=>k<w.heap.size) (gn:=w.heap.size) ⟨p,C,tc l,rfl,h,λk hk=>⟨(h.lt k hk).2,Gm (h.lt k hk).2⟩,agk _ _ _⟩
def aKn{w4:World}{ge:Nat}{x:Nd}{cs:List Value}{er:Int}{R:Ending->World->Prop}(hr:Row w4 w.heap.size 66 ⟨cs⟩)(he:Row w4 ge 28 ⟨[.int .i64 er]⟩)(hn:ey w4 (λk=>w.heap.size<=k/\k<w4.heap.size) x cs)
  (hR:R (.returned (.tuple #[.agg ⟨cs⟩,.int .i64 er])) w4):∃cH:Int,∃fK:Bool,∃cC:List UInt8,∃(aHx:Option Addr) (fA fB:Nat),∃(aHv:Option Addr) (aHt aHu:Nat),∃(aHw:Option Addr) (fu fy:Nat),∃(aHy:Option Addr) (fG fH:Nat),∃(fI:Option Addr) (fE fF:Nat),w4.cell? (Addr.mk w.heap.size 0 none)=some (.int .i64 cH)/\w4.cell? (Addr.mk w.heap.size 1 none)=some (.bool fK)/\w4.cell? (Addr.mk w.heap.size 2 none)=some (.string (S cC))/\w4.cell? (Addr.mk w.heap.size 3 none)=some (.slice aHx fA fB)/\w4.cell? (Addr.mk w.heap.size 4 none)=some (.slice aHv aHt aHu)/\w4.cell? (Addr.mk w.heap.size 5 none)=some (.slice aHw fu fy)/\w4.cell? (Addr.mk w.heap.size 6 none)=some (.slice aHy fG fH)/\w4.cell? (Addr.mk w.heap.size 7 none)=some (.slice fI fE fF)/\∃v2:Int,w4.cell? (Addr.mk ge 0 none)=some (.int .i64 v2)/\R (.returned (.tuple #[(.agg #[(.int .i64 cH),(.bool fK),(.string (S cC)),(.slice aHx fA fB),(.slice aHv aHt aHu),(.slice aHw fu fy),(.slice aHy fG fH),(.slice fI fE fF)]),(.int .i64 v2)])) w4:=by
 obtain⟨pw,cw,pa,ca,pr,cr,po,co,pk,ck,rfl,_⟩:=hn.outs;exact⟨_,_,_,_,_,_,_,_,_,_,_,_,_,_,_,_,_,_,hr.aj rfl,hr.aj rfl,hr.aj rfl,hr.aj rfl,hr.aj rfl,hr.aj rfl,hr.aj rfl,hr.aj rfl,_,he.aj rfl,hR⟩
def axQ(w:World)(r:Nd×Int)(e:Ending)(w':World):Prop:=∃cs,e=.returned (.tuple #[.agg ⟨cs⟩,.int .i64 r.2])/\ey w' (λk=>w.heap.size<=k/\k<w'.heap.size) r.1 cs/\Still w w'
def kK(s:ag)(hs:(qT s).2=0):aq KU #[.string (S s)] w (axQ w (qT s)):=by
 have hpl:Er s=true:=by
  cases h:Er s with
  |true=>rfl
  |false=>unfold qT at hs;rw[aL h]at hs;cases hs
 apply amy;refine aQ λw1 r1 s1 z1=>aQ λw2 r2 s2 z2=>(ap7 s).mono ?_;rintro _ w3 ⟨p,C,rfl,ho,s3⟩;have E2:Row w3 w.heap.size 66 ⟨qd⟩:=(r1.still s2).still s3;have er3:=r2.still s3;have vO:=s3.size;refine .inl ⟨_,_,_,_,rfl,aHb er3 λw4 Fz m4 z4=>?_⟩;have Fz:Row w4 w1.heap.size 28 ⟨[.int .i64 (iK s).2]⟩:=Fz;have N8:=E2.mod m4 (by omega);have lp:Still w w4:=Mod.trans ((s1.trans s2).trans s3) m4 (λ_ h=>h) (λi hi e=>by omega);have WL:=(awE ⟨_,_,rfl⟩ ho);refine⟨_,Fz.aj rfl,aA (λhx=>?_) (λhx=>?_)⟩
 .have hne:(iK s).2≠0:=by simpa using hx
  have hp:qT s=(nd0,(iK s).2):=by unfold qT;rw[aG (by rw[hpl];decide),aG hne]
  rw[hp];have aht:=Fz.still (iH w4);have ayG:=N8.still (iH w4);refine⟨λwq=>wq.cell? (Addr.mk w1.heap.size 0 none)=some (.int .i64 (iK s).2),aht.aj rfl,_,λ_ h=>h,aHb ayG λw5 r5 m5 z5=>?_⟩;have er5:=aht.mod m5 (by omega);refine⟨er5.aj rfl,aHb er5 λw6 er6 m6 z6=>?_⟩;have r6:Row w6 w.heap.size 66 ⟨qd⟩:=(show Row w5 w.heap.size 66 ⟨qd⟩from r5).mod m6 (by omega);have sM:Still w w6:=Mod.trans (Mod.trans (lp.trans (iH w4)) m5 (λ_ h=>h) (λi hi e=>by omega)) m6 (λ_ h=>h) (λi hi e=>by omega);exact aKn r6 er6 (Ef _ _) ⟨_,rfl,Ef _ _,sM⟩
 .have xM:(iK s).2=0:=by simpa using hx
  have hp:qT s=match Ej (iK s).1 with
   |.ok x=>(x,0)
   |.bad k=>(nd0,(k:Int)):=by unfold qT;rw[aG (by rw[hpl];decide),aL xM];try cases Ej (iK s).1<;>rfl
  rw[hp];have hb:=atp s hpl;rw[xM]at Fz;generalize(iK s).1=ts at*;refine aQ λw7 r7 s7 z7=>?_;have er7:=Fz.still s7;have aAs:=N8.still s7;have hpz:Pz w7 w4.heap.size ts:=by refine⟨p,C,r7,?_⟩;refine WL.dN (λk hk=>by omega) λa v ⟨k,hk,ea⟩ hcell=>s7.cell (wT m4 (by rw[ea];omega) hcell)
  have hl:=awD (L:=30) (arx (by decide)) hpz hb;have e1:(31-((30:Nat):Int))=1:=by decide
  rw[e1]at hl;refine hl.mono ?_;rintro e8 w8 ⟨o8,tT⟩;have er8:=er7.mod o8 (by omega);have ahu:=aAs.mod o8 (by omega);have hz8:=o8.size;have hz7:w.heap.size+2<=w4.heap.size:=by omega
  have Fw:Still w w8:=Mod.trans (lp.trans s7) o8 (λ_ h=>h) (λi hi e=>by omega);have panics:∀(k:Nat) (w9:World) (cs:List Value) (hcs:cs.length=8),Row w9 w.heap.size 66 ⟨cs⟩->Row w9 w1.heap.size 28 ⟨[.int .i64 0]⟩->Still w w9->∀K:Ending->FrameMode->World->Prop,(∀w',Row w' w.heap.size 66 ⟨qd⟩->Row w' w1.heap.size 28 ⟨[.int .i64 (k:Int)]⟩->Still w w'->∀u,settle u=.returning->K (.returned (.tuple #[])) u w')->
    CallsD aM KI #[.pointer (some ⟨w.heap.size,0,none⟩),.pointer (some ⟨w1.heap.size,0,none⟩)] (.panicking (k7 k)) w9 K:=by
   intro k w9 cs hcs pQ he9 s9 K hK;refine(apl ⟨w.heap.size,0,none⟩ ⟨w1.heap.size,0,none⟩ k w9 (λw'=>Row w' w.heap.size 66 ⟨qd⟩/\Row w' w1.heap.size 28 ⟨[.int .i64 (k:Int)]⟩/\Still w w') ?_).mono ?_
   .have aAt:=pQ.still (iH w9)
    have aAu:=he9.still (iH w9);obtain⟨a0,a1,a2,a3,a4,a5,a6,a7,rfl⟩:∃a0 a1 a2 a3 a4 a5 a6 a7,cs=[a0,a1,a2,a3,a4,a5,a6,a7]:=by
     match cs,hcs with
     |[a0,a1,a2,a3,a4,a5,a6,a7],_=>exact⟨_,_,_,_,_,_,_,_,rfl⟩
    refine aHb aAt λwa ra ma za=>aHb (aAu.mod ma (by omega)) λwb rb mb zb=>⟨(show Row wa w.heap.size 66 ⟨qd⟩from ra).mod mb (by omega),rb,?_⟩;exact Mod.trans (Mod.trans (s9.trans (iH w9)) ma (λ_ h=>h) (λi hi e=>by omega)) mb (λ_ h=>h) (λi hi e=>by omega)
   .rintro _ u w' ⟨rfl,hu,h1,h2,h3⟩
    exact hK w' h1 h2 h3 u hu
  have JQ:Ej ts=(EA (kF 30).1 ts).and λx=>if x.2=[]then .ok x.1 else .bad 100:=rfl;rw[JQ];clear JQ;cases hr:EA (kF 30).1 ts with
  |bad k=>rw[hr]at tT;refine .inr ⟨_,tT,panics k w8 qd rfl ahu er8 Fw _ λw' h1 h2 h3 u hu=>?_⟩;exact⟨⟨_,rfl⟩,hu,aKn h1 h2 (Ef _ _) ⟨_,rfl,Ef _ _,h3⟩⟩
  |ok y=>
  rw[hr]at tT;obtain⟨cs,rfl,hnd,h8⟩:=tT;obtain⟨pw,cw,pa,ca,pr,cr,po,co,pk,ck,rfl,_⟩:=hnd.outs;rw[Rs.axP];refine .inl ⟨_,_,_,_,_,_,_,_,_,_,_,_,_,_,_,_,_,_,rfl,aHb ahu λw9 r9 m9 z9=>?_⟩;have er9:=er8.mod m9 (by omega);have JR:Still w w9:=Mod.trans Fw m9 (λ_ h=>h) (λi hi e=>by omega);have aAv:=(hnd.mod m9 λk hk (e:k=w.heap.size)=>by have hk1:w7.heap.size<=k:=hk.1;omega);have Fg:=m9.size;obtain⟨a9,c9,ayH,_⟩:=h8;have ayI:=ayH.mod m9 (by omega);have r9:Row w9 w.heap.size 66 ⟨aHJ y.1 (.slice pw y.1.ws.length cw) (.slice pa y.1.gA.length ca) (.slice pr y.1.rs.length cr) (.slice po y.1.os.length co) (.slice pk y.1.ks.length ck)⟩:=r9;refine⟨a9,y.2.length,c9,ayI.aj rfl,(abo _).mono ?_⟩;rintro _ aO ⟨rfl,rfl⟩
  by_cases hy:y.2=[]
  .rw[aL hy]
   rw[aL (by rw[hy];decide)];refine .inl ⟨rfl,_,_,_,_,_,_,_,_,_,_,_,_,_,_,_,_,_,_,r9.aj rfl,r9.aj rfl,r9.aj rfl,r9.aj rfl,r9.aj rfl,r9.aj rfl,r9.aj rfl,r9.aj rfl,aHb r9 λbh aHz m11 zG=>aHb (er9.mod m11 (by omega)) λbE aAw m12 z12=>(ary _ _ _).mono ?_⟩;rintro _ u bw ⟨rfl,rfl,rfl⟩;have aHz:Row bh w.heap.size 66 ⟨aHJ y.1 (.slice pw y.1.ws.length cw) (.slice pa y.1.gA.length ca) (.slice pr y.1.rs.length cr) (.slice po y.1.os.length co) (.slice pk y.1.ks.length ck)⟩:=aHz;have ahv:=((aAv.mod m11 λk hk (e:k=w.heap.size)=>by have hk1:w7.heap.size<=k:=hk.1;omega).mod m12 λk hk (e:k=w1.heap.size)=>by have hk1:w7.heap.size<=k:=hk.1;omega).mono (G:=λk=>w.heap.size<=k/\k<bw.heap.size) λk hk=>by have hk1:w7.heap.size<=k:=hk.1;have hk2:k<w8.heap.size:=hk.2;exact⟨by omega,by omega⟩
   have fZ:Still w bw:=Mod.trans (Mod.trans JR m11 (λ_ h=>h) (λi hi e=>by omega)) m12 (λ_ h=>h) (λi hi e=>by omega);exact⟨⟨_,rfl⟩,rfl,aKn (aHz.mod m12 (by omega)) aAw ahv ⟨_,rfl,ahv,fZ⟩⟩
  .rw[aG hy]
   have hd:decide (((y.2.length:Nat):Int)=(0:Int))=false:=eX λe=>hy (pU (by omega));rw[hd,aG (by decide)];refine .inr ⟨_,rfl,panics 100 aO _ rfl r9 er9 JR _ λw' h1 h2 h3 u hu=>?_⟩;exact⟨⟨_,rfl⟩,hu,aKn h1 h2 (Ef _ _) ⟨_,rfl,Ef _ _,h3⟩⟩
end Go.Proofs.YtihaaoehhgmphaaGreatDoor.L
namespace Go.Proofs.YtihaaoehhgmphaaGreatDoor
open IntKind Go.RowKit Vc
set_option maxRecDepth 100000
variable{w w0:World}
def Xw(a:Nat)(fuel:Int)(mp:Option Addr)(mn mc:Nat):List Value:=
 [.pointer (some ⟨a,0,none⟩),.int .i64 0,.bool false,.int .i64 0,.string (S []),.string (S []),.slice none 0 0,.string (S []),.slice none 0 0,.slice mp mn mc,.int .i64 0,.int .i64 0,.int .i64 0,.int .i64 0,.int .i64 fuel,.pointer none,.slice none 0 0]
def Made(w:World)(a:Nat)(bu:ag)(fuel:Int)(ex:Option Addr)(w':World):Prop:=∃hb sb pb fm,ex=some ⟨hb,0,none⟩/\w.heap.size<=hb/\w.heap.size<=sb/\w.heap.size<=fm/\Row w' hb fQ ⟨oU sb pb none 0 0 0 fm bu [] 0 0 0⟩/\Row w' sb kP ⟨Xw a fuel none 0 0⟩/\iM w' pb a/\dM w' fm []/\Still w w'
def vb(T:Tree)(bu:ag)(fuel:Nat):Sh:=⟨T,[],0,bu,[],0,0,0,fuel,0,[],1000⟩
def I0{C:World->Prop}(h:∀w1,dM w1 w.heap.size []->Still w w1->w1.heap.size=w.heap.size+1->C w1):c7 (w.alloc (.map #[] 0)) C:=h _ (dM.new w) ((Mod.refl _ _).alloc _) (World.size_alloc ..)
set_option maxHeartbeats 1000000 in
def adC(b_:fJ w0)(h0:Still w0 w){a g:Nat}{T:Tree}(hst:cU w w0.heap.size a g none 0 T)(hT:k4 T)(script bu:ag){fuel:Nat}(hf:fuel<=1000000){n:L.Nd}(hp:L.qT script=(n,0)){s':Sh}(hex:aHN n (vb T bu fuel) s'):
  aq Lb #[.pointer (some ⟨a,0,none⟩),.string (S script),.agg #[.string (S []),.int .i64 0,.slice none 0 0,.slice none 0 0,.string (S bu),.int .i64 (fuel:Int),.bool false,.slice none 0 0]] w (λe w'=>(∃(p1:Option Addr) (n1 c1:Nat) (cw:ag) (p2:Option Addr) (n2 c2:Nat) (p3:Option Addr) (n3 c3:Nat) (i1 i2 i3 i4:Int),e=.returned (.agg #[.int .i64 s'.st,.string (S s'.out),.string (S s'.err),.slice p1 n1 c1,.string (S cw),.slice p2 n2 c2,.slice p3 n3 c3,.int .i64 i1,.int .i64 i2,.int .i64 i3,.int .i64 i4]))/\cU w' w0.heap.size a g none 0 s'.T/\k4 s'.T/\Still w0 w'/\w.heap.size<=w'.heap.size):=by
 have hz0:=h0.size;apply ane;refine aQ λw1 r1 s1 z1=>aQ λw2 r2 s2 z2=>?_;have q1:=r1.still s2;have dP:=s1.trans s2;have sD:Still w2 w2.drew:=(Still.refl _).cy;have pS:=q1.still sD;have N3:=dP.trans sD;have ew:(if(0:Int)>(fuel:Int)then(0:Int)else(fuel:Int))=(fuel:Int):=aG (by omega);have eb:bits .and .i64 0 7=0:=by decide
 refine⟨Made w2 a bu fuel,⟨λwq=>Row wq w.heap.size 57 ⟨[.string (S []),.int .i64 0,.slice none 0 0,.slice none 0 0,.string (S bu),.int .i64 (fuel:Int),.bool false,.slice none 0 0]⟩,pS,_,λwq hq=>hq.aj rfl,_,λwq hq=>hq.aj rfl,_,λwq hq=>hq.aj rfl,_,λwq hq=>hq.aj rfl,_,λwq hq=>hq.aj rfl,_,λwq hq=>hq.aj rfl,_,λwq hq=>hq.aj rfl,?_,?_,?_⟩,?_⟩
 .rw[ew,eb]
  refine aQ λw3 r3 s3 z3=>⟨pS.still s3,(Ak rfl).mono ?_,I0 λw7 r7 s7 z7=>⟨(pS.still s3).still s7,(Ak rfl).mono ?_⟩⟩
  .rintro _ w4 ⟨rfl,p4,s4,z4⟩
   refine .inl ⟨_,rfl,(pS.still s3).still s4,I0 λw5 r5 s5 z5=>⟨((pS.still s3).still s4).still s5,aQ λw6 r6 s6 z6=>?_⟩⟩;have hz:=((s3.trans s4).trans s5).size;have BC:=(s3.trans s4).size;exact⟨_,_,_,_,rfl,hz,aV _,BC,r6,((r3.still s4).still s5).still s6,(p4.still s5).still s6,r5.still s6,((((sD.trans s3).trans s4).trans s5).trans s6)⟩
  .rintro _ w8 ⟨rfl,p8,s8,z8⟩
   refine .inl ⟨_,rfl,((pS.still s3).still s7).still s8,aQ λw9 r9 s9 z9=>?_⟩;exact⟨_,_,_,_,rfl,((s3.trans s7).trans s8).size,aV _,s3.size,r9,((r3.still s7).still s8).still s9,p8.still s9,(r7.still s8).still s9,(((sD.trans s3).trans s7).trans s8).trans s9⟩
 .rw[ew,eb]
  refine(Ak rfl).mono ?_;rintro _ aO ⟨rfl,xW,fY,aIs⟩;refine .inl ⟨_,rfl,pS.still fY,aQ λbh aHz pP zG=>⟨(pS.still fY).still pP,I0 λbE gP fZ z12=>⟨((pS.still fY).still pP).still fZ,aQ λbw ld iE xT=>?_⟩⟩,I0 λbO sJ lq OY=>⟨(pS.still fY).still lq,aQ λb8 ri aJA JM=>⟨((pS.still fY).still lq).still aJA,aQ λaHe r16 lB Xv=>?_⟩⟩⟩
  .exact⟨_,_,_,_,rfl,((fY.trans pP).trans fZ).size,fY.size,(fY.trans pP).size,ld,(aHz.still fZ).still iE,((xW.still pP).still fZ).still iE,gP.still iE,(((sD.trans fY).trans pP).trans fZ).trans iE⟩
  .exact⟨_,_,_,_,rfl,((fY.trans lq).trans aJA).size,(fY.trans lq).size,fY.size,r16,ri.still lB,((xW.still lq).still aJA).still lB,(sJ.still aJA).still lB,(((sD.trans fY).trans lq).trans aJA).trans lB⟩
 .rw[ew,eb]
  refine I0 λcF aIe sQ z17=>⟨pS.still sQ,aQ λcL xF ot z18=>⟨(pS.still sQ).still ot,(Ak rfl).mono ?_⟩,(Ak rfl).mono ?_⟩
  .rintro _ dV ⟨rfl,p19,aHI,z19⟩
   refine .inl ⟨_,rfl,((pS.still sQ).still ot).still aHI,aQ λeu aIr ni z20=>?_⟩;exact⟨_,_,_,_,rfl,((sQ.trans ot).trans aHI).size,sQ.size,aV _,aIr,(xF.still aHI).still ni,p19.still ni,((aIe.still ot).still aHI).still ni,(((sD.trans sQ).trans ot).trans aHI).trans ni⟩
  .rintro _ eM ⟨rfl,p21,tU,z21⟩
   refine .inl ⟨_,rfl,(pS.still sQ).still tU,aQ λeO zq Du z22=>⟨((pS.still sQ).still tU).still Du,aQ λk_ Da aJU z23=>?_⟩⟩;exact⟨_,_,_,_,rfl,((sQ.trans tU).trans Du).size,(sQ.trans tU).size,aV _,Da,zq.still aJU,(p21.still Du).still aJU,((aIe.still tU).still Du).still aJU,(((sD.trans sQ).trans tU).trans Du).trans aJU⟩
 rintro _ _ jO ⟨hb,sb,pb,fm,rfl,l1,l2,l3,rh,rs,pp,ff,jd⟩;have aAx:Still w jO:=dP.trans jd;have JS:=q1.still jd;have jz:=dP.size;refine⟨_,_,_,JS.aj rfl,_,_,_,JS.aj rfl,dO (g:=hb) (o:=3) rh (by simp[oU]) (by simp[Value.oneCell']) λmY Db FA z25=>?_⟩
 replace Db:Row mY hb fQ ⟨oU sb pb none 0 0 0 fm bu [] 0 0 0⟩:=Db
 have ne1:sb≠hb:=rs.ne rh (by decide);have ne2:pb≠hb:=pp.ne rh (by decide);have aAy:=rs.mod FA ne1;have aAz:=pp.mod FA ne2;have aAA:=ff.mod FA λe=>ff.aHg rh e;have Xx:=JS.mod FA (JS.ne rh (by decide));have aAB:Still w mY:=aAx.box (by omega) FA;have sE:Still mY mY.drew:=(Still.refl _).cy;refine⟨λwq=>Row wq hb fQ ⟨oU sb pb none 0 0 0 fm bu [] 0 0 0⟩/\Row wq w.heap.size 57 ⟨[.string (S []),.int .i64 0,.slice none 0 0,.slice none 0 0,.string (S bu),.int .i64 (fuel:Int),.bool false,.slice none 0 0]⟩,⟨Db.still sE,Xx.still sE⟩,_,λwq hq=>hq.1.aj rfl,_,_,_,λwq hq=>hq.2.aj rfl,?_⟩;refine(show aq Pw #[.slice none 0 0] mY.drew (λe w'=>e=.returned (.slice none 0 0)/\w'=mY.drew)from ajG _ _ _ _ _ (aA (λ_=>⟨rfl,rfl⟩) (λh=>by cases h))).mono ?_;rintro _ _ ⟨rfl,rfl⟩;refine .inl ⟨_,_,_,rfl,⟨Db.still sE,Xx.still sE⟩,dO (g:=sb) (o:=9) (aAy.still sE) (by simp[Xw]) (by simp[Value.oneCell']) λpM Bu FB z27=>?_⟩
 replace Bu:Row pM sb kP ⟨Xw a fuel none 0 0⟩:=Bu
 have ahw:=(Db.still sE).mod FB ne1.symm;have aAC:=(aAz.still sE).mod FB (pp.ne rs (by decide));have aAD:=(aAA.still sE).mod FB λe=>ff.aHg rs e;have q27:=(Xx.still sE).mod FB (JS.ne rs (by decide));have V5:Still w pM:=(aAB.trans sE).box (by omega) FB;refine(L.kK script (by rw[hp])).mono ?_;rintro _ aJg ⟨cs,rfl,hnd,s28⟩;rw[hp]at hnd⊢;have aAE:=hnd;obtain⟨pw,cw,pa,ca,pr,cr,po,co,pk,ck,rfl,_⟩:=hnd.outs;refine .inl ⟨_,_,_,_,_,_,_,_,_,_,_,_,_,_,_,_,_,_,_,rfl,aQ λJj Wu s29 z29=>aHb (g:=aJg.heap.size) (o:=0) Wu λoe xH m30 z30=>?_⟩;have Vg:Still aJg oe:=s29.box (aV _) m30;have yX:=s28.trans Vg;have V6:=V5.trans yX;have hK:bB oe w0 ⟨a,g,hb,sb,pb,fm⟩ (vb T bu fuel):=by
  have aAF:=Bu.still yX;refine⟨⟨hT,aAC.still yX,aAD.still yX,⟨none,0,ahw.still yX,A.cK.nil _⟩,⟨⟨none,0,0,none,0,0,0,none,.slice none 0 0⟩,eE.fresh aAF rfl rfl,⟨[],aS.nil _ _ _ _⟩,by simp only[vb];refine⟨by decide,by decide,hf⟩⟩,⟨by show w0.heap.size<=hb;omega,by show w0.heap.size<=sb;omega⟩,?_⟩,hst.still V6⟩;have:=hst.now.lt;show g≠fm
  omega
 have aAG:∀k,Ft ⟨a,g,hb,sb,pb,fm⟩ oe k->k<pM.heap.size:=λk hk=>by
  rcases hk with e|e|e|e|⟨v,hv,e⟩|⟨v,hv,e⟩
  .rw[e];exact ahw.lt
  .have h1:=hst.top.lt;have h2:=V5.size;rw[e];show a<_;omega
  .have h1:=hst.now.lt;have h2:=V5.size;rw[e];show g<_;omega
  .rw[e];exact Bu.lt
  .have:oe.cell? ⟨sb,8,none⟩=some (.slice none 0 0):=(Bu.still yX).aj rfl
   rw[show(⟨a,g,hb,sb,pb,fm⟩:Kx).sb=sb from rfl,this]at hv;obtain rfl:=bU hv;cases e
  .have:oe.cell? ⟨sb,16,none⟩=some (.slice none 0 0):=(Bu.still yX).aj rfl
   rw[show(⟨a,g,hb,sb,pb,fm⟩:Kx).sb=sb from rfl,this]at hv;obtain rfl:=bU hv;cases e
 have hD:Kept (λk=>pM.heap.size<=k/\k<aJg.heap.size) (Ft ⟨a,g,hb,sb,pb,fm⟩ oe) oe:=λk hk=>⟨by have:=Vg.size;omega,λhf=>by have:=aAG k hf;omega⟩;have ahx:=h0.trans V6;have ap0:=λ{k:Nat} {ty:TypeId} {cs:Array Value} (hr:Row oe k ty cs) (a b c d e)=>nj hK hr a b c d e;have q30:=q27.still yX;have d30:Row oe w1.heap.size 39 ⟨[.int .i64 0,.string (S []),.string (S []),.slice none 0 0,.string (S []),.slice none 0 0,.slice none 0 0,.int .i64 0,.int .i64 0,.int .i64 0,.int .i64 0]⟩:=by have e1:=(r2.still jd).mod FA (by omega);exact(((e1.still sE).mod FB (by omega)).still yX)
 refine⟨λBr=>bB Br w0 ⟨a,g,hb,sb,pb,fm⟩ s'/\cz (Ft ⟨a,g,hb,sb,pb,fm⟩ oe) oe (Ft ⟨a,g,hb,sb,pb,fm⟩ Br) Br,aA (λ_=>?_) (λhb=>absurd rfl (aX hb)),?_⟩
 .refine⟨_,_,_,_,_,_,_,_,_,_,_,_,_,_,_,_,_,_,xH.aj rfl,xH.aj rfl,xH.aj rfl,xH.aj rfl,xH.aj rfl,xH.aj rfl,xH.aj rfl,xH.aj rfl,?_⟩
  refine(hex oe w0 ⟨a,g,hb,sb,pb,fm⟩ _ _ b_ ahx hK (aAE.still Vg) hD).mono ?_;rintro _ Br ⟨rfl,h31,g31⟩;exact .inl ⟨rfl,h31,g31⟩
 rintro _ gy ⟨jR,Xy⟩;obtain⟨x,hx⟩:=jR.ia;have Oa:=d30.mod Xy.mod (ap0 d30 (by decide) (by decide) (by decide) (by decide) (by decide));refine⟨_,jR.cell λ_ _=>rfl,_,_,_,_,_,_,_,_,_,_,_,_,_,_,_,_,_,hx.row.aj rfl,hx.row.aj rfl,hx.row.aj rfl,hx.row.aj rfl,hx.row.aj rfl,hx.row.aj rfl,hx.row.aj rfl,hx.row.aj rfl,hx.row.aj rfl,hx.row.aj rfl,hx.row.aj rfl,?_⟩;obtain⟨vp,vc,ahy,_⟩:=jR.fX;have aAH:Still w0 gy:=yp hK ahx Xy;refine aQ λw36 Wv aJK z36=>aHb (g:=gy.heap.size) (o:=0) Wv λBs Ow m37 z37=>?_;have ayJ:Still gy Bs:=aJK.box (aV _) m37;have sF:Still Bs Bs.drew:=(Still.refl _).cy;have V7:=ayJ.trans sF;have V8:=ahy.still V7;have E3:=hx.gS.still V7;refine⟨λwq=>Row wq hb fQ ⟨gR ⟨a,g,hb,sb,pb,fm⟩ vp vc s'⟩,V8,_,λwq hq=>hq.aj rfl,_,λwq hq=>hq.aj rfl,_,λwq hq=>hq.aj rfl,(Ab E3 (by have:=hx.eS.2.1;omega)).mono ?_⟩;rintro _ E8 ⟨rfl,O5⟩;have ahz:=V8.mod O5 λe=>E3.own.aHg V8 (by decide) e;have aAI:=E3.row.mod O5 λe=>E3.own.aHg E3.row (by decide) e;have Ww:=(Ow.still sF).mod O5 λe=>E3.own.aHg (Ow.still sF) (by decide) e;refine .inl ⟨_,rfl,ahz,dO (g:=gy.heap.size) (o:=0) Ww (by simp[fh]) (by simp[Value.oneCell']) λC7 Wx Xz z39=>?_⟩;have nb:hb≠gy.heap.size:=by have h1:=ahy.lt;have h2:(⟨a,g,hb,sb,pb,fm⟩:Kx).hb=hb:=rfl;rw[h2]at h1;omega
 have O6:sb≠gy.heap.size:=by have h1:=hx.row.lt;have h2:(⟨a,g,hb,sb,pb,fm⟩:Kx).sb=sb:=rfl;rw[h2]at h1;omega
 have sG:Still C7 C7.drew:=(Still.refl _).cy;have V9:=(ahz.mod Xz nb).still sG;have V_:=(aAI.mod Xz O6).still sG;refine⟨λwq=>Row wq hb fQ ⟨gR ⟨a,g,hb,sb,pb,fm⟩ vp vc s'⟩/\Row wq sb kP ⟨oT ⟨a,g,hb,sb,pb,fm⟩ x s'⟩,⟨V9,V_⟩,_,_,_,λwq hq=>hq.1.aj rfl,_,λwq hq=>hq.1.aj rfl,_,λwq hq=>hq.1.aj rfl,_,λwq hq=>hq.2.aj rfl,?_⟩;refine dO (g:=gy.heap.size) (o:=3) (Wx.still sG) (by simp[fh]) (by simp[Value.oneCell']) λJg Wy JT z40=>⟨⟨V9.mod JT nb,V_.mod JT O6⟩,?_⟩;refine dO (g:=gy.heap.size) (o:=4) Wy (by simp[fh]) (by simp[Value.oneCell']) λJh Wz XA z41=>⟨⟨(V9.mod JT nb).mod XA nb,(V_.mod JT O6).mod XA O6⟩,?_⟩;refine dO (g:=gy.heap.size) (o:=9) Wz (by simp[fh]) (by simp[Value.oneCell']) λC9 sK m42 z42=>?_;refine⟨_,_,_,_,_,_,_,_,_,_,_,_,_,_,_,_,_,sK.aj rfl,sK.aj rfl,sK.aj rfl,sK.aj rfl,sK.aj rfl,sK.aj rfl,sK.aj rfl,sK.aj rfl,sK.aj rfl,sK.aj rfl,sK.aj rfl,?_⟩;have ayK:Mod (λk=>k=gy.heap.size) E8 C9:=Mod.trans (Mod.trans (Mod.trans (Mod.trans Xz sG (λ_ h=>h) (λ_ _ h=>h.elim)) JT (λ_ h=>h) (λ_ _ h=>h)) XA (λ_ h=>h) (λ_ _ h=>h)) m42 (λ_ h=>h) (λ_ _ h=>h);have agl:Mod (λk=>x.buf.ownBlock=some k) gy C9:=Mod.trans (Mod.trans V7 O5 (λ_ h=>h.elim) (λ_ _ h=>h)) ayK (λ_ h=>h) (λi hi e=>by omega);have aAJ:=Oa.mod agl λe=>hx.gS.own.aHg Oa (by decide) e;refine aHb (g:=w1.heap.size) (o:=0) aAJ λE9 aIL m43 z43=>?_;have Vh:Mod (λk=>x.buf.ownBlock=some k\/k=w1.heap.size) gy E9:=Mod.trans agl m43 (λ_ h=>.inl h) (λ_ _ h=>.inr h);refine⟨_,_,_,_,_,_,_,_,_,_,_,_,_,_,_,_,_,aIL.aj rfl,aIL.aj rfl,aIL.aj rfl,aIL.aj rfl,aIL.aj rfl,aIL.aj rfl,aIL.aj rfl,aIL.aj rfl,aIL.aj rfl,aIL.aj rfl,aIL.aj rfl,?_⟩;have aGd:=Xy.mod.size;have aGe:=V6.size;have hz1:=s1.size;refine⟨⟨_,_,_,_,_,_,_,_,_,_,_,_,_,_,rfl⟩,jR.aHh.mod Vh λk hk e=>?_,jR.rE,Mod.trans aAH Vh (λ_ h=>h) λi hi e=>?_,by have:=Vh.size;omega⟩
 .rcases e with e|e
  .rcases hk with rfl|rfl|⟨t,ht,_⟩
   .exact hx.gS.own.aHg jR.aHh.top (by decide) e
   .obtain⟨cur,hr⟩:=hx.gS.own.typed e
    exact jR.aHh.now.aHg hr rfl
   .cases ht
  .rcases hk with rfl|rfl|⟨t,ht,_⟩
   .exact(jR.aHh.top.ne Oa (by decide)) e
   .exact(jR.aHh.now.aHg Oa) e
   .cases ht
 .rcases e with e|e
  .have:=(hx.gS.own.lt i e).1;omega
  .omega
def ja(w:World)(p:Option Addr)(c:Nat)(l:List ag):Prop:=l.length<=c/\(l≠[]->∃g o,p=some ⟨g,o,none⟩/\g<w.heap.size/\∀j u,(strs l)[j]?=some u->w.cell? ⟨g,o+j,none⟩=some u)
def ja.still{p:Option Addr}{c:Nat}{l:List ag}{w':World}(h:ja w p c l)(hm:Still w w'):ja w' p c l:=⟨h.1,λhl=>by obtain⟨g,o,h1,h2,h3⟩:=h.2 hl;exact⟨g,o,h1,aH2 h2 hm.size,λj u hu=>hm.cell (h3 j u hu)⟩⟩
def ja.of{B:Nat}{p:Option Addr}{c:Nat}{l:List ag}(h:aS w B cm 1 (.slice p l.length c) l.length (strs l)):ja w p c l:=⟨aS.af4 h,λhl=>by obtain⟨g,cap,cur,hv,_⟩:=h.row (mK.2 hl);injection hv with e1 e2 e3;subst e1;exact⟨g,0,rfl,(h.lt g rfl).2,λj u hu=>by rw[cQ];exact h.cells rfl j u hu⟩⟩
def ja.tail{x:ag}{p:Option Addr}{c:Nat}{l:List ag}(h:ja w p c (x::l)):ja w (if c=Int.toNat 1 then p else Option.map (·.add (Int.toNat 1*1)) p) (c-Int.toNat 1) l:=by have hc:=h.1;simp only[bf]at hc;refine⟨by show l.length<=c-1;omega,λhl=>?_⟩;have:=mK.2 hl;obtain⟨g,o,rfl,h2,h3⟩:=h.2 (by simp);rw[aG (by show¬c=1;omega)];refine⟨g,o+1,rfl,h2,λj u hu=>?_⟩;rw[show o+1+j=o+(j+1) by omega];exact h3 (j+1) u (by simpa[strs]using hu)
def ja.get{p:Option Addr}{c:Nat}{l:List ag}(h:ja w p c l){j:Nat}(hj:j<l.length):∃a,p=some a/\w.cell? (a.add (j*1))=some (.string (S l[j])):=by obtain⟨g,o,rfl,h2,h3⟩:=h.2 (mK.1 (by omega));exact⟨_,rfl,by rw[aHp,aHa];exact h3 j _ (adq hj)⟩
def arz{p:Option Addr}{c:Nat}{l:List ag}(h:ja w p c l)(sep:ag)(hl:l.length<=1000000)(hj:(Lib.join l sep).length<=140737488355328):
  aq DT #[.slice p l.length c,.string (S sep)] w (λe w'=>e=.returned (.string (S (Lib.join l sep)))/\Still w w'):=by
 by_cases h0:l=[]
 .subst h0
  refine(Tryz.strings_Join_none p c (S sep) w).mono ?_;rintro _ w' ⟨rfl,rfl⟩;exact⟨rfl,Still.refl _⟩
 .obtain⟨g,o,rfl,h2,h3⟩:=h.2 h0
  have hm:(l.map S).map (·.data.toList)=l:=by rw[DU];exact List.map_id' l
  have hJ:=Tryz.strings_Join g o c (l.map S) (S sep) w (λj x hx=>by
   rw[aJl]at hx;cases hj:l[j]? with
   |none=>rw[hj]at hx;cases hx
   |some y=>rw[hj]at hx;obtain rfl:=bU hx;exact h3 j _ (by simp[strs,hj])) h2 (by rw[lG];omega) (by rw[lG];exact h.1) (by rw[hm];exact hj)
  rw[lG,hm]at hJ;refine hJ.mono ?_;rintro _ w' ⟨rfl,hb⟩;exact⟨rfl,Mod.S6 hb⟩
def acF(s:ag):aq K5 #[.string (S s)] w (λe w'=>e=.returned (.tuple #[.agg #[.int .i64 0,.string (S s),.string (S [])],.bool true])/\Still w w'):=by apply amU;refine aQ λw1 r1 s1 z1=>aHb (g:=w.heap.size) (o:=0) r1 λw2 r2 m2 z2=>?_;exact⟨_,_,_,r2.aj rfl,r2.aj rfl,r2.aj rfl,rfl,s1.box (aV _) m2⟩
def No(fn:FuncId)(args:List ag)(bu:ag)(st:Int)(out:ag):Prop:=∀(w:World) (p:Option Addr) (c:Nat),fJ w->ja w p c args->aq fn #[.slice p args.length c,.string (S bu)] w (λe w'=>e=.returned (.tuple #[.agg #[.int .i64 st,.string (S out),.string (S [])],.bool true])/\Still w w')
def S3{args:List ag}(bu:ag)(hl:args.length<=100000)(hj:(Lib.join args [32]).length<=1000000):No B4 args bu 0 (Lib.join args [32]++[10]):=by intro w p c he h;apply amP;refine aQ λw1 r1 s1 z1=>(arz (h.still s1) [32] (by omega) (by omega)).mono ?_;rintro _ w2 ⟨rfl,s2⟩;refine .inl ⟨_,rfl,by simp;omega,(acF _).mono ?_⟩;rintro _ w3 ⟨rfl,s3⟩;have r3:=(r1.still s2).still s3;refine .inl ⟨_,_,_,_,rfl,aHb (g:=w.heap.size) (o:=0) r3 λw4 r4 m4 z4=>?_⟩;exact⟨_,_,_,r4.aj rfl,r4.aj rfl,r4.aj rfl,rfl,((s1.trans s2).trans s3).box (aV _) m4⟩
def avc{l:List ag}{x:ag}(h:x∈l):x.length<=dG l:=by
 induction l with
 |nil=>cases h
 |cons a r ih=>
  simp only[dG,gI,aIO]at ih⊢;rcases aHs.1 h with rfl|h
  .omega
  .have:=ih h;omega
def ij(s:ag):List ag:=if s=[]then[]else aIv (Lib.trimSuffix s [10]) [10]
def RM(s t:ag):(Lib.trimSuffix s t).length<=s.length:=by
 unfold Lib.trimSuffix;split
 .simp
 .exact aV _
def arA(s:ag):(ij s).length<=s.length+1:=by
 unfold ij;split
 .simp
 .have:=(SD (Lib.trimSuffix s [10]) [10] (by decide)).2
  have:=RM s [10];omega
def D5(he:fJ w){s:ag}(hs:s.length<=900000):aq Rp #[.string (S s)] w (λe w'=>∃p c,e=.returned (.slice p (ij s).length c)/\aS w' w.heap.size cm 1 (.slice p (ij s).length c) (ij s).length (strs (ij s))/\Still w w'):=by
 apply amD;refine aA (λh=>?_) (λh=>?_)
 .have e:ij s=[]:=aL (aR h)
  rw[e];exact⟨none,0,rfl,aS.nil _ _ _ _,Still.refl _⟩
 .have e:ij s=aIv (Lib.trimSuffix s [10]) [10]:=aG (aX h)
  refine(Tryz.strings_TrimSuffix (S s) (S [10]) w (by show s.length<=_;omega)).mono ?_;rintro _ w1 ⟨rfl,rfl⟩;have hl:=RM s [10];refine .inl ⟨Lib.trimSuffix s [10],rfl,(LD he (by omega) (by decide)).mono ?_⟩;rintro _ w2 ⟨p,c,rfl,ho,s2⟩;rw[e];exact .inl ⟨_,_,_,rfl,p,c,rfl,ho,s2⟩
def aJt(l:List ag):ag:=l.flatMap λx=>x++[10]
def acG(l:List ag):(aJt l).length=dG l:=by
 induction l with
 |nil=>rfl
 |cons a r ih=>simp only[aJt,pW,cB,bf,aHf,dG,gI,aIO]at ih⊢;omega
def arB{p:Option Addr}{c:Nat}{l:List ag}(h:ja w p c l)(hl:dG l<=10000000):aq KR #[.slice p l.length c] w (λe w'=>e=.returned (.string (S (aJt l)))/\Still w w'):=by
 have hlen:=Mq l;apply amh;refine aQ λw1 r1 s1 z1=>?_;refine⟨λx w2=>∃(k:Nat) (q:Option Addr) (v:Value),x=(k:Int)/\k<=l.length/\eE w2 86 w.heap.size 0 (w.heap.size+1) [.pointer q,v] v (aJt (l.take k))/\Still w w2,λx _=>(l.length-x).toNat,⟨0,none,.slice none 0 0,rfl,dK _,eE.fresh r1 rfl rfl,s1⟩,?_⟩;rintro x _ w2 ⟨k,q,v,rfl,hk,hb,s2⟩;have l1:∀a b,nT 86 (([a,b]:List Value).length) 0:=λ_ _=>GV;have hB:=hb.row.lt;have htk:∀k,dG (l.take k)<=dG l:=λk=>by
  conv=>rhs;rw[<-pV k l,Ag]
  omega
 refine aA (λhx=>?_) (λhx=>?_)
 .have hx:k<l.length:=by have:=aR hx;omega
  obtain⟨a,rfl,hcell⟩:=(h.still s2).get hx;have e1:aJt (l.take (k+1))=aJt (l.take k)++(l[k]++[10]):=by rw[aJt,aJt,FO hx,Qj];rw[List.flatMap_singleton]
  have hlk:l[k].length<=dG l:=avc (kI hx);have hjk:=acG (l.take k);have aGf:=htk k;refine⟨by omega,by omega,_,by rw[b6];exact hcell,by simp;omega,?_⟩;refine(B1 hb (l1 _ _) (l[k]++[10]) hB (by simp;omega)).mono ?_;rintro _ w3 ⟨rfl,v',hb',m3⟩;refine .inl ⟨_,_,rfl,rfl,?_⟩;rw[wrap_i64 (by omega) (by omega)];refine⟨⟨k+1,_,v',by omega,by omega,by rw[e1];exact hb',Mod.trans s2 m3 (λ_ h=>h) λi hi e=>?_⟩,by dsimp only;omega⟩;rcases e with rfl|e
  .omega
  .have:=(hb.own.lt i e).1;omega
 .have hx:k=l.length:=by have:=aX hx;omega
  subst hx;rw[oD]at hb;refine(Ab hb (by rw[acG];omega)).mono ?_;rintro _ w3 ⟨rfl,m3⟩;refine .inl ⟨_,rfl,rfl,Mod.trans s2 m3 (λ_ h=>h) λi hi e=>by have:=(hb.own.lt i e).1;omega⟩
def apm{B:Nat}{p:Option Addr}{c:Nat}{l:List ag}(h:aS w B cm 1 (.slice p l.length c) l.length (strs l))(hl:dG l<=10000000):aq KR #[.slice p l.length c] w (λe w'=>e=.returned (.string (S (aJt l)))/\Still w w'):=arB (ja.of h) hl
def ja.drop{p:Option Addr}{c:Nat}{l:List ag}(h:ja w p c l){k:Nat}(hk:k<=l.length):ja w (if c=k then p else Option.map (·.add (k*1)) p) (c-k) (l.drop k):=by have hc:=h.1;refine⟨by rw[ig];omega,λhl=>?_⟩;have:=mK.2 hl;rw[ig]at this;obtain⟨g,o,rfl,h2,h3⟩:=h.2 (mK.1 (by omega));rw[aG (by omega)];refine⟨g,o+k,by simp[aHa],h2,λj u hu=>?_⟩;rw[show o+k+j=o+(k+j) by omega];exact h3 (k+j) u (by simpa[strs,DG]using hu)
def ja.take{p:Option Addr}{c:Nat}{l:List ag}(h:ja w p c l)(k:Nat):ja w p c (l.take k):=⟨by rw[aHl];have:=h.1;omega,λhl=>by
 obtain⟨g,o,e,h2,h3⟩:=h.2 (λe=>hl (by rw[e,List.take_nil]));refine⟨g,o,e,h2,λj u hu=>h3 j u ?_⟩;simp only[strs,aJl,Yf]at hu⊢;obtain⟨x,hx,rfl⟩:=hu;rw[aJ2]at hx;split at hx
 .exact⟨x,hx,rfl⟩
 .cases hx⟩
def aol:dD aM Rf=true:=by kernel_rfl
def am6{p:Option Addr}{c:Nat}{l:List ag}{f:FuncId}(hf:dD aM f=true)(h:ja w p c l)(hl:l.length<=1000000)(hp:∀x∈l,∀w,aq f #[.string (S x)] w λe w'=>e=.returned (.bool false)/\w'=w):
  aq aKu #[.slice p l.length c,.func (.func f) #[] #[]] w (λe w'=>e=.returned (.bool false)/\w'=w):=by
 apply ajA;refine(show aq FQ #[.slice p l.length c,.func (.func f) #[] #[]] w (λe w'=>e=.returned (.int .i64 (-1))/\w'=w)from ?_).mono ?_
 .apply XT
  refine⟨λi w1=>(∃k:Nat,i=(k:Int)/\k<=l.length)/\w1=w,λi _=>(l.length-i).toNat,⟨⟨0,rfl,dK _⟩,rfl⟩,?_⟩;rintro _ _ w1 ⟨⟨k,rfl,hk⟩,rfl⟩;refine aA (λhx=>?_) (λ_=>⟨rfl,rfl⟩);have hx:k<l.length:=by have:=aR hx;omega
  obtain⟨a,rfl,hc⟩:=h.get hx;refine⟨by omega,by omega,_,by rw[b6];exact hc,Af (cap:=[]) (aA (λ_=>(hp _ (kI hx) w1).mono ?_) (λh=>by rw[hf]at h;cases h))⟩;rintro _ _ ⟨rfl,rfl⟩;refine .inl ⟨_,rfl,aA (λh=>by cases h) (λ_=>?_)⟩;rw[wrap_i64 (by omega) (by omega)];exact⟨⟨⟨k+1,by omega,by omega⟩,rfl⟩,by dsimp only;omega⟩
 .rintro _ _ ⟨rfl,rfl⟩
  exact .inl ⟨_,rfl,rfl,rfl⟩
def Z5{p:Option Addr}{c:Nat}{l:List ag}(h:ja w p c l)(hl:l.length<=1)(x:ag):aq aJX #[.slice p l.length c,.string (S x)] w (λe w'=>e=.returned (.bool (decide (x∈l)))/\w'=w):=by
 match l,hl,h with
 |[],_,h=>refine(Tryz.slices_Contains_string_empty p c (S x) w).mono ?_;rintro _ _ ⟨rfl,rfl⟩;exact⟨by simp,rfl⟩
 |[y],_,h=>
  obtain⟨g,o,rfl,h2,h3⟩:=h.2 (by simp);refine(Tryz.slices_Contains_string g o 1 c [S y] (S x) w (by simp) (by decide) (λj hj=>?_)).mono ?_
  .have:j=0:=by simpa using hj
   subst this;exact h3 0 _ rfl
  .rintro _ _ ⟨rfl,rfl⟩
   refine⟨?_,rfl⟩;have e:Lib.containsS [S y] (S x)=decide (x∈[y]):=by rw[sZ,Lib.containsS_iff,F2,gE,gE];exact⟨λh=>str_inj (gJ Value.string h),λh=>by rw[h]⟩
   rw[wu (by simp),e]
def apn{B:Nat}{p:Option Addr}{c:Nat}{l:List ag}(h:aS w B cm 1 (.slice p l.length c) l.length (strs l))(hl:l.length<=1000000):
  aq X0 #[.slice p l.length c] w λe w'=>e=.returned (.tuple #[])/\aS w' B cm 1 (.slice p l.length c) l.length (strs l.reverse)/\Mod (λk=>(Value.slice p l.length c).ownBlock=some k) w w':=by
 by_cases h0:l.length=0
 .obtain rfl:=pU h0
  refine(Tryz.slices_Reverse_string_empty p c w).mono ?_;rintro _ _ ⟨rfl,rfl⟩;exact⟨rfl,by simpa using h,Mod.refl _ _⟩
 .obtain⟨g,cap,cur,hv,hb,⟨fz,hr,hf⟩,hc,hsz,ht⟩:=h.row (by omega)
  injection hv with e1 e2 e3;subst e1 e3;have hcap:c<=maxLen:=by
   rcases h.2 with⟨e,_⟩|⟨g',cap',cur',e,_,_,_,hm,_⟩
   .cases e
   .injection e with e1 e2 e3;omega
  rw[aHp]at ht hsz;have hH:Sort.Holds Go.Proofs.encStr w g 0 l.toArray:=by
   intro j hj;have hj':j<l.length:=by simpa using hj
   have h1:cur.toList[j]?=(strs l)[j]?:=by rw[<-ht,Ya hj']
   refine⟨?_,?_⟩
   .have:=(show Row w g cm cur from⟨fz,hr,hf⟩).cell j
    rw[cQ,this,<-Kh,h1];simp[strs,hj',Go.Proofs.encStr]
   .rw[cQ]
    exact(show Row w g cm cur from⟨fz,hr,hf⟩).frozen (by omega)
  refine(Tryz.slices_Reverse_string g 0 c l w hH (by omega)).mono ?_;rintro _ w' ⟨rfl,n,rfl⟩;rw[<-Go.Sort.grow_empty (Sort.putRow Go.Proofs.encStr (Sort.ahead w n) g 0 l.reverse.toArray)];have hg:=Go.grownBy_sorted (w:=w) (g:=g) (n:=n) (os:=#[]) l.reverse.toArray;refine⟨rfl,⟨by simp[Lt],.inr ⟨g,c,_,rfl,hb,⟨fz,Go.heap_sorted _ hr,?_⟩,hc,hcap,by simp[Sort.putCells,hsz],?_⟩⟩,(Mod.refl _ _).grown hg λk hk=>.inl hk⟩
  .simpa[Iw,Sort.putCells]using hf
  .have h2:=Go.take_putCells cur l.reverse (by rw[Yt];omega)
   rw[Yt]at h2;rw[aHp];exact h2
def arC(b:UInt8)(k:Nat)(s:ag):dG (Lib.splitK [b] 0 k s)<=s.length+1:=by
 induction k generalizing s with
 |zero=>simp[Lib.splitK,dG]
 |succ k ih=>
  rw[Lib.splitK];split
  .simp[dG]
  ·next h=>have hr:Lib.index s [b]≠-1:=λe=>h (by rw[e];rfl);have hg:=Lib.index_ge s [b];have hm:=Lib.index_room s [b] (by omega);have:=ih (s.drop ((Lib.index s [b]).toNat+1));simp only[dG,gI,aIO,aHl,ig,bf,aHf,cQ,Gk]at this hm⊢;omega
def arD(s:ag)(b:UInt8):dG (aIv s [b])<=s.length+1:=arC b _ s
def avd{l l':List ag}(h:l.Perm l'):dG l=dG l':=by unfold dG;exact(h.map _).sum_nat
def arE(s:ag):dG (ij s)<=s.length+1:=by
 unfold ij;split
 .simp[dG]
 ·next h=>have:=arD (Lib.trimSuffix s [10]) 10;have:=RM s [10];omega
def aKP(args:List ag)(bu:ag):ag:=aJt (if args=[]then ir (ij bu)else(ir (ij bu)).reverse)
def atq{args:List ag}(ha:args=[]\/args=[[45,114]]){bu:ag}(hi:bu.length<=900000):No Gn args bu 0 (aKP args bu):=by
 intro w p c he h;have OF:args.length<=1:=by rcases ha with rfl|rfl<;>simp
 apply amQ;refine aQ λw1 r1 s1 z1=>?_;refine(am6 aol (h.still s1) (by omega) λx hx w=>?_).mono ?_
 .apply ami
  rcases ha with rfl|rfl
  .cases hx
  .obtain rfl:=gE.1 hx
   exact⟨rfl,rfl⟩
 rintro _ w1 ⟨rfl,rfl⟩;refine .inl ⟨_,rfl,aA (λh=>by cases h) (λ_=>?_)⟩;refine(D5 (he.still s1) hi).mono ?_;rintro _ w2 ⟨p2,c2,rfl,o2,s2⟩;have hln:=arA bu;refine .inl ⟨_,_,_,rfl,(aco o2 (by omega)).mono ?_⟩;rintro _ w3 ⟨rfl,o3,m3⟩;have s3:Still w1 w3:=Mod.trans s2 m3 (λ_ h=>h) λi hi e=>by have:=(o2.lt i e).1;omega
 refine .inl ⟨rfl,λq qL qC w7=>q=p2/\qL=(ij bu).length/\qC=c2/\w7=w3,?_,?_⟩
 .refine(Z5 ((h.still s1).still s3) OF [45,117]).mono ?_
  rintro _ w7 ⟨rfl,rfl⟩;refine .inl ⟨_,rfl,aA (λhx=>?_) (λ_=>⟨rfl,rfl,rfl,rfl⟩)⟩;have:=aR hx;rcases ha with rfl|rfl<;>simp at this
 rintro q qL qC zu w7 ⟨rfl,rfl,rfl,rfl⟩;refine⟨λaO=>aS aO w1.heap.size cm 1 (.slice q (ij bu).length qC) (ij bu).length (strs (if args=[]then ir (ij bu)else(ir (ij bu)).reverse))/\Still w1 aO,?_,?_⟩
 .refine(Z5 ((h.still s1).still s3) OF [45,114]).mono ?_
  rintro _ w7 ⟨rfl,rfl⟩;refine .inl ⟨_,rfl,aA (λhx=>?_) (λhx=>?_)⟩
  .have hx:=aR hx
   have hne:args≠[]:=by rintro rfl;cases hx
   rw[aG hne];have o3':aS w7 w1.heap.size cm 1 (.slice q (ir (ij bu)).length qC) (ir (ij bu)).length (strs (ir (ij bu))):=by rw[Aj];exact o3
   have hr:=apn o3' (by rw[Aj];omega);rw[Aj]at hr;refine hr.mono ?_;rintro _ w8 ⟨rfl,o8,m8⟩;exact .inl ⟨rfl,o8,Mod.trans s3 m8 (λ_ h=>h) λi hi e=>by have:=(o3.lt i e).1;omega⟩
  .have hx:=aX hx
   have xM:args=[]:=by
    rcases ha with rfl|rfl;·rfl
    .simp at hx
   rw[aL xM];exact⟨o3,s3⟩
 rintro WA aO ⟨Dt,fY⟩;have hlen:(if args=[]then ir (ij bu)else(ir (ij bu)).reverse).length=(ij bu).length:=by split<;>simp[Aj]
 have hfs:dG (if args=[]then ir (ij bu)else(ir (ij bu)).reverse)<=bu.length+1:=by
  have hp:(if args=[]then ir (ij bu)else(ir (ij bu)).reverse).Perm (ij bu):=by
   split
   .exact Qi _ _
   .exact(List.reverse_perm _).trans (Qi _ _)
  rw[avd hp];exact arE bu
 rw[<-hlen]at Dt;have hj:=apm Dt (by omega);rw[hlen]at hj;refine hj.mono ?_;rintro _ bh ⟨rfl,pP⟩;refine .inl ⟨_,rfl,(acF _).mono ?_⟩;rintro _ bE ⟨rfl,fZ⟩;have gP:=((r1.still fY).still pP).still fZ;refine .inl ⟨_,_,_,_,rfl,aHb (g:=w.heap.size) (o:=0) gP λbw ld m13 xT=>?_⟩;exact⟨_,_,_,ld.aj rfl,ld.aj rfl,ld.aj rfl,rfl,(((s1.trans fY).trans pP).trans fZ).box (aV _) m13⟩
def Np:List (ag×FuncId):=[([116,114,117,101],ZG),([102,97,108,115,101],ZR),([101,99,104,111],B4),([104,101,97,100],Zw),([116,97,105,108],Zx),([119,99],ZS),([115,111,114,116],Gn),([117,110,105,113],Zy),([99,117,116],ZH),([116,114],ZT),([103,114,101,112],Zz),([98,97,115,101,110,97,109,101],YT),([100,105,114,110,97,109,101],Y1)]
def Iu:List (ag×FuncId):=[([99,97,116],Gh),([99,112],Zm),([109,118],Zn),([108,110],Zo),([114,109],Zp),([109,107,100,105,114],YW),([114,109,100,105,114],YX),([116,111,117,99,104],YY),([99,104,109,111,100],YZ),([108,115],Zq),([116,101,115,116],Y0),([91],YG),([99,109,112],Zc),([116,101,101],Zd),([114,101,97,100,108,105,110,107],Yw)]
def Ob(l:List (ag×FuncId)):List (ag×Value):=l.map λx=>(x.1,.func (.func x.2) #[] #[])
def aoF:(Np.all λx=>dD aM x.2)=true:=by kernel_rfl
def aoG:(Iu.all λx=>dD aM x.2)=true:=by kernel_rfl
def qM:Tryz.prog.underlying 81=some (.map cm 45):=rfl
def atr(w:World):(zeroValue 45).run aM w=.ok .nilFunc w:=rfl
def gF:Tryz.prog.underlying 426=some (.map cm 424):=rfl
def acH(w:World):(zeroValue 424).run aM w=.ok .nilFunc w:=rfl
def acI{f0:ag}{fr:List ag}{fn:FuncId}(hm:(f0,fn)∈Np){bu:ag}{st:Int}{out:ag}(hf:No fn fr bu st out){p:Option Addr}{c:Nat}(he:fJ w)(h:ja w p c (f0::fr)):
  aq La #[.slice p (f0::fr).length c,.string (S bu)] w (λe w'=>e=.returned (.tuple #[.agg #[.int .i64 st,.string (S out),.string (S [])],.bool true])/\Still w w'):=by
 apply anb;refine aQ λw0 r0 s0 z0=>nS ?_;have s1:Still w (w0.alloc (.map #[] 0)):=s0.trans ((Mod.refl _ _).alloc _);have za:w.heap.size<=w0.heap.size:=s0.size;have rr:Row (w0.alloc (.map #[] 0)) w.heap.size 35 ⟨[.int .i64 0,.string (S []),.string (S [])]⟩:=r0.still ((Mod.refl _ _).alloc _);have f1:=oM.new w0;generalize w0.alloc (.map #[] 0)=w1 at*;refine dF qM f1 (by decide) rfl λw2 f2 m2 z2=>?_;refine dF qM f2 (by decide) rfl λw3 f3 m3 z3=>?_;refine dF qM f3 (by decide) rfl λw4 f4 m4 z4=>?_;refine dF qM f4 (by decide) rfl λw5 f5 m5 z5=>?_;refine dF qM f5 (by decide) rfl λw6 f6 m6 z6=>?_;refine dF qM f6 (by decide) rfl λw7 f7 m7 z7=>?_;refine dF qM f7 (by decide) rfl λw8 f8 m8 z8=>?_;refine dF qM f8 (by decide) rfl λw9 f9 m9 z9=>?_;refine dF qM f9 (by decide) rfl λaO f10 m10 aIs=>?_;refine dF qM f10 (by decide) rfl λbh f11 m11 zG=>?_;refine dF qM f11 (by decide) rfl λbE f12 m12 z12=>?_;refine dF qM f12 (by decide) rfl λbw f13 m13 xT=>?_;refine dF qM f13 (by decide) rfl λbO f14 m14 OY=>?_;have fl:oM bO w0.heap.size (Ob Np):=f14;have lq:=(((((((((((((s1.box za m2).box za m3).box za m4).box za m5).box za m6).box za m7).box za m8).box za m9).box za m10).box za m11).box za m12).box za m13).box za m14);clear f1 f2 f3 f4 f5 f6 f7 f8 f9 f10 f11 f12 f13 f14;have sJ:Row bO w.heap.size 35 ⟨[.int .i64 0,.string (S []),.string (S [])]⟩:=(((((((((((((rr.mod m2 (by omega)).mod m3 (by omega)).mod m4 (by omega)).mod m5 (by omega)).mod m6 (by omega)).mod m7 (by omega)).mod m8 (by omega)).mod m9 (by omega)).mod m10 (by omega)).mod m11 (by omega)).mod m12 (by omega)).mod m13 (by omega)).mod m14 (by omega));refine aA (λh=>absurd (aR h) (by simp;omega)) (λ_=>?_);have mw:=h.still lq;obtain⟨a,rfl,hc⟩:=mw.get (j:=0) (by simp);refine⟨by decide,by simp,_,hc,?_⟩;refine afl qM atr fl (dY.2 ⟨(f0,fn),hm,rfl⟩) ?_;refine aA (λh=>by cases h) (λ_=>⟨by decide,by simp;omega,?_⟩);refine Af (cap:=[]) (aA (λ_=>?_) (λh=>by rw[pY.1 aoF _ hm]at h;cases h));refine(hf bO _ _ (he.still lq) mw.tail).mono ?_;rintro _ cL ⟨rfl,ot⟩;refine .inl ⟨_,_,_,_,rfl,?_⟩;refine aQ λdV tL aHI z19=>aHb (g:=cL.heap.size) (o:=0) tL λeu aIr m20 z20=>?_;refine aA (λh=>by cases h) (λ_=>⟨_,_,_,aIr.aj rfl,aIr.aj rfl,aIr.aj rfl,?_⟩);have aAK:Row eu w.heap.size 35 ⟨[.int .i64 0,.string (S []),.string (S [])]⟩:=(((sJ.still ot).still aHI).mod m20 (by have:=sJ.lt;have:=ot.size;omega));refine aHb (g:=w.heap.size) (o:=0) aAK λeM C_ m21 z21=>?_;exact⟨_,_,_,C_.aj rfl,C_.aj rfl,C_.aj rfl,rfl,((((lq.trans ot).trans aHI).box (by have:=lq.size;have:=ot.size;omega) m20).box (aV _) m21)⟩
def S4{f0:ag}{fr:List ag}{fn:FuncId}(hm:(f0,fn)∈Np)(hn:(Iu.all λx=>!decide (x.1=f0))=true)(hl:f0.length<=1000){bu:ag}{st:Int}{out:ag}(hf:No fn fr bu st out)(T:Tree):aJc T (f0::fr) bu st out [] T:=by intro w w0 a g pb t p c B b_ h0 hst BE hrf ho;apply Zs;refine aQ λwA r0 s0 z0=>nS ?_;have s1:Still w (wA.alloc (.map #[] 0)):=s0.trans ((Mod.refl _ _).alloc _);have za:w.heap.size<=wA.heap.size:=s0.size;have rr:Row (wA.alloc (.map #[] 0)) w.heap.size 35 ⟨[.int .i64 0,.string (S []),.string (S [])]⟩:=r0.still ((Mod.refl _ _).alloc _);have f1:=oM.new wA;generalize wA.alloc (.map #[] 0)=w1 at*;refine dF gF f1 (by decide) rfl λw2 f2 m2 z2=>?_;refine dF gF f2 (by decide) rfl λw3 f3 m3 z3=>?_;refine dF gF f3 (by decide) rfl λw4 f4 m4 z4=>?_;refine dF gF f4 (by decide) rfl λw5 f5 m5 z5=>?_;refine dF gF f5 (by decide) rfl λw6 f6 m6 z6=>?_;refine dF gF f6 (by decide) rfl λw7 f7 m7 z7=>?_;refine dF gF f7 (by decide) rfl λw8 f8 m8 z8=>?_;refine dF gF f8 (by decide) rfl λw9 f9 m9 z9=>?_;refine dF gF f9 (by decide) rfl λaO f10 m10 aIs=>?_;refine dF gF f10 (by decide) rfl λbh f11 m11 zG=>?_;refine dF gF f11 (by decide) rfl λbE f12 m12 z12=>?_;refine dF gF f12 (by decide) rfl λbw f13 m13 xT=>?_;refine dF gF f13 (by decide) rfl λbO f14 m14 OY=>?_;refine dF gF f14 (by decide) rfl λb8 f15 m15 JM=>?_;refine dF gF f15 (by decide) rfl λaHe f16 m16 Xv=>?_;have fl:oM aHe wA.heap.size (Ob Iu):=f16;have lB:=(((((((((((((((s1.box za m2).box za m3).box za m4).box za m5).box za m6).box za m7).box za m8).box za m9).box za m10).box za m11).box za m12).box za m13).box za m14).box za m15).box za m16);clear f1 f2 f3 f4 f5 f6 f7 f8 f9 f10 f11 f12 f13 f14 f15 f16;have r16:Row aHe w.heap.size 35 ⟨[.int .i64 0,.string (S []),.string (S [])]⟩:=(((((((((((((((rr.mod m2 (by omega)).mod m3 (by omega)).mod m4 (by omega)).mod m5 (by omega)).mod m6 (by omega)).mod m7 (by omega)).mod m8 (by omega)).mod m9 (by omega)).mod m10 (by omega)).mod m11 (by omega)).mod m12 (by omega)).mod m13 (by omega)).mod m14 (by omega)).mod m15 (by omega)).mod m16 (by omega));refine aA (λh=>absurd (aR h) (by simp;omega)) (λ_=>?_);have hA:=(ja.of ho).still lB;obtain⟨ad,rfl,hc⟩:=hA.get (j:=0) (by simp);refine⟨by decide,by simp,_,hc,?_⟩;refine aen gF acH fl hl (by rw[Ob,List.all_map];exact hn) ?_;refine aA (λ_=>?_) (λh=>by cases h);refine(acI hm hf ((b_.still h0).still lB) hA).mono ?_;rintro _ cL ⟨rfl,ot⟩;refine .inl ⟨_,_,_,_,rfl,aHb (g:=w.heap.size) (o:=0) (r16.still ot) λeu aIr m20 z20=>?_⟩;have ni:Still w eu:=(lB.trans ot).box (aV _) m20;exact⟨_,_,_,aIr.aj rfl,aIr.aj rfl,aIr.aj rfl,rfl,⟨0,by decide,hst.still ni⟩,ni.weaken λ_ h=>h.elim⟩
abbrev ayL:TypeId:=429
def Oc(w:World)(rb pb:Nat)(nm bu:ag)(st:Int)(out err:ag):Prop:=Row w rb ayL ⟨[.pointer (some ⟨pb,0,none⟩),.string (S nm),.string (S bu),.int .i64 st,.string (S out),.string (S err)]⟩
def cU.typed{B a g n:Nat}{tr:Option Tb}{T:Tree}(h:cU w B a g tr n T){k:Nat}{ty:TypeId}{cs:Array Value}(hr:Row w k ty cs)(h1:ty≠jW)(h2:ty≠Gp):¬SF a g tr k:=by
 rintro(rfl|rfl|⟨t,ht,hk⟩)
 .exact hr.ne h.top h1 rfl
 .exact h.now.aHg hr rfl
 .have d:=h.qu t ht
  obtain⟨_,o1,_⟩:=d.old;obtain⟨_,r1,_⟩:=d.rd;obtain⟨_,p1,_⟩:=d.wr;rcases hk with rfl|rfl|rfl|rfl
  .exact hr.ne d.top h2 rfl
  .exact o1.aHg hr rfl
  .exact r1.aHg hr rfl
  .exact p1.aHg hr rfl
def ahA(fn:FuncId)(nm:ag)(args:List ag)(T:Tree)(bu:ag)(st:Int)(out err:ag)(T':Tree):Prop:=∀(w w0:World) (a g rb pb:Nat) (t:Tb) (p:Option Addr) (c:Nat),fJ w0->Still w0 w->cU w w0.heap.size a g (some t) 0 T->iM w pb a->¬RF (some t) pb->Oc w rb pb nm bu 0 [] []->¬SF a g (some t) rb->ja w p c args->(∀ad,p=some ad->ad.block≠rb/\¬SF a g (some t) ad.block)->w0.heap.size<=rb->
 aq fn #[.pointer (some ⟨rb,0,none⟩),.slice p args.length c] w (λe w'=>e=.returned (.tuple #[])/\Oc w' rb pb nm bu st out err/\(∃n,n<=12/\cU w' w0.heap.size a g (some t) n T')/\Mod (λk=>SF a g (some t) k\/k=rb) w w')
def awF(p:Option Addr)(x:ag):aq Rb #[.pointer p,.string (S x),.int .i64 0] w (λe w'=>e=.returned (.tuple #[])/\w'=w):=by apply amb;exact aA (λh=>by cases h) (λ_=>⟨rfl,rfl⟩)
def awG{path nm:ag}(o:sx path nm)(h45:path≠[45]){T:Tree}{d:ag}(hf:jl T (mP nm)=⟨1,6,d⟩)(n bu:ag)(hd:d.length<=1000000):ahA Gh n [path] T bu 0 d [] T:=by
 intro w w0 a g rb pb t p c b_ h0 hst BE hrf hr hrb hA hAb Bg;obtain⟨ad,rfl,hc⟩:=hA.get (j:=0) (by simp);have hc:w.cell? (ad.add 0)=some (.string (S path)):=hc;have hRF:¬RF (some t) rb:=λh=>hrb (RF.sf h);apply amm;refine⟨λw2=>w2=w,aA (λh=>by simp at h) (λ_=>rfl),?_⟩;rintro _ w2 rfl;refine⟨λx w3=>(x=0/\w3=w2)\/(x=1/\Oc w3 rb pb n bu 0 d []/\cU w3 w0.heap.size a g (some t) 3 T/\Mod (λk=>SF a g (some t) k\/k=rb) w2 w3),λx _=>(1-x).toNat,.inl ⟨rfl,rfl⟩,?_⟩;rintro x _ w3 (⟨rfl,rfl⟩|⟨rfl,h1,h2,h3⟩)
 .refine aA (λ_=>⟨by decide,by simp,_,hc,?_⟩) (λh=>by simp at h)
  refine aA (λh=>absurd (aR h) h45) (λ_=>?_);refine⟨_,hr.aj rfl,(acr b_ h0 hst BE hrf o hf).mono ?_⟩;rintro _ w5 ⟨rfl,h5,m5⟩;have r5:Oc w5 rb pb n bu 0 [] []:=hr.mod m5 hRF;refine .inl ⟨_,_,rfl,(awF _ _).mono ?_⟩;rintro _ w6 ⟨rfl,rfl⟩;refine .inl ⟨rfl,_,r5.aj rfl,by simp;omega,?_⟩;refine aHb (g:=rb) (o:=4) r5 λw7 r7 m7 z7=>⟨.inr ⟨by decide,r7,h5.mod m7 λk hk e=>hrb (e▸hk),?_⟩,by dsimp only;decide⟩;exact Mod.trans (m5.weaken λ_ h=>.inl (RF.sf h)) m7 (λ_ h=>h) λ_ _ h=>.inr h
 .exact aA (λh=>by simp at h) (λ_=>⟨rfl,h1,⟨3,by decide,h2⟩,h3⟩)
def ave{f0:ag}{fr:List ag}{fn:FuncId}(hm:(f0,fn)∈Iu){T T':Tree}{bu:ag}{st:Int}{out err:ag}(hf:ahA fn f0 fr T bu st out err T'):aJc T (f0::fr) bu st out err T':=by
 intro w w0 a g pb t p c B b_ h0 hst BE hrf ho;apply Zs;refine aQ λwA r0 s0 z0=>nS ?_;have s1:Still w (wA.alloc (.map #[] 0)):=s0.trans ((Mod.refl _ _).alloc _);have za:w.heap.size<=wA.heap.size:=s0.size;have rr:Row (wA.alloc (.map #[] 0)) w.heap.size 35 ⟨[.int .i64 0,.string (S []),.string (S [])]⟩:=r0.still ((Mod.refl _ _).alloc _);have f1:=oM.new wA;generalize wA.alloc (.map #[] 0)=w1 at*;refine dF gF f1 (by decide) rfl λw2 f2 m2 z2=>?_;refine dF gF f2 (by decide) rfl λw3 f3 m3 z3=>?_;refine dF gF f3 (by decide) rfl λw4 f4 m4 z4=>?_;refine dF gF f4 (by decide) rfl λw5 f5 m5 z5=>?_;refine dF gF f5 (by decide) rfl λw6 f6 m6 z6=>?_;refine dF gF f6 (by decide) rfl λw7 f7 m7 z7=>?_;refine dF gF f7 (by decide) rfl λw8 f8 m8 z8=>?_;refine dF gF f8 (by decide) rfl λw9 f9 m9 z9=>?_;refine dF gF f9 (by decide) rfl λaO f10 m10 aIs=>?_;refine dF gF f10 (by decide) rfl λbh f11 m11 zG=>?_;refine dF gF f11 (by decide) rfl λbE f12 m12 z12=>?_;refine dF gF f12 (by decide) rfl λbw f13 m13 xT=>?_;refine dF gF f13 (by decide) rfl λbO f14 m14 OY=>?_;refine dF gF f14 (by decide) rfl λb8 f15 m15 JM=>?_;refine dF gF f15 (by decide) rfl λaHe f16 m16 Xv=>?_;have fl:oM aHe wA.heap.size (Ob Iu):=f16;have lB:=(((((((((((((((s1.box za m2).box za m3).box za m4).box za m5).box za m6).box za m7).box za m8).box za m9).box za m10).box za m11).box za m12).box za m13).box za m14).box za m15).box za m16);clear f1 f2 f3 f4 f5 f6 f7 f8 f9 f10 f11 f12 f13 f14 f15 f16;have r16:Row aHe w.heap.size 35 ⟨[.int .i64 0,.string (S []),.string (S [])]⟩:=(((((((((((((((rr.mod m2 (by omega)).mod m3 (by omega)).mod m4 (by omega)).mod m5 (by omega)).mod m6 (by omega)).mod m7 (by omega)).mod m8 (by omega)).mod m9 (by omega)).mod m10 (by omega)).mod m11 (by omega)).mod m12 (by omega)).mod m13 (by omega)).mod m14 (by omega)).mod m15 (by omega)).mod m16 (by omega));refine aA (λh=>absurd (aR h) (by simp;omega)) (λ_=>?_);have IV:=ho.still lB;have hA:=ja.of IV;obtain⟨ad,hp,hc⟩:=hA.get (j:=0) (by simp);subst hp;refine⟨by decide,by simp,_,hc,?_⟩;refine afl gF acH fl (dY.2 ⟨(f0,fn),hm,rfl⟩) ?_;refine aA (λh=>by cases h) (λ_=>⟨by decide,by simp,_,hc,?_⟩);refine aQ λeM C_ tU z21=>⟨by decide,by simp;omega,?_⟩;refine Af (cap:=[]) (aA (λ_=>?_) (λh=>by rw[pY.1 aoG _ hm]at h;cases h));have Od:=lB.trans tU;have ayM:=hst.still Od;have hsz:=lB.size;have hz0:=h0.size;have hnew:∀k,w.heap.size<=k->¬SF a g (some t) k:=λk hk h=>by have:=(hst.k6 h).2;omega
 have har:=IV.typed rfl;have hblk:∀JU,(if c=Int.toNat 1 then some ad else Option.map (·.add (Int.toNat 1*1)) (some ad))=some JU->JU.block≠aHe.heap.size/\¬SF a g (some t) JU.block:=λJU h=>by
  have hb:JU.block=ad.block:=by
   split at h
   .exact(bU h)▸rfl
   .exact(bU h)▸rfl
  rw[hb];obtain⟨gq,o,e,hlt,_⟩:=hA.2 (by simp);obtain rfl:=bU e;obtain⟨gr,cap,cur,hv,_,hrow,_⟩:=IV.row (by simp);injection hv with e1 e2 e3;obtain⟨rfl,rfl⟩:gq=gr/\o=0:=by have:=bU e1;injection this with x1 x2;exact⟨x1,x2⟩
  exact⟨Gm hlt,(hst.still lB).typed hrow (by decide) (by decide)⟩
 refine(hf eM w0 a g aHe.heap.size pb t _ _ b_ (h0.trans Od) ayM (BE.still Od) hrf C_ (hnew _ hsz) (hA.still tU).tail hblk (by omega)).mono ?_;rintro _ eO ⟨rfl,Dm,⟨n,hn,ayN⟩,m22⟩;refine .inl ⟨rfl,_,_,_,Dm.aj rfl,Dm.aj rfl,Dm.aj rfl,?_⟩;have zq:Row eO w.heap.size 35 ⟨[.int .i64 0,.string (S []),.string (S [])]⟩:=(r16.still tU).mod m22 (by
  have:=r16.lt;rintro(h|h)
  .exact hnew _ (aV _) h
  .omega)
 refine aHb (g:=w.heap.size) (o:=0) zq λk_ Da m23 z23=>?_;have mA:Mod (SF a g (some t)) w eO:=Mod.trans Od m22 (λ_ h=>h.elim) λj hj h=>h.elim id λe=>by omega
 exact⟨_,_,_,Da.aj rfl,Da.aj rfl,Da.aj rfl,rfl,⟨n,hn,ayN.mod m23 λk hk e=>hnew _ (aV _) (e▸hk)⟩,Mod.trans mA m23 (λ_ h=>h) λj hj e=>by omega⟩
def acJ{T:Tree}:∀{ts:List ag},(∀t∈ts,P.aH3 t=false/\t.length<1000000)->It T ts (ts.map P.plain)
 |[],_=>rfl
 |t::ts,h=>⟨[P.plain t],ts.map P.plain,arh (h t (by simp)).1 (h t (by simp)).2,acJ λx hx=>h x (by simp[hx]),rfl⟩
def SH{T:Tree}{V V':List A.Vr}{ps:List L.Pt}{gs:List F.Sg}{ts out:List ag}(ok:Be V ps (.ok (gs,V')))(hi:(aIq V').length<=1000000)(hf:F.aH4 (aIq V') gs=ts)(ht:∀t∈ts,P.aH3 t=false/\t.length<1000000)(ho:ts.map P.plain=out)(hl:out.length<=1000):yT T V ps out V' 0:=by
 have hlt:ts.length<=1000:=by rw[<-ho,lG]at hl;exact hl
 exact .inl ⟨rfl,gs,ok,hi,by rw[hf,<-ho];exact acJ ht,hl,by rw[hf];exact hlt⟩
def aeC:pR []:=⟨by simp[A.kZ],λv hv=>by cases hv⟩
def avf{T:Tree}{q:Bool}{t:ag}(hl:t.length<=1000)(hf:(F.aH4 [32,9,10] [⟨if q then 1 else 0,t⟩]).map P.plain=[t])(hs:((F.aH4 [32,9,10] [⟨if q then 1 else 0,t⟩]).all λx=>!P.aH3 x&&decide (x.length<1000000))=true):yT T [] [⟨0,q,t,[],[],[]⟩] [t] [] 0:=by
 have hr:aIc [⟨0,q,t,[],[],[]⟩] []=some (.ok ([⟨if q then 1 else 0,t⟩],[])):=rfl;refine SH (gs:=[⟨if q then 1 else 0,t⟩]) ⟨aeC,?_,(by show 1<=900;decide),?_,hr,(by show 1<=1000;decide),?_⟩ (by decide) rfl (λx hx=>?_) hf (by show 1<=1000;decide)
 .show 0+(t.length+1+0)<=50000
  omega
 .intro x hx
  obtain rfl:=gE.1 hx;show(0:Int)≠2
  decide
 .show(2*t.length+1+0)<=500000
  omega
 .have:=pY.1 hs x hx
  simpa using this
def I1(l:List (Bool×ag)):List (List L.Pt):=l.map λx=>[⟨0,x.1,x.2,[],[],[]⟩]
def Iv(x:Bool×ag):Bool:=decide (x.2.length<=1000)&&(decide ((F.aH4 [32,9,10] [⟨if x.1 then 1 else 0,x.2⟩]).map P.plain=[x.2])&&(F.aH4 [32,9,10] [⟨if x.1 then 1 else 0,x.2⟩]).all λx=>!P.aH3 x&&decide (x.length<1000000))
def adD{T:Tree}:∀{l:List (Bool×ag)},l.all Iv=true->vB T (I1 l) [] (l.map Prod.snd) [] 0
 |[],_=>⟨rfl,rfl,rfl⟩
 |x::r,h=>by obtain⟨q,t⟩:=x;rw[yj,aHo]at h;obtain⟨h1,h2⟩:=h;simp only[Iv,aHo,oC]at h1;exact⟨[],[t],0,avf h1.1 h1.2.1 h1.2.2,.inr ⟨rfl,_,adD h2,rfl⟩⟩
def adE{t:ag}(hl:t.length<=1000)(q:Bool):Be [] [⟨0,q,t,[],[],[]⟩] (.ok ([⟨if q then 1 else 0,t⟩],[])):=by
 refine⟨aeC,?_,(by show 1<=900;decide),?_,rfl,(by show 1<=1000;decide),?_⟩
 .show 0+(t.length+1+0)<=50000
  omega
 .intro x hx
  obtain rfl:=gE.1 hx;show(0:Int)≠2
  decide
 .show(2*t.length+1+0)<=500000
  omega
def SI(q:Bool)(t:ag):F.joined false [⟨if q then 1 else 0,t⟩]=t:=by cases q<;>simp[F.joined,F.qO]
def aeD{n:L.Nd}{l:List (Bool×ag)}{f0:ag}{fr:List ag}{s s2:Sh}{x1:sA}{nm:ag}{st:Int}{out:ag}{T':Tree}(hk:n.k=0)(hw:s.way=0)(hfu:0<s.fuel)(sN:n.ws=I1 l)(has:n.gA=[])(hl:l.all Iv=true)(jQ:l.map Prod.snd=f0::fr)(hV:s.V=[])(hsz:dG (f0::fr)<=900)(hrl:n.rs.length<=10000)(he:s.err.length<=900000)(hn:f0∉CZ)
  (hr:xz n.rs {s with fuel:=s.fuel-1,last:=-1} ⟨s.bu,[],false,false⟩ s2 x1)(ht:aJc s2.T (f0::fr) x1.bu st out [] T')(hT:k4 T')(hb:0<s2.cO)(hin:x1.bu.length<=50000)(hV2:s2.V=[])(ho:s2.out.length+out.length<=1000000000)(tO:s2.err.length<=1000000)
  (hx:x1.is=true->1<s2.cO/\sx x1.dst nm/\nm≠[46]/\Lib.lastIndexByte (S (47::nm)) 47=0/\((gi T' (47::nm)).d++out).length<=50000):
  aHN n s (CO x1 s2 {s2 with bu:=x1.bu,T:=T',cO:=s2.cO-1,st:=st,out:=(if x1.is then[]else s2.out)++out,err:=s2.err++[]} nm):=by
 refine EI (.inr (.inr (.inr hk))) hw hfu ?_;rw[show E1 n.k=BP by rw[hk];rfl];have hlw:l.length<=3000:=by have:=gJ List.length jQ;rw[lG]at this;have:=Mq (f0::fr);omega
 have hfz:f0.length<=dG (f0::fr):=Ug (by simp);refine SX (s:={s with fuel:=s.fuel-1}) (f:=f0::fr) (V1:=[]) (s2:=s2) (s3:={s2 with bu:=x1.bu,T:=T',cO:=s2.cO-1,st:=st,out:=(if x1.is then[]else s2.out)++out,err:=s2.err++[]}) (x1:=x1) (nm:=nm) ?_ (by omega) (by rw[sN,I1,lG];omega) hrl he ?_ ?_ (λh=>?_)
 .rw[sN,<-jQ]
  show vB s.T (I1 l) s.V _ [] 0;rw[hV];exact adD hl
 .have:({s with fuel:=s.fuel-1,last:=-1,V:=[]}:Sh)={s with fuel:=s.fuel-1,last:=-1}:=by rw[<-hV]
  show xz n.rs ({s with fuel:=s.fuel-1,last:=-1,V:=[]}:Sh) _ _ _;rw[this];exact hr
 .rw[has]
  refine acz (s:={s2 with bu:=x1.bu,out:=if x1.is then[]else s2.out}) hn (by omega) ht hT hb (by omega) hin ?_ ?_ ?_ ?_
  .show s2.V.length<900000
   rw[hV2];decide
  .show∀v∈s2.V,_
   rw[hV2];intro v hv;cases hv
  .show(if x1.is then[]else s2.out:ag).length+out.length<=_
   split
   .rw[aHf];omega
   .exact ho
  .exact tO
 .obtain⟨h1,h2,h3,h4,h5⟩:=hx h
  refine⟨?_,h2,h3,h4,?_⟩
  .show 0<s2.cO-1
   omega
  .show((gi T' (47::nm)).d++((if x1.is then[]else s2.out)++out)).length<=50000
   rw[h,aL rfl,Gb];exact h5
def Bh(l:List (Bool×ag))(rs:List (ag×ag)):L.Nd:=⟨0,false,[],I1 l,[],rs.map λr=>(r.1,[⟨0,false,r.2,[],[],[]⟩]),[],[]⟩
def ahB(s:Sh)(st:Int)(out:ag)(T':Tree):Sh:={s with fuel:=s.fuel-1,last:=-1,T:=T',cO:=s.cO-1,st:=st,out:=s.out++out}
structure JV(s:Sh)(k:Nat):Prop where
 way:s.way=0
 fuel:0<s.fuel
 vars:s.V=[]
 err:s.err=[]
 cO:k<s.cO
 bu:s.bu.length<=50000
 rE:k4 s.T
 out:s.out.length<=900000000
def acK{l:List (Bool×ag)}{f0:ag}{fr:List ag}{s:Sh}{st:Int}{out:ag}{T':Tree}(h:JV s 0)(hl:l.all Iv=true)(jQ:l.map Prod.snd=f0::fr)(hsz:dG (f0::fr)<=900)(hn:f0∉CZ)(ht:aJc s.T (f0::fr) s.bu st out [] T')(hT:k4 T')(ho:out.length<=50000000):aHN (Bh l []) s (ahB s st out T'):=by have:=aeD (n:=Bh l []) (s:=s) (s2:={s with fuel:=s.fuel-1,last:=-1}) (x1:=⟨s.bu,[],false,false⟩) (nm:=[]) rfl h.way h.fuel rfl rfl hl jQ h.vars hsz (by show 0<=10000;decide) (by rw[h.err];decide) hn ⟨rfl,rfl⟩ ht hT h.cO h.bu h.vars (by have:=h.out;show s.out.length+out.length<=_;omega) (by show s.err.length<=_;rw[h.err];decide) (λh=>by cases h);simpa[CO,ahB]using this
def ahC(s:Sh)(st:Int)(T':Tree):Sh:={s with fuel:=s.fuel-1,last:=-1,T:=T',cO:=s.cO-3,st:=st}
def awH{l:List (Bool×ag)}{f0:ag}{fr:List ag}{s:Sh}{st:Int}{out:ag}{T':Tree}{dst nm:ag}(h:JV s 3)(hl:l.all Iv=true)(jQ:l.map Prod.snd=f0::fr)(hsz:dG (f0::fr)<=900)(hn:f0∉CZ)(o:sx dst nm)(hnm:nm≠[46])(hi:Lib.lastIndexByte (S (47::nm)) 47=0)
  (ht:aJc (lz s.T nm [] false) (f0::fr) s.bu st out [] T')(hT:k4 T')(ho:out.length<=50000)(hx:((gi T' (47::nm)).d++out).length<=50000):aHN (Bh l [([62],dst)]) s (ahC s st (lz T' nm out true)):=by
 have hd:=o.len;have hb:=h.cO;have hR:xz (Bh l [([62],dst)]).rs {s with fuel:=s.fuel-1,last:=-1} ⟨s.bu,[],false,false⟩ {s with fuel:=s.fuel-1,last:=-1,T:=lz s.T nm [] false,cO:=s.cO-1} ⟨s.bu,dst,false,true⟩:=by
  refine⟨[⟨0,dst⟩],nm,?_,?_,(by show 0<s.cO;omega),.inr ⟨rfl,hnm,hi,rfl,?_⟩⟩
  .show Be s.V _ (.ok (_,s.V))
   rw[h.vars];exact adE (q:=false) (by show dst.length<=1000;omega)
  .rw[show F.joined false [⟨0,dst⟩]=dst from SI false dst]
   exact o
  .show(⟨s.bu,dst,false,true⟩:sA)=⟨s.bu,F.joined false [⟨0,dst⟩],false,true⟩
   rw[show F.joined false [⟨0,dst⟩]=dst from SI false dst]
 have:=aeD (n:=Bh l [([62],dst)]) (s:=s) (s2:={s with fuel:=s.fuel-1,last:=-1,T:=lz s.T nm [] false,cO:=s.cO-1}) (x1:=⟨s.bu,dst,false,true⟩) (nm:=nm) rfl h.way h.fuel rfl rfl hl jQ h.vars hsz (by show 1<=10000;decide) (by rw[h.err];decide) hn hR ht hT (by show 0<s.cO-1;omega) h.bu h.vars (by have:=h.out;show s.out.length+out.length<=_;omega) (by show s.err.length<=_;rw[h.err];decide) (λ_=>⟨by show 1<s.cO-1;omega,o,hnm,hi,hx⟩);have e:s.cO-1-1-1=s.cO-3:=by omega
 simpa[CO,ahC,e]using this
def afy:ag:=[101,99,104,111,32,39,97,32,98,39,32,124,32,115,111,114,116,32,62,32,102,59,32,99,97,116,32,102]
def afz:L.Nd:=⟨3,false,[],[],[],[],[],[⟨1,false,[],[],[],[],[],[Bh [(false,[101,99,104,111]),(true,[97,32,98])] [],Bh [(false,[115,111,114,116])] [([62],[102])]]⟩,Bh [(false,[99,97,116]),(false,[102])] []]⟩
def aqe:L.qT afy=(afz,0):=by kernel_rfl
def avg{a b:L.Nd}{s t1 t2:Sh}(hw:s.way=0)(hf:0<s.fuel)(he:s.tu≠220)(h1:aHN a {s with fuel:=s.fuel-1,out:=[],way:=0,loops:=0} t1)(e1:t1.tu≠220)
  (h2:aHN b {AN {s with fuel:=s.fuel-1} t1 with st:=t1.st,bu:=t1.out,out:=[],way:=0,loops:=0} t2)(e2:t2.tu≠220)(ho:s.out.length+t2.out.length<=1000000000):
  aHN ⟨1,false,[],[],[],[],[],[a,b]⟩ s {AN {AN {s with fuel:=s.fuel-1} t1 with st:=t1.st} t2 with st:=t2.st,out:=s.out++t2.out}:=by
 refine EI (.inr (.inr (.inl rfl))) hw hf ?_;exact ath (n:=⟨1,false,[],[],[],[],[],[a,b]⟩) (s:={s with fuel:=s.fuel-1}) (o:=t2.out) (s':={AN {AN {s with fuel:=s.fuel-1} t1 with st:=t1.st} t2 with st:=t2.st}) (by show 2≠1;decide) rfl ⟨hw,he,t1,h1,e1,hw,e1,t2,h2,e2,rfl,rfl⟩ (by show 2<=100000;decide) ho
def TE{a b:L.Nd}{s s1 s2:Sh}(hw:s.way=0)(hf:0<s.fuel)(h1:aHN a {s with fuel:=s.fuel-1} s1)(h2:aHN b s1 s2):aHN ⟨3,false,[],[],[],[],[],[a,b]⟩ s s2:=by refine EI (.inl rfl) hw hf ?_;exact awy (n:=⟨3,false,[],[],[],[],[],[a,b]⟩) (s:={s with fuel:=s.fuel-1}) ⟨s1,h1,s2,h2,rfl⟩ (by show 2<=100000;decide)
def agm:sx [102] [102]:=⟨by kernel_rfl,by decide,by decide,by decide,by kernel_rfl,by decide⟩
def avh:aKP [] [97,32,98,10]=[97,32,98,10]:=by
 have h:ij [97,32,98,10]=[[97,32,98]]:=by kernel_rfl
 unfold aKP;rw[aL rfl,h,ir,List.mergeSort_singleton];rfl
def avi:∃s',aHN afz (vb [] [] 20) s'/\s'.st=0/\s'.out=[97,32,98,10]/\s'.err=[]:=by
 have nil:k4 []:=λx hx=>by cases hx
 have ft:k4 (lz [] [102] [] false):=nil.put _ _;have ft2:k4 (lz (lz [] [102] [] false) [102] [97,32,98,10] true):=ft.put _ _;have tE:aJc [] [[101,99,104,111],[97,32,98]] [] 0 [97,32,98,10] [] []:=S4 (fn:=B4) (by decide) (by decide) (by decide) (S3 (args:=[[97,32,98]]) [] (by decide) (by decide)) [];have tS:aJc (lz [] [102] [] false) [[115,111,114,116]] [97,32,98,10] 0 [97,32,98,10] [] (lz [] [102] [] false):=by have:=S4 (f0:=[115,111,114,116]) (fn:=Gn) (by decide) (by decide) (by decide) (atq (args:=[]) (.inl rfl) (bu:=[97,32,98,10]) (by decide)) (lz [] [102] [] false);rw[avh]at this;exact this
 have tC:aJc (lz (lz [] [102] [] false) [102] [97,32,98,10] true) [[99,97,116],[102]] [] 0 [97,32,98,10] [] (lz (lz [] [102] [] false) [102] [97,32,98,10] true):=
  ave (fn:=Gh) (by decide) (awG agm (by decide) (d:=[97,32,98,10]) (by kernel_rfl) _ _ (by decide))
 refine⟨_,TE rfl (by decide) (avg rfl (by decide) (by decide) (acK (l:=[(false,[101,99,104,111]),(true,[97,32,98])]) ⟨rfl,by decide,rfl,rfl,by decide,by decide,nil,by decide⟩ (by kernel_rfl) rfl (by decide) (by decide) tE nil (by decide)) (by decide)
  (awH (l:=[(false,[115,111,114,116])]) (dst:=[102]) (nm:=[102]) ⟨rfl,by decide,rfl,rfl,by decide,by decide,nil,by decide⟩ (by kernel_rfl) rfl (by decide) (by decide) agm (by decide) (by kernel_rfl) tS ft (by decide) (by decide)) (by decide) (by decide))
  (acK (l:=[(false,[99,97,116]),(false,[102])]) ⟨rfl,by decide,rfl,rfl,by decide,by decide,ft2,by decide⟩ (by kernel_rfl) rfl (by decide) (by decide) tC ft2 (by decide)),rfl,rfl,rfl⟩
end Go.Proofs.YtihaaoehhgmphaaGreatDoor
namespace Go.Proofs.YtihaaoehhgmphaaGreatDoor
open IntKind Go.RowKit Vc
set_option maxRecDepth 100000
def tv(c:UInt8):Bool:=!(([32,9,10,92,42,63,91]:ag).contains c)
def Ck{c k:UInt8}(h:tv c=true)(hk:k∈([32,9,10,92,42,63,91]:ag)):c≠k:=by rintro rfl;unfold tv at h;rw[DA.2 hk]at h;cases h
def aqf{c:UInt8}(h:tv c=true):F.aI8 [c]=[c]:=by have hne:=Ck h (k:=92) (by decide);simp[F.aI8,iY,hne]
def acL{c:UInt8}(h:tv c=true)(x:F.St):F.aIb [32,9,10] x c=x.put [c]:=by unfold F.aIb;rw[aG,aqf h];rw[oC];intro e;simp only[aHs,uf,uj]at e;rcases e with e|e|e<;>exact Ck h (by decide) e
def aby:∀(t:ag) (x:F.St),(∀c∈t,tv c=true)->t≠[]->F.pE [32,9,10] x t=⟨x.out,x.cur++t,true,false⟩
 |[],_,_,h=>absurd rfl h
 |[c],x,h,_=>by show F.aIb [32,9,10] x c=_;rw[acL (h c (by simp))];rfl
 |c::d::t,x,h,_=>by show F.pE [32,9,10] (F.aIb [32,9,10] x c) (d::t)=_;rw[acL (h c (by simp)),aby (d::t) _ (λy hy=>h y (by simp[hy])) (by simp)];simp[F.St.put]
def aaC{t:ag}(h:∀c∈t,tv c=true)(hne:t≠[]):F.aH4 [32,9,10] [⟨2,t⟩]=[t]:=by show F.NZ (F.pE [32,9,10] F.St.zero t)=[t];rw[aby t _ h hne];rfl
def abz:∀(t:ag),(∀c∈t,tv c=true)->P.plain t=t
 |[],_=>rfl
 |[a],_=>rfl
 |a::b::r,h=>by simp only[P.plain];rw[aG (Ck (h a (by simp)) (by decide)),abz (b::r) λy hy=>h y (by simp[hy])]
def acM{a:UInt8}(h:tv a=true):P.AL a=false:=by unfold P.AL;simp[Ck h (k:=42) (by decide),Ck h (k:=63) (by decide),Ck h (k:=91) (by decide)]
def Z6:∀(t:ag),(∀c∈t,tv c=true)->P.aH3 t=false
 |[],_=>rfl
 |[a],h=>acM (h a (by simp))
 |a::b::r,h=>by simp only[P.aH3];rw[aG (by rw[acM (h a (by simp))];decide),aG (Ck (h a (by simp)) (by decide)),Z6 (b::r) λy hy=>h y (by simp[hy])]
end Go.Proofs.YtihaaoehhgmphaaGreatDoor
namespace Go.Proofs.YtihaaoehhgmphaaGreatDoor.A
open IntKind Go.RowKit Vc
def zh(k:Nat):Prop:=k=1\/k=2\/k=130\/k=131\/k=150
def zh.in{k:Nat}(h:zh k):k≠0/\k<=255:=by unfold zh at h;omega
def axR{m:Cm}{s:ag}{q:Pr (Tm×ag)}(h:Cl m s q):∀k,q=.bad k->zh k:=by
 have one:∀{k k':Nat},(Pr.bad k:Pr (Tm×ag))=.bad k'->k=k':=by intro k k' e;injection e
 induction h with
 |MJ h=>intro k e;rw[<-one e];exact .inr (.inl rfl)
 |Nb h ha h1 ih=>intro k e;cases e
 |aKo h ha h1 ih=>intro k e;rw[<-one e];exact ih _ rfl
 |MK h ha h1 ih=>exact ih
 |Nc h1 ih=>intro k e;rw[<-one e];exact ih _ rfl
 |NK h1 ho ih=>intro k e;cases e
 |ML h1 ho h2 ih1 ih2=>intro k e;rw[<-one e];exact ih2 _ rfl
 |Mj h1 ho h2 cc ih1 ih2=>intro k e;rw[<-one e];exact .inr (.inr (.inl rfl))
 |MM h1 ho h2 cc h3 ih1 ih2 ih3=>intro k e;rw[<-one e];exact ih3 _ rfl
 |NL h1 ho h2 cc h3 ih1 ih2 ih3=>intro k e;cases e
 |MN h1 ih=>intro k e;rw[<-one e];exact ih _ rfl
 |bin h1 h2 ih1 ih2=>exact ih2
 |yS h=>intro k e;cases e
 |AW h h1 ih=>intro k e;rw[<-one e];exact ih _ rfl
 |yH h h1 h2 ih1 ih2=>exact ih2
 |MO h=>intro k e;rw[<-one e];exact .inr (.inl rfl)
 |unOp h ho h1 ih=>intro k e;cases e
 |Mk h ho h1 ih=>intro k e;rw[<-one e];exact ih _ rfl
 |aKp h ho h1 ih=>intro k e;rw[<-one e];exact ih _ rfl
 |Ml h ho h1 cc ih=>intro k e;rw[<-one e];exact .inr (.inr (.inl rfl))
 |Nf h ho h1 cc ih=>intro k e;cases e
 |aKs h ho cc=>
  intro k e;unfold vv at e;dsimp only at e;split at e
  .cases e
  .split at e
   .cases e
   .rw[<-one e];exact .inr (.inr (.inl rfl))
def uH{α β:Type}{r:Pr α}{f:α->Pr β}{k:Nat}(h:n_ r f=.bad k):r=.bad k\/∃a,r=.ok a/\f a=.bad k:=by
 cases r with
 |bad j=>injection h with h;rw[h];exact .inl rfl
 |ok a=>exact .inr ⟨a,rfl,h⟩
def adF{x:ag}{V:List Vr}{k:Nat}(h:xw x V=.bad k):zh k:=by
 unfold xw at h;split at h
 .cases h
 .injection h with h;rw[<-h];exact .inr (.inr (.inl rfl))
def adG{op:ag}{a b:Int}{k:Nat}(h:aIF op a b=.bad k):zh k:=by
 unfold aIF at h;split at h
 .injection h with h;rw[<-h];exact .inr (.inr (.inr (.inl rfl)))
 .cases h
def avj{V:List Vr}{x:ag}{z:Int}{k:Nat}(h:su V x z=.bad k):zh k:=by
 unfold su at h;split at h
 .cases h
 .rename_i h0
  injection h with h;rcases adv V x (Lib.itoa z)with e|e|e
  .exact absurd e h0
  .rw[<-h,e];exact .inr (.inr (.inr (.inr rfl)))
  .rw[<-h,e];exact .inl rfl
def aJq:∀(t:Tm) {V:List Vr} {k:Nat},ev t V=.bad k->zh k
 |.num n,V,k,h=>by cases h
 |.vQ x,V,k,h=>by
  rcases uH h with h|⟨a,_,h⟩
  .exact adF h
  .cases h
 |.tN op t,V,k,h=>by
  rcases uH h with h|⟨a,_,h⟩
  .exact aJq t h
  .cases h
 |.bin op a b,V,k,h=>by
  simp only[ev]at h;rcases uH h with h|⟨p,_,h⟩
  .exact aJq a h
  split at h
  .split at h
   .cases h
   .rcases uH h with h|⟨q,_,h⟩
    .exact aJq b h
    .cases h
  .split at h
   .split at h
    .cases h
    .rcases uH h with h|⟨q,_,h⟩
     .exact aJq b h
     .cases h
   .rcases uH h with h|⟨q,_,h⟩
    .exact aJq b h
    .rcases uH h with h|⟨r,_,h⟩
     .exact adG h
     .cases h
 |.h_ c a b,V,k,h=>by
  simp only[ev]at h;rcases uH h with h|⟨p,_,h⟩
  .exact aJq c h
  split at h
  .exact aJq a h
  .exact aJq b h
 |.set x op t,V,k,h=>by
  simp only[ev]at h;rcases uH h with h|⟨p,_,h⟩
  .exact aJq t h
  rcases uH h with h|⟨v,_,h⟩
  .split at h
   .cases h
   .rcases uH h with h|⟨m,_,h⟩
    .exact adF h
    .exact adG h
  .exact avj h
def LU{s:ag}{V:List Vr}{k:Nat}(h:iX s V=.bad k):zh k:=by
 unfold iX at h;split at h
 .cases h
 .have hc:=aKO (trim s)
  cases hr:rd (trim s)with
  |bad j=>rw[hr]at h hc;injection h with h;rw[<-h];exact axR hc _ rfl
  |ok p=>
   rw[hr]at h;dsimp only at h;split at h
   .exact aJq _ h
   .injection h with h;rw[<-h];exact .inr (.inr (.inl rfl))
def arF{s y:ag}{V V':List Vr}{z:Int}(hy:∃c∈y,c∉s)(h:iX s V=.ok (z,V')):get y V'=get y V:=by
 unfold iX at h;split at h
 .injection h with h
  injection h with h1 h2;rw[h2]
 .have hc:=aKO (trim s)
  cases hr:rd (trim s)with
  |bad j=>rw[hr]at h;cases h
  |ok p=>
   rw[hr]at h hc;dsimp only at h;split at h
   .have hn:=(ayj (B:=λc=>c∈s) hc (λc hc=>Ar hc) p.1 p.2 rfl (λ_ _ _ e=>by cases e)).1
    exact wY hy _ hn h
   .cases h
def A3(V:List Vr):Prop:=∀v∈V,v.exp=false
def abA(v:Vr):∀(l:List Vr) (x:Vr),x∈ins v l->x=v\/x∈l
 |[],x,h=>.inl (by simpa[ins]using h)
 |a::r,x,h=>by
  simp only[ins]at h;split at h
  .rcases aHs.1 h with rfl|h
   .exact .inr (by simp)
   .rcases abA v r x h with h|h
    .exact .inl h
    .exact .inr (by simp[h])
  .split at h
   .rcases aHs.1 h with h|h
    .exact .inl h
    .exact .inr (by simp[h])
   .rcases aHs.1 h with h|h
    .exact .inl h
    .exact .inr h
def avk{V:List Vr}(h:A3 V)(n:ag):(getD n V).exp=false:=by
 unfold getD;cases hg:get n V with
 |none=>rfl
 |some v=>exact h v (Tp hg).2
def avl{V V':List Vr}{x:ag}{z z':Int}(hV:A3 V)(h:su V x z=.ok (z',V')):A3 V':=by
 unfold su at h;split at h
 .rename_i h0
  injection h with h;injection h with h1 h2;rw[<-h2];unfold i_ at h0⊢
  by_cases h3:isName x=true
  .rw[aL h3]at h0⊢
   by_cases h4:(getD x V).ro=true
   .rw[aL h4]at h0
    exact absurd h0 (by decide)
   .rw[aG h4]
    intro v hv;rcases abA _ _ _ hv with rfl|hv
    .exact avk hV x
    .exact hV v hv
  .rw[aG h3]at h0
   exact absurd h0 (by decide)
 .cases h
def aJr:∀(t:Tm) {V V':List Vr} {z:Int},A3 V->ev t V=.ok (z,V')->A3 V'
 |.num n,V,V',z,hV,h=>by injection h with h;injection h with h1 h2;rwa[<-h2]
 |.vQ x,V,V',z,hV,h=>by obtain⟨n,_,h⟩:=lS h;injection h with h;injection h with h1 h2;rwa[<-h2]
 |.tN op t,V,V',z,hV,h=>by obtain⟨p,h1,h⟩:=lS h;injection h with h;injection h with _ h2;rw[<-h2];exact aJr t hV h1
 |.bin op a b,V,V',z,hV,h=>by
  simp only[ev]at h;obtain⟨p,h1,h⟩:=lS h;have e1:=aJr a hV h1;split at h
  .split at h
   .injection h with h
    injection h with _ h2;rwa[<-h2]
   .obtain⟨q,h2,h⟩:=lS h
    injection h with h;injection h with _ h3;rw[<-h3];exact aJr b e1 h2
  .split at h
   .split at h
    .injection h with h
     injection h with _ h2;rwa[<-h2]
    .obtain⟨q,h2,h⟩:=lS h
     injection h with h;injection h with _ h3;rw[<-h3];exact aJr b e1 h2
   .obtain⟨q,h2,h⟩:=lS h
    obtain⟨r,_,h⟩:=lS h;injection h with h;injection h with _ h3;rw[<-h3];exact aJr b e1 h2
 |.h_ c a b,V,V',z,hV,h=>by
  simp only[ev]at h;obtain⟨p,h1,h⟩:=lS h;have e1:=aJr c hV h1;split at h
  .exact aJr a e1 h
  .exact aJr b e1 h
 |.set x op t,V,V',z,hV,h=>by simp only[ev]at h;obtain⟨p,h1,h⟩:=lS h;obtain⟨v,_,h⟩:=lS h;exact avl (aJr t hV h1) h
def att{s:ag}{V V':List Vr}{z:Int}(hV:A3 V)(h:iX s V=.ok (z,V')):A3 V':=by
 unfold iX at h;split at h
 .injection h with h
  injection h with h1 h2;rwa[<-h2]
 .cases hr:rd (trim s)with
  |bad j=>rw[hr]at h;cases h
  |ok p=>
   rw[hr]at h;dsimp only at h;split at h
   .exact aJr _ hV h
   .cases h
end Go.Proofs.YtihaaoehhgmphaaGreatDoor.A
namespace Go.Proofs.YtihaaoehhgmphaaGreatDoor.L
open IntKind Go.RowKit Vc
def kz(c:UInt8):Bool:=!(([36,92,39,34,40,41,123,125]:ag).contains c)
def wQ{c k:UInt8}(h:kz c=true)(hk:k∈([36,92,39,34,40,41,123,125]:ag)):c≠k:=by rintro rfl;unfold kz at h;rw[DA.2 hk]at h;cases h
def abB{d:Nat}{c:UInt8}{r:ag}(h:kz c=true):fU (d+1) (c::r)=some r:=by
 show(if c=92 then(match r with
  |[]=>none
  |_::t=>some t)else if c=39 then aIR r else if c=34 then dU d 34 r else yG (dU d) c r)=some r
 rw[aG (wQ h (by decide)),aG (wQ h (by decide)),aG (wQ h (by decide))];cases r with
 |nil=>rfl
 |cons b t=>rw[yG,aG (λe=>wQ h (by decide) e.1),aG (λe=>wQ h (by decide) e.1)]
def aaD{d:Nat}:∀(S u:ag),(∀c∈S,kz c=true)->dU (d+1) 41 (S++41::u)=some u
 |[],u,_=>by rw[Gb,GA,aL rfl]
 |c::S,u,h=>by have hc:=h c (by simp);rw[BX,GA,aG (wQ hc (by decide)),aG (λe=>absurd e.1 (by decide)),aG (λe=>wQ hc (by decide) e.2),abB hc,KC];exact aaD S u λx hx=>h x (by simp[hx])
def adH(S u:ag)(h:∀c∈S,kz c=true):fU 30 (36::40::40::(S++41::41::u))=some u:=by
 show dU 29 41 (40::(S++41::41::u))=some u;rw[GA,aG (by decide),aG (by decide),aL (by decide),aG (by decide)];show(dU 28 41 (S++41::(41::u))).bind (dU 29 41)=some u
 rw[aaD (d:=27) S (41::u) h,KC,GA,aL rfl]
def abC:∀(p t:ag),(∀c∈p,kz c=true/\oK c=false)->aIA t=true->nW (p++t)=some t
 |[],t,_,ht=>abm ht
 |c::p,t,h,ht=>by have hc:=h c (by simp);rw[BX,LG (s:=c::(p++t)) hc.2 (abB (d:=29) hc.1)];exact abC p t (λx hx=>h x (by simp[hx])) ht
def acN{a:UInt8}{p t:ag}(h:∀c∈a::p,kz c=true/\oK c=false)(jR:a≠35)(ht:aIA t=true):toks (a::(p++t))=(toks t).map ([(0,a::p)]++·):=by
 have ha:=(h a (by simp)).2;refine L6 (aaB ⟨?_,jR,?_⟩ ha rfl (abC (a::p) t h ht))
 .rintro(rfl|rfl)<;>exact absurd ha (by decide)
 .rintro rfl
  exact absurd ha (by decide)
def abD(t:ag):toks (32::t)=toks t:=by rw[L6 (l:=[]) (t:=t) (by unfold ku;rw[aL (.inl rfl)])];exact map_nil _
def atu(t:ag):toks (59::32::t)=(toks t).map ([(1,[59])]++·):=by
 rw[L6 (ato ⟨by decide,by decide,by decide⟩ (by decide))];show(toks (32::t)).map _=_
 rw[abD];rfl
def avm(S:ag)(h:∀c∈S,kz c=true):toks (36::40::40::(S++[41,41]))=some [(0,36::40::40::(S++[41,41]))]:=by
 have hw:nW ((36::40::40::(S++[41,41]))++[])=some []:=by rw[ug,LG (s:=36::40::40::(S++[41,41])) rfl (adH S [] h)];rfl
 rw[L6 (aaB (p:=36::40::40::(S++[41,41])) ⟨by decide,by decide,by decide⟩ (by decide) (ug _).symm hw),TA];rfl
def avn(v S:ag)(hv:∀c∈v,kz c=true/\oK c=false)(hS:∀c∈S,kz c=true):
  toks (97::61::(v++59::32::101::99::104::111::32::36::40::40::(S++[41,41])))=some [(0,97::61::v),(1,[59]),(0,[101,99,104,111]),(0,36::40::40::(S++[41,41]))]:=by
 have h1:=acN (a:=97) (p:=61::v) (t:=59::32::101::99::104::111::32::36::40::40::(S++[41,41])) (λc hc=>by
  rcases aHs.1 hc with rfl|hc
  .decide
  .rcases aHs.1 hc with rfl|hc
   .decide
   .exact hv c hc) (by decide) rfl
 have h2:=acN (a:=101) (p:=[99,104,111]) (t:=32::36::40::40::(S++[41,41])) (by decide) (by decide) rfl;have e1:(61::v)++59::32::101::99::104::111::32::36::40::40::(S++[41,41])=61::(v++59::32::101::99::104::111::32::36::40::40::(S++[41,41])):=rfl;rw[e1]at h1;rw[h1,atu];have e2:([99,104,111]:ag)++32::36::40::40::(S++[41,41])=99::104::111::32::36::40::40::(S++[41,41]):=rfl;rw[e2]at h2;rw[h2,abD,avm S hS];rfl
def arG(u c:ag):fP [tx false u] (tx false c)=[tx false (u++c)]:=rfl
def acO{P:ag->Rs (List Pt)}{c:UInt8}{r:ag}(h:kz c=true):kO P (c::r)=.ok ([tx false [c]],1):=by simp only[kO];rw[aG (wQ h (by decide)),aG];rintro(e|e|e)<;>exact wQ h (by decide) e
def abE{P:ag->Rs (List Pt)}:∀(s u:ag) (n:Nat),s.length<n->(∀c∈s,kz c=true)->aHr (kO P) n [tx false u] s=.ok [tx false (u++s)]
 |[],u,n+1,_,_=>by rw[ug];rfl
 |c::s,u,n+1,hn,h=>by
  simp only[aHr,acO (h c (by simp)),Rs.and];show aHr (kO P) n (fP [tx false u] (tx false [c])) s=_
  rw[arG,abE s (u++[c]) n (by simp only[bf]at hn;omega) λx hx=>h x (by simp[hx])];simp
def adI{L:Nat}{c:UInt8}{s:ag}(h:∀x∈c::s,kz x=true):ef (L+1) (c::s)=.ok [tx false (c::s)]:=by
 show aHr (kO (ef L)) ((c::s).length+1) [] (c::s)=_;simp only[aHr,acO (h c (by simp)),Rs.and];show aHr (kO (ef L)) (c::s).length [tx false [c]] s=_
 rw[abE s [c] _ (by simp) λx hx=>h x (by simp[hx])];rfl
def axS{L:Nat}{S:ag}(h:∀x∈S,kz x=true):ef (L+1) (36::40::40::(S++[41,41]))=.ok [.mk 3 false S [] [] []]:=by
 have hu:=adH S [] h;have hl:(36::40::40::(S++[41,41]):ag).length=S.length+5:=by simp
 have hd:kg (ef L) false (36::40::40::(S++[41,41]))=.ok (.mk 3 false S [] [] [],S.length+5):=by
  unfold kg;rw[aL (.inl rfl),hu];dsimp only;rw[aG (by simp),aL,hl]
  .simp
  .refine⟨by rw[hl];simp only[aHf];omega,rfl,?_⟩
   rw[hl];show(36::40::40::(S++[41,41]):ag)[S.length+3]?=some 41
   simp
 have ho:kO (ef L) (36::40::40::(S++[41,41]))=.ok ([.mk 3 false S [] [] []],S.length+5):=by unfold kO;simp only[nu];rw[hd];rfl
 show aHr (kO (ef L)) ((36::40::40::(S++[41,41]):ag).length+1) [] (36::40::40::(S++[41,41]))=_;rw[hl];simp only[aHr,ho,Rs.and];rw[show(36::40::40::(S++[41,41]):ag).drop (S.length+5)=[]from List.drop_eq_nil_of_le (by rw[hl];omega)];rfl
def fV:ag:=[101,99,104,111]
def vD(v:ag):Nd:=.mk 0 false [] [] [([97],[tx false v])] [] [] []
def sB(S:ag):Nd:=.mk 0 false [] [[tx false fV],[.mk 3 false S [] [] []]] [] [] [] []
def arH{v:ag}(r:Ts)(h:ef 30 v=.ok [tx false v]):ki ((0,97::61::v)::(1,[59])::r)=.ok (vD v,(1,[59])::r):=by
 unfold ki;have ha:aIY (97::61::v)=some ([97],v):=by kernel_rfl
 rw[aIQ wH];have e1:kY ([],[],[]) ((0,97::61::v)::(1,[59])::r)=.ok (.inl (([],[([97],[tx false v])],[]),(1,[59])::r)):=by unfold kY;rw[aG (show¬u9 ((0,97::61::v)::(1,[59])::r)=true by rw[show u9 ((0,97::61::v)::(1,[59])::r)=false by rfl];decide)];dsimp only;rw[aL rfl,aL rfl,ha];dsimp only;rw[h];rfl
 rw[e1];simp only[Rs.and];rw[aIQ wH];rfl
def arI{S:ag}(h:∀x∈S,kz x=true):ki [(0,fV),(0,36::40::40::(S++[41,41]))]=.ok (sB S,[]):=by
 unfold ki;have hw:ef 30 fV=.ok [tx false fV]:=adI (L:=29) (c:=101) (s:=[99,104,111]) (by decide);have hs:=axS (L:=29) h;rw[aIQ wH];have e1:kY ([],[],[]) [(0,fV),(0,36::40::40::(S++[41,41]))]=.ok (.inl (([[tx false fV]],[],[]),[(0,36::40::40::(S++[41,41]))])):=by unfold kY;rw[aG (by rw[show u9 [(0,fV),(0,36::40::40::(S++[41,41]))]=false by rfl];decide)];dsimp only;rw[aL rfl,aL rfl,show aIY fV=none by rfl];dsimp only;rw[hw];rfl
 rw[e1];simp only[Rs.and];rw[aIQ wH];have e2:kY ([[tx false fV]],[],[]) [(0,36::40::40::(S++[41,41]))]=.ok (.inl (([[tx false fV],[.mk 3 false S [] [] []]],[],[]),[])):=by unfold kY;rw[aG (by rw[show u9 [(0,36::40::40::(S++[41,41]))]=false by rfl];decide)];dsimp only;rw[aL rfl,aG (by simp)];dsimp only;rw[hs];rfl
 rw[e2];simp only[Rs.and];rw[aIQ wH];rfl
def arJ{v S:ag}(h:ef 30 v=.ok [tx false v])(hS:∀x∈S,kz x=true):Ej [(0,97::61::v),(1,[59]),(0,fV),(0,36::40::40::(S++[41,41]))]=.ok (aJa [vD v,sB S]):=by
 have pipe:∀{s r:Ts} {n:Nd},aHA 0 aIW s=false->ki s=.ok (n,r)->aHA 1 U5 r=false->Bb ki s=.ok (n,r):=by
  intro s r n h1 h2 h3;unfold Bb CL;rw[h1,aG (by decide),h2];simp only[Rs.and];rw[aIQ (Se Lm _)];have e:aIk ki false [n] r=.ok (.inr (Io false [n],r)):=by unfold aIk;rw[h3,aG (by decide)]
  rw[e];rfl
 have a1:=pipe (s:=(0,97::61::v)::(1,[59])::[(0,fV),(0,36::40::40::(S++[41,41]))]) (by rfl) (arH _ h) (by rfl);have a2:=pipe (s:=[(0,fV),(0,36::40::40::(S++[41,41]))]) (by rfl) (arI hS) (by rfl);have l1:r_ ki [] [(0,97::61::v),(1,[59]),(0,fV),(0,36::40::40::(S++[41,41]))]=.ok (.inl ([vD v],[(0,fV),(0,36::40::40::(S++[41,41]))])):=by unfold r_;rw[show CK [(0,97::61::v),(1,[59]),(0,fV),(0,36::40::40::(S++[41,41]))]=false by rfl,aG (by decide),a1];rfl
 have l2:r_ ki [vD v] [(0,fV),(0,36::40::40::(S++[41,41]))]=.ok (.inr (aJa [vD v,sB S],[])):=by unfold r_;rw[show CK [(0,fV),(0,36::40::40::(S++[41,41]))]=false by rfl,aG (by decide),a2];rfl
 unfold Ej EA;show(aIz (r_ ki) [] [(0,97::61::v),(1,[59]),(0,fV),(0,36::40::40::(S++[41,41]))]).and _=_
 rw[aIQ (Sf Lm),l1];simp only[Rs.and];rw[aIQ (Sf Lm),l2];rfl
def adJ{s:ag}(h:∀x∈s,kz x=true):s.contains 123=false:=by rw[QE];intro e;exact wQ (h _ (DA.1 e)) (by decide) rfl
def Bi(v S:ag):ag:=97::61::(v++59::32::101::99::104::111::32::36::40::40::(S++[41,41]))
def atv{c:UInt8}{v S:ag}(hv:∀x∈c::v,kz x=true/\oK x=false)(hS:∀x∈S,kz x=true)(hl:v.length+S.length<=10000):qT (Bi (c::v) S)=(aJa [vD (c::v),sB S],0):=by
 have ht:toks (Bi (c::v) S)=some [(0,97::61::c::v),(1,[59]),(0,fV),(0,36::40::40::(S++[41,41]))]:=avn (c::v) S hv hS;have hr:iK (Bi (c::v) S)=([(0,97::61::c::v),(1,[59]),(0,fV),(0,36::40::40::(S++[41,41]))],0):=by unfold iK;rw[aG (by simp only[Bi,bf,cB,aHf];omega),ht]
 have hp:Er (Bi (c::v) S)=true:=by
  unfold Er;rw[hr];have b1:(97::61::c::v:ag).contains 123=false:=by have:=adJ (s:=c::v) λx hx=>(hv x hx).1;rw[ud,ud,this];rfl
  have b2:(36::40::40::(S++[41,41]):ag).contains 123=false:=by
   have:=adJ hS;rw[ud,ud,ud];have e:(S++[41,41]).contains 123=false:=by
    rw[QE]at this⊢;intro e;rcases kW.1 (DA.1 e)with e|e
    .exact this (DA.2 e)
    .exact absurd e (by decide)
   rw[e];rfl
  have h1:CM.contains (0,97::61::c::v)=false:=by rfl
  have h2:CM.contains (0,36::40::40::(S++[41,41]))=false:=by rfl
  simp only[yj,List.all_nil,h1,h2,b1,b2];decide
 unfold qT;rw[hp,aG (by decide),hr,aL rfl];dsimp only;rw[arJ (adI (L:=29) λx hx=>(hv x hx).1) hS]
end Go.Proofs.YtihaaoehhgmphaaGreatDoor.L
namespace Go.Proofs.YtihaaoehhgmphaaGreatDoor
open IntKind Go.RowKit Vc
set_option maxRecDepth 100000
abbrev Va(v:ag):List A.Vr:=[⟨[97],v,false,false⟩]
def Nq{v:ag}(hl:v.length<=1000):pR (Va v):=⟨by simp[A.kZ],λx hx=>by obtain rfl:=gE.1 hx;show v.length<=_;omega⟩
def MU{V:List A.Vr}(h:A.get [73,70,83] V=none):aIq V=[32,9,10]:=by unfold aIq;rw[h];rfl
def MV(v:ag):A.get [73,70,83] (Va v)=none:=rfl
def avo{S:ag}{V:List A.Vr}{z:Int}{V':List A.Vr}(h:A.iX S V=.ok (z,V')):aIc [⟨3,false,S,[],[],[]⟩] V=some (.ok ([⟨2,Lib.itoa z⟩],V')):=by simp[aIc,qb,L.Pt.k,L.Pt.t,L.Pt.q,h]
def avp{S:ag}{V:List A.Vr}{k:Nat}(h:A.iX S V=.bad k)(hk:k≠0):aIc [⟨3,false,S,[],[],[]⟩] V=some (.bad k):=by simp[aIc,qb,L.Pt.k,L.Pt.t,L.Pt.q,h,hk]
def acP{T:Tree}{v:ag}(hv:v.length<=1000):yT T (Va v) [⟨0,false,L.fV,[],[],[]⟩] [L.fV] (Va v) 0:=by
 refine SH (gs:=[⟨0,L.fV⟩]) ⟨Nq hv,(by show 1+5<=50000;decide),(by show 1<=900;decide),λx hx=>?_,rfl,(by show 1<=1000;decide),(by show(2*4+1+0:Nat)<=500000;decide)⟩ (by rw[MU (MV v)];decide) rfl (λx hx=>?_) ?_ (by show 1<=1000;decide)
 .obtain rfl:=gE.1 hx
  show(0:Int)≠2;decide
 .rw[MU (MV v)]at hx
  have:x∈[L.fV]:=hx;obtain rfl:=gE.1 this;exact⟨by decide,by decide⟩
 .rw[MU (MV v)]
  rfl
def I2(c:UInt8):Bool:=c==45||(decide (48<=c.toNat)&&decide (c.toNat<=57))
def adK(c:UInt8)(h:I2 c=true):tv c=true/\L.kz c=true/\L.oK c=false:=by
 have key:∀n:Nat,n<256->I2 (UInt8.ofNat n)=true->tv (UInt8.ofNat n)=true/\L.kz (UInt8.ofNat n)=true/\L.oK (UInt8.ofNat n)=false:=by decide+kernel
 have:=key c.toNat c.toNat_lt;rw[Kz]at this;exact this h
def aeE:∀(u:Nat),(∀c∈Lib.decDigits u,I2 c=true)/\Lib.decDigits u≠[]:=by
 have one:∀i:Nat,i<10->I2 (UInt8.ofNat (48+i))=true:=by decide
 intro u
 induction u using Nat.strongRecOn with
 |_ u ih=>
  rw[Lib.decDigits];split
  .rename_i h
   exact⟨λc hc=>by obtain rfl:=gE.1 hc;exact one u h,by simp⟩
  .rename_i h
   refine⟨λc hc=>?_,by simp⟩;rcases kW.1 hc with hc|hc
   .exact(ih (u/10) (by omega)).1 c hc
   .obtain rfl:=gE.1 hc
    exact one _ (by omega)
def adL(z:Int):(∀c∈Lib.itoa z,I2 c=true)/\Lib.itoa z≠[]:=by
 rcases K4 z 0 with h|h
 .obtain⟨u,rfl⟩:∃u:Nat,z= -(u:Int):=⟨(-z).toNat,by omega⟩
  rw[Lib.itoa_neg u (by omega)];refine⟨λc hc=>?_,by simp⟩;rcases aHs.1 hc with rfl|hc
  .decide
  .exact(aeE u).1 c hc
 .obtain⟨u,rfl⟩:∃u:Nat,z=(u:Int):=⟨z.toNat,by omega⟩
  rw[Lib.itoa_nonneg u];exact aeE u
def avq{T:Tree}{v S:ag}{z:Int}{V':List A.Vr}(hv:v.length<=1000)(hS:S.length<=1000)(hI:(73:UInt8)∉S)(hz:A.eL z)(h:A.iX S (Va v)=.ok (z,V')):yT T (Va v) [⟨3,false,S,[],[],[]⟩] [Lib.itoa z] V' 0:=by
 have hi:aIq V'=[32,9,10]:=MU ((A.arF (y:=[73,70,83]) ⟨73,by simp,hI⟩ h).trans (MV v));have hn:=adL z;have hd:∀c∈Lib.itoa z,tv c=true:=λc hc=>(adK c (hn.1 c hc)).1;have hl:=Lib.itoa_length_le z hz.1 (by have:=hz.2;omega);refine SH (gs:=[⟨2,Lib.itoa z⟩]) ⟨Nq hv,?_,(by show 1<=900;decide),λx hx=>?_,avo h,(by show 1<=1000;decide),?_⟩ (by rw[hi];decide) rfl (λx hx=>?_) ?_ (by show 1<=1000;decide)
 .show 1+(S.length+1+0)<=50000
  omega
 .obtain rfl:=gE.1 hx
  show(3:Int)≠2;decide
 .show(2*(Lib.itoa z).length+1+0:Nat)<=500000
  omega
 .rw[hi,aaC hd hn.2]at hx
  obtain rfl:=gE.1 hx;exact⟨Z6 _ hd,by omega⟩
 .rw[hi,aaC hd hn.2]
  show[P.plain (Lib.itoa z)]=_;rw[abz _ hd]
def aqg{T:Tree}{v S:ag}{k:Nat}(hv:v.length<=1000)(hS:S.length<=1000)(h:A.iX S (Va v)=.bad k):yT T (Va v) [⟨3,false,S,[],[],[]⟩] [] (Va v) k:=by
 have hk:=(A.LU h).in
 refine .inr ⟨hk.1,hk.2,⟨Nq hv,?_,(by show 1<=900;decide),λx hx=>?_,avp h hk.1,(by show 0<=1000;decide),(by show(0:Nat)<=500000;decide)⟩,rfl,rfl⟩
 .show 1+(S.length+1+0)<=50000
  omega
 .obtain rfl:=gE.1 hx
  show(3:Int)≠2;decide
def avr{T:Tree}{v S:ag}{z:Int}{V':List A.Vr}(hv:v.length<=1000)(hS:S.length<=1000)(hI:(73:UInt8)∉S)(hz:A.eL z)(h:A.iX S (Va v)=.ok (z,V')):vB T (L.sB S).ws (Va v) [L.fV,Lib.itoa z] V' 0:=
 ⟨Va v,[L.fV],0,acP hv,.inr ⟨rfl,[Lib.itoa z],⟨V',[Lib.itoa z],0,avq hv hS hI hz h,.inr ⟨rfl,[],⟨rfl,rfl,rfl⟩,rfl⟩⟩,rfl⟩⟩
def avs{T:Tree}{v S:ag}{k:Nat}(hv:v.length<=1000)(hS:S.length<=1000)(h:A.iX S (Va v)=.bad k):vB T (L.sB S).ws (Va v) [L.fV] (Va v) k:=
 ⟨Va v,[L.fV],0,acP hv,.inr ⟨rfl,[],⟨Va v,[],k,aqg hv hS h,.inl ⟨(A.LU h).in.1,rfl,rfl,rfl⟩⟩,rfl⟩⟩
def aeF{s:Sh}{v:ag}(h:JV s 0)(hv:v.length<=1000):aHN (L.vD v) s {s with fuel:=s.fuel-1,last:=-1,V:=Va v,st:=0}:=by
 refine EI (.inr (.inr (.inr rfl))) h.way h.fuel ?_;have hA:IX [([97],[⟨0,false,v,[],[],[]⟩])] s.V (Va v):=by
  rw[h.vars];have hj:F.joined false [⟨0,v⟩]=v:=SI false v;have hs:A.i_ [] [97] v=(Va v,0):=rfl;refine⟨[⟨0,v⟩],[],adE hv false,by rw[hj];omega,by simp[A.kZ],by decide,(by show 1<=10000;decide),?_,?_⟩
  .rw[hj]
   show(A.i_ [] [97] v).2=0;rw[hs]
  .rw[hj]
   show Va v=(A.i_ [] [97] v).1;rw[hs]
 have:=SX (s:={s with fuel:=s.fuel-1}) (n:=L.vD v) (f:=[]) (V1:=s.V) (s2:={s with fuel:=s.fuel-1,last:=-1}) (x1:=⟨s.bu,[],false,false⟩) (nm:=[]) ⟨rfl,rfl,rfl⟩ (by decide) (by show 0<=10000;decide) (by show 0<=10000;decide) (by show s.err.length<=_;rw[h.err];decide) ⟨rfl,rfl⟩ (ap5 (s:={s with fuel:=s.fuel-1,last:=-1}) (l:=[([97],[⟨0,false,v,[],[],[]⟩])]) (V':=Va v) hA (by show 1<=10000;decide)) (λh=>by cases h);exact this
structure ahD(s:Sh)(v:ag):Prop where
 way:s.way=0
 fuel:0<s.fuel
 vars:s.V=Va v
 err:s.err=[]
 cO:0<s.cO
 bu:s.bu.length<=50000
 rE:k4 s.T
 out:s.out.length<=900000000
def awI{s:Sh}{v S:ag}{z:Int}{V':List A.Vr}(h:ahD s v)(hv:v.length<=1000)(hS:S.length<=1000)(hI:(73:UInt8)∉S)(hz:A.eL z)(hev:A.iX S (Va v)=.ok (z,V'))(hV:V'.length<900000):∃s',aHN (L.sB S) s s'/\s'.st=0/\s'.out=s.out++(Lib.itoa z++[10])/\s'.err=[]:=by
 have hl:=Lib.itoa_length_le z hz.1 (by have:=hz.2;omega);have hj:Lib.join [Lib.itoa z] [32]=Lib.itoa z:=by simp[Lib.join]
 have hT:aJc s.T [L.fV,Lib.itoa z] s.bu 0 (Lib.join [Lib.itoa z] [32]++[10]) [] s.T:=S4 (fn:=B4) (by decide) (by decide) (by decide) (S3 (args:=[Lib.itoa z]) s.bu (by simp) (by rw[hj];omega)) s.T;rw[hj]at hT;have hfz:dG [L.fV,Lib.itoa z]<=100:=by
  have:dG [L.fV,Lib.itoa z]=L.fV.length+1+((Lib.itoa z).length+1+0):=by simp[dG]
  rw[this];show 4+1+_<=_
  omega
 have hx:A.A3 V':=A.att (V:=Va v) (λx hx=>by obtain rfl:=gE.1 hx;rfl) hev;have hd:=SX (s:={s with fuel:=s.fuel-1}) (n:=L.sB S) (f:=[L.fV,Lib.itoa z]) (V1:=V') (s2:={s with fuel:=s.fuel-1,last:=-1,V:=V'}) (x1:=⟨s.bu,[],false,false⟩) (nm:=[]) (by show vB s.T _ s.V _ _ _;rw[h.vars];exact avr hv hS hI hz hev) (by omega) (by show 2<=10000;decide) (by show 0<=10000;decide) (by show s.err.length<=_;rw[h.err];decide) ⟨rfl,rfl⟩ (acz (s:={s with fuel:=s.fuel-1,last:=-1,V:=V'}) (f0:=L.fV) (fr:=[Lib.itoa z]) (by decide) (by decide) hT h.rE h.cO (by omega) h.bu hV hx (by have:=h.out;show s.out.length+(Lib.itoa z++[10]).length<=_;simp;omega) (by show s.err.length+0<=_;rw[h.err];decide)) (λh=>by cases h);refine⟨_,EI (.inr (.inr (.inr rfl))) h.way h.fuel hd,rfl,rfl,?_⟩;show s.err++[]=[]
 rw[h.err];rfl
def arK{s:Sh}{v S:ag}{k:Nat}(h:ahD s v)(hv:v.length<=1000)(hS:S.length<=1000)(hev:A.iX S (Va v)=.bad k):∃s',aHN (L.sB S) s s'/\s'.st=1/\s'.out=s.out:=by have hd:=arl (s:={s with fuel:=s.fuel-1}) (n:=L.sB S) (f:=[L.fV]) (V1:=Va v) (k:=k) (by show vB s.T _ s.V _ _ _;rw[h.vars];exact avs hv hS hev) (A.LU hev).in.1 (by decide) (by show 2<=10000;decide) (by show s.err.length<=_;rw[h.err];decide);exact⟨_,EI (.inr (.inr (.inr rfl))) h.way h.fuel hd,rfl,rfl⟩
def atw{v S:ag}{z:Int}{V':List A.Vr}(hv:v.length<=1000)(hS:S.length<=1000)(hI:(73:UInt8)∉S)(hz:A.eL z)(hev:A.iX S (Va v)=.ok (z,V'))(hV:V'.length<900000):∃s',aHN (L.aJa [L.vD v,L.sB S]) (vb [] [] 120) s'/\s'.st=0/\s'.out=Lib.itoa z++[10]/\s'.err=[]:=by have r0:JV {vb [] [] 120 with fuel:=119} 0:=⟨rfl,by decide,rfl,rfl,by decide,by decide,λx hx=>(by cases hx),by decide⟩;have c1:=aeF r0 hv;obtain⟨s',c2,e1,e2,e3⟩:=awI (s:={vb [] [] 120 with fuel:=118,last:=-1,V:=Va v,st:=0}) (v:=v) ⟨rfl,(by show 0<118;decide),rfl,rfl,(by show 0<1000;decide),(by show 0<=50000;decide),λx hx=>(by cases hx),(by show 0<=900000000;decide)⟩ hv hS hI hz hev hV;exact⟨s',TE rfl (by decide) c1 c2,e1,e2,e3⟩
def arL{v S:ag}{k:Nat}(hv:v.length<=1000)(hS:S.length<=1000)(hev:A.iX S (Va v)=.bad k):∃s',aHN (L.aJa [L.vD v,L.sB S]) (vb [] [] 120) s'/\s'.st=1/\s'.out=[]:=by have r0:JV {vb [] [] 120 with fuel:=119} 0:=⟨rfl,by decide,rfl,rfl,by decide,by decide,λx hx=>(by cases hx),by decide⟩;have c1:=aeF r0 hv;obtain⟨s',c2,e1,e2⟩:=arK (s:={vb [] [] 120 with fuel:=118,last:=-1,V:=Va v,st:=0}) (v:=v) ⟨rfl,(by show 0<118;decide),rfl,rfl,(by show 0<1000;decide),(by show 0<=50000;decide),λx hx=>(by cases hx),(by show 0<=900000000;decide)⟩ hv hS hev;exact⟨s',TE rfl (by decide) c1 c2,e1,e2⟩
end Go.Proofs.YtihaaoehhgmphaaGreatDoor
namespace Go.Proofs.YtihaaoehhgmphaaGreatDoor
open IntKind Go.RowKit Vc
variable{w:World}
def Mod.ayO{w w':World}{a:Addr}{v:Value}(hm:Still w w')(h:w.cell? a=some v):w'.cell? a=some v:=
 (World.cell?_of_block (hm.block _ (World.block_lt_of_cell? _ _ h) (λh=>h))).trans h
def E7(w:World)(l:Option Addr)(n:Nat):Prop:=∀i,i<n->∃(a:Addr) (v:Nat),l=some a/\v<256/\w.cell? (a.add (i*1))=some (.int .u8 (v:Int))
def E7.still{w w':World}{l:Option Addr}{n:Nat}(h:E7 w l n)(hm:Still w w'):E7 w' l n:=λi hi=>by obtain⟨a,v,h1,h2,h3⟩:=h i hi;exact⟨a,v,h1,h2,Mod.ayO hm h3⟩
def atx{l:Option Addr}{lL lC g:Nat}{sg:List (List UInt8)}(hl:E7 w l lL)(hr:Row w g cm ⟨strs sg⟩)(h0:0<sg.length)(h1:sg.length<1000)(h8:∀x∈sg,x.length<=4){B:UInt8->Bool}(hB:∀x∈sg,∀c∈x,B c=true):
  aq Rm #[.slice l lL lC,.slice (some ⟨g,0,none⟩) sg.length sg.length] w (λe w'=>∃r:List UInt8,e=.returned (.string (S r))/\r.length<=56/\(∀c∈r,B c=true)/\w'=w):=by
 apply amw;refine⟨λs i w1=>∃n:Nat,i=(n:Int)/\n<=14/\s.length<=n*4/\(∀c∈s,B c=true)/\w1=w,λ_ i _=>14-i.toNat,⟨0,rfl,by omega,by simp,by simp,rfl⟩,?_⟩;rintro s _ _ w1 ⟨n,rfl,hn,hs,hb,rfl⟩;have e1:i64.wrap ((n:Int)+1)=((n+1:Nat):Int):=wI;refine aA (λhx=>aA (λhy=>?_) (λ_=>⟨s,rfl,by omega,hb,rfl⟩)) (λ_=>⟨s,rfl,by omega,hb,rfl⟩);have hx:n<lL:=by have:=aR hx;omega
 have hy:n<14:=by have:=aR hy;omega
 obtain⟨a,v,rfl,hv,hc⟩:=hl n hx;have ev:i64.wrap (v:Int)=(v:Int):=wrap_i64 (by omega) (by omega);have et:Int.tmod (v:Int) (sg.length:Int)=((v%sg.length:Nat):Int):=by rw[PC (by omega)];exact(Int.natCast_emod _ _).symm
 have hlt:v%sg.length<sg.length:=DY _ h0;have hg:sg[v%sg.length]?=some sg[v%sg.length]:=gW hlt;have hl8:=h8 _ (kI hlt);refine⟨by omega,by omega,(v:Int),by rw[b6];exact hc,by omega,?_⟩;rw[ev,et,e1,b6];refine⟨by omega,by omega,sg[v%sg.length],?_,by omega,⟨n+1,rfl,hy,by simp;omega,λc hc=>(kW.1 hc).elim (hb c) (hB _ (kI hlt) c),rfl⟩,by dsimp only;omega⟩;rw[aHa,cQ,aHp];refine hr.dy ?_;simp[strs,hg]
end Go.Proofs.YtihaaoehhgmphaaGreatDoor
namespace Go.Proofs.YtihaaoehhgmphaaGreatDoor
open IntKind Go.RowKit Vc
set_option maxRecDepth 100000
variable{w w0:World}
def aty(a n:Nat):aJD (λ_=>0) a n=List.replicate n 0:=List.eq_replicate_iff.2 ⟨by simp,λb hb=>by simp only[aJD,dY]at hb;obtain⟨_,_,rfl⟩:=hb;rfl⟩
def arM:aq aKx #[.string (S [])] w (λe w'=>e=.returned (.tuple #[.slice none 0 0,.int .i64 0])/\w'=w):=by apply amG;refine⟨λs p n c w1=>s=[]/\p=none/\n=0/\c=0/\w1=w,λ_ _ _ _ _=>0,⟨rfl,rfl,rfl,rfl,rfl⟩,?_⟩;rintro _ _ _ _ _ w1 ⟨rfl,rfl,rfl,rfl,rfl⟩;exact aA (λh=>by simp at h) (λ_=>⟨rfl,rfl⟩)
def arN:aq Rt #[.string (S (List.replicate 64 0))] w (λe w'=>e=.returned (.tuple #[.int .i64 0,.bool false])/\w'=w):=by apply amJ;refine(Tryz.strings_TrimRight_one (S (List.replicate 64 0)) 0 (by decide) w (by show List.length _<=_;decide)).mono ?_;rintro _ w1 ⟨rfl,rfl⟩;refine .inl ⟨[],rfl,(Tryz.strings_CutPrefix (S []) (S [49]) w1).mono ?_⟩;rintro _ w2 ⟨rfl,rfl⟩;refine .inl ⟨[],false,rfl,arM.mono ?_⟩;rintro _ w3 ⟨rfl,rfl⟩;exact .inl ⟨_,_,_,_,rfl,aA (λ_=>⟨rfl,rfl⟩) (λh=>by cases h)⟩
def arO{g b a n:Nat}{v:Value}(h0:0<n)(d:D.zy w g b (D.St.new n))(hr:Row w a 253 ⟨[.pointer (some ⟨g,0,none⟩),v,.int .i64 0]⟩):
  aq P3 #[.pointer (some ⟨a,0,none⟩)] w (λe w'=>e=.returned (.tuple #[.string (S []),.bool false])/\Still w w'):=by
 apply akh;have sD:Still w w.drew:=(Still.refl w).cy;refine⟨λwq=>Still w wq,sD,_,λwq hq=>(hr.still hq).aj rfl,_,λwq hq=>(hr.still hq).aj rfl,?_⟩;refine(D.anw (d.mod sD (λh=>h) (λh=>h)) 0).mono ?_;rintro _ w1 ⟨rfl,rfl⟩;rw[aL ⟨Int.le_refl _,by show(0:Int)<(n:Int);omega⟩,show aJD (D.St.new n).F (Int.toNat 0*64) 64=List.replicate 64 0 from aty _ _];refine .inl ⟨_,_,rfl,arN.mono ?_⟩;rintro _ w2 ⟨rfl,rfl⟩;have O7:Still w w.drew.drew:=sD.cy;exact .inl ⟨_,_,rfl,λwq=>Still w wq,O7,aA (λ_=>⟨O7,O7,rfl,O7⟩) (λh=>by cases h)⟩
def aqh{g b n:Nat}(h0:0<n)(d:D.zy w g b (D.St.new n)):aq Rq #[.pointer (some ⟨g,0,none⟩)] w (λe w'=>∃a,e=.returned (.pointer (some ⟨a,0,none⟩))/\w'.cell? ⟨a,1,none⟩=some (.slice none 0 0)/\Still w w'):=by apply amE;refine aQ λw1 r1 s1 z1=>⟨λw2=>w2=w1,λ_=>0,rfl,?_⟩;rintro _ w2 rfl;refine(arO h0 (d.mod s1 (λh=>h) (λh=>h)) r1).mono ?_;rintro _ w3 ⟨rfl,s3⟩;exact .inl ⟨_,_,rfl,aA (λ_=>⟨_,rfl,(r1.still s3).aj rfl,s1.trans s3⟩) (λh=>by cases h)⟩
def aqi{g b n:Nat}(h0:0<n)(d:D.zy w g b (D.St.new n)):aq RP #[.pointer (some ⟨g,0,none⟩)] w (λe w'=>(∃q,e=.returned (.pointer q))/\Still w w'):=by
 apply ank;refine(aqh h0 d).mono ?_;rintro _ w1 ⟨a,rfl,hc,s1⟩;refine .inl ⟨_,rfl,aQ λw2 r2 s2 z2=>⟨_,r2.aj rfl,?_⟩⟩;refine(show aq PK #[.pointer (some ⟨a,0,none⟩)] w2 (λe w'=>e=.returned (.slice none 0 0)/\w'=w2)from ?_).mono ?_
 .refine ajV _ _ _ ⟨_,_,_,s2.cell hc,?_⟩
  refine(ajN _ _ _ w2 (λe w'=>e=.returned (.slice none 0 0)/\w'=w2) (aA (λ_=>⟨rfl,rfl⟩) (λh=>by cases h))).mono ?_;rintro _ _ ⟨rfl,rfl⟩;exact .inl ⟨_,_,_,rfl,rfl,rfl⟩
 rintro _ w3 ⟨rfl,rfl⟩;refine .inl ⟨_,_,_,rfl,λx w4=>x=0/\w4=w3,λ_ _=>0,⟨rfl,rfl⟩,?_⟩;rintro _ _ w4 ⟨rfl,rfl⟩;exact aA (λh=>by simp at h) (λ_=>⟨⟨_,rfl⟩,s1.trans s2⟩)
def aKZ{n:Int}(h1:1<=n)(h2:n<=4096):aq RN #[.int .i64 n] w (λe w'=>(∃a,e=.returned (.tuple #[.pointer (some a),.int .i64 0]))/\Still w w'):=by apply anf;refine(D.anP h1 h2).mono ?_;rintro _ w1 ⟨g,b,rfl,s1,lg,lb,d⟩;refine .inl ⟨_,_,rfl,aA (λh=>by simp at h) (λ_=>?_)⟩;refine SU.mono ?_;rintro _ w2 ⟨rfl,_,s2,_⟩;refine .inl ⟨_,rfl,(aqi (n:=n.toNat) (by omega) (d.mod s2 (λh=>h) (λh=>h))).mono ?_⟩;rintro _ w3 ⟨⟨q,rfl⟩,s3⟩;refine .inl ⟨_,rfl,aQ λw4 r4 s4 z4=>⟨⟨_,rfl⟩,(((show Still w w1 from s1).trans s2).trans s3).trans s4⟩⟩
end Go.Proofs.YtihaaoehhgmphaaGreatDoor
namespace Go.Proofs.YtihaaoehhgmphaaGreatDoor.L
open IntKind Go.RowKit Vc
variable{w:World}
def aeG{l:List Pt}{k:Nat}(h:k<l.length):SizeOf.sizeOf l[k].w<SizeOf.sizeOf l:=auB (kI h)
def aeH{l:List Pt}{k:Nat}(h:k<l.length):cG l[k].w<=cG l:=by have h1:=aei (kI h);have h2:=l[k].vm;omega
def Bd(w:World)(g B:Nat)(bs:ag):Prop:=∃cs v,cs.length=2/\eE w 86 g 0 B cs v bs
def Bd.still{w':World}{g B:Nat}{bs:ag}(h:Bd w g B bs)(hm:Still w w'):Bd w' g B bs:=by obtain⟨cs,v,h1,h2⟩:=h;exact⟨cs,v,h1,h2.still hm⟩
def Bd.write{g B:Nat}{bs:ag}(h:Bd w g B bs)(s:ag)(hB:B<=w.heap.size)(hs:bs.length+s.length<=140737488355328){w0:World}(h0:Still w0 w)(hg:w0.heap.size<=g)(Ff:w0.heap.size<=B):
  aq iT #[.pointer (some ⟨g,0,none⟩),.string (S s)] w (λe w'=>e=.returned (.tuple #[.int .i64 (s.length:Int),.nilIface])/\Bd w' g B (bs++s)/\Still w0 w'/\w.heap.size<=w'.heap.size):=by
 obtain⟨cs,v,h1,h2⟩:=h;have hl:nT 86 cs.length 0:=by rw[h1];exact GV
 refine(B1 h2 hl s hB hs).mono ?_;rintro _ w' ⟨rfl,v',h3,h4⟩;refine⟨rfl,⟨_,v',by simp[h1],h3⟩,Mod.trans h0 h4 (λ_ h=>h) (λk hk e=>?_),h4.size⟩;rcases e with e|e
 .omega
 .have:=(h2.own.lt k e).1;omega
def Bd.told{g B:Nat}{bs:ag}(h:Bd w g B bs)(hs:bs.length<=140737488355328){w0:World}(h0:Still w0 w)(Ff:w0.heap.size<=B):aq rI #[.pointer (some ⟨g,0,none⟩)] w (λe w'=>e=.returned (.string (S bs))/\Still w0 w'):=by obtain⟨cs,v,h1,h2⟩:=h;refine(Ab h2 hs).mono ?_;rintro _ w' ⟨rfl,h4⟩;exact⟨rfl,Mod.trans h0 h4 (λ_ h=>h) λk hk e=>by have:=(h2.own.lt k e).1;omega⟩
def core(x:Pt):ag:=if x.k=2 then[36,40]++x.t++[41]else if x.k=3 then[36,40,40]++x.t++[41,41]else if x.k=1 then(if x.o=agP then[36,123,35]++x.n++[125]else[36,123]++x.n++x.o++gQ x.w++[125])else[]
def Ms(x:Pt):x.pr=if x.k=0 then(if x.q=true then single x.t else x.t)else Ez x.q (core x):=by cases x;rfl
def aqj(t:ag):single t=39::iY 39 [39,92,39,39] t++[39]:=rfl
def avt{l:List Pt}{k:Nat}(h:k<l.length):gQ (l.take (k+1))=gQ (l.take k)++l[k].pr:=by rw[take_one h,aaY];simp[gQ]
def avu(x:Pt):(core x).length+2<=x.wt:=by
 have h1:=x.vm;have h2:=Ei x.w;unfold core;split
 .simp;omega
 .split
  .simp;omega
  .split
   .split
    .simp;omega
    .simp;omega
   .simp only[aHf];omega
def adM{x:Pt}{F:Nat->Prop}{vw:Value}(hw:cD w F x.w vw)(hl:x.wt<1000000)(ih:∀w1,Still w w1->aq uh #[vw] w1 (λe w'=>e=.returned (.string (S (gQ x.w)))/\Still w1 w')):
  aq Lc #[EV x vw] w (λe w'=>e=.returned (.string (S (core x)))/\Still w w'):=by
 obtain⟨wp,wc,rfl⟩:=hw.form;have h1:=x.vm;have h2:=Ei x.w;apply ani;refine aQ λw1 r1 s1 z1=>?_;obtain⟨f0,f1,f2,f3,f4,f5⟩:=GI (x:=x) r1;unfold core;refine⟨_,f0,aA (λh=>?_) (λh=>aA (λh3=>?_) (λh3=>aA (λh4=>⟨_,f4,aA (λh5=>?_) (λh5=>?_)⟩) (λh4=>?_)))⟩
 .rw[aL (aR h)]
  exact⟨_,f2,by simp only[bf,aHf];omega,by simp only[cB,bf,aHf];omega,rfl,s1⟩
 .rw[aG (aX h),aL (aR h3)]
  exact⟨_,f2,by simp only[bf,aHf];omega,by simp only[cB,bf,aHf];omega,rfl,s1⟩
 .rw[aG (aX h),aG (aX h3),aL (aR h4),aL (aR h5)]
  exact⟨_,f3,by simp only[bf,aHf];omega,by simp only[cB,bf,aHf];omega,rfl,s1⟩
 .rw[aG (aX h),aG (aX h3),aL (aR h4),aG (aX h5)]
  have rd:∀wq:World,Still w1 wq->Row wq w.heap.size 51 ⟨gX x (.slice wp x.w.length wc)⟩:=λwq hq=>r1.still hq;refine⟨λwq=>Still w1 wq,iH w1,x.n,λwq hq=>(rd wq hq).aj rfl,by simp only[bf,aHf];omega,x.o,λwq hq=>(rd wq hq).aj rfl,by simp only[cB,bf,aHf];omega,wp,x.w.length,wc,λwq hq=>(rd wq hq).aj rfl,?_⟩;refine(ih w1.drew s1.cy).mono ?_;rintro _ w2 ⟨rfl,s2⟩;exact .inl ⟨_,rfl,(iH w1).trans s2,by simp only[cB,bf,aHf];omega,by simp only[cB,bf,aHf];omega,rfl,s1.cy.trans s2⟩
 .rw[aG (aX h),aG (aX h3),aG (aX h4)]
  exact⟨rfl,s1⟩
def avv:∀(n:Nat) (l:List Pt),SizeOf.sizeOf l<n->cG l<1000000->∀(w:World) (F:Nat->Prop) (v:Value),cD w F l v->aq uh #[v] w (λe w'=>e=.returned (.string (S (gQ l)))/\Still w w'):=by
 intro n
 induction n with
 |zero=>intro l h;omega
 |succ n ih=>
  intro l hn hl w F v hv;obtain⟨p,c,rfl⟩:=hv.form;have aJL:=aKr l;have hpl:=Ei l;apply anc;refine aQ λw1 r1 s1 z1=>?_;have hb0:Bd w1 w.heap.size (w.heap.size+1) []:=⟨_,_,rfl,eE.fresh r1 rfl rfl⟩;refine⟨λx w2=>∃k:Nat,x=(k:Int)/\k<=l.length/\Bd w2 w.heap.size (w.heap.size+1) (gQ (l.take k))/\Still w w2/\w1.heap.size<=w2.heap.size,λx _=>l.length-x.toNat,⟨0,rfl,dK _,hb0,s1,aV _⟩,?_⟩;rintro _ _ w2 ⟨k,rfl,hk,hb,hs2,jz⟩;refine aA (λhx=>?_) (λhx=>?_);rotate_left
  .have hx:k=l.length:=by have:=aX hx;omega
   rw[hx,oD]at hb;refine(hb.told (by omega) hs2 (by omega)).mono ?_;rintro _ w3 ⟨rfl,s3⟩;exact .inl ⟨_,rfl,rfl,s3⟩
  have hx:k<l.length:=by have:=aR hx;omega
  obtain⟨b,wp,wc,rfl,c0,c1,c2,c3,c4,c5,hsw⟩:=(hv.still hs2).fields hx;have hwk:=aeA hx;have hpk:=Ei (l.take k);have O2:=l[k].vm;have hcl:=avu l[k];rw[b6];refine⟨λbw=>Bd bw w.heap.size (w.heap.size+1) (gQ (l.take (k+1)))/\Still w bw/\w1.heap.size<=bw.heap.size,⟨by omega,by omega,_,_,_,_,_,_,_,_,c0,c1,c2,c3,c4,c5,xu rfl ahl λw4 r4 s4 z4=>?_⟩,?_⟩;rotate_left
  .rintro _ bw ⟨h1,h2,h3⟩
   rw[show i64.wrap ((k:Int)+1)=((k+1:Nat):Int) by rw[wrap_i64 (by omega) (by omega)];omega];exact⟨⟨k+1,rfl,hx,h1,h2,h3⟩,by dsimp only;omega⟩
  have hb4:=hb.still s4;have hs4:=hs2.trans s4;have BC:w1.heap.size<=w4.heap.size:=by omega
  refine⟨λb w5=>b=(decide (l[k].k=0)&&l[k].q)/\w5=w4,⟨_,r4.aj rfl,aA (λh=>⟨_,r4.aj rfl,?_,rfl⟩) (λh=>⟨?_,rfl⟩)⟩,?_⟩
  .rw[h,B2]
  .rw[h,Rc]
  rintro b' _ w5 ⟨hb',rfl⟩
  -- what is told is put behind
  have put:∀(s:ag) (w6:World),Still w5 w6->l[k].pr=s->aq iT #[.pointer (some (Addr.mk w.heap.size 0 none)),.string (S s)] w6 (λed w7=>(∃r1:Int,∃r2:Value,r2.oneCell'=true/\ed=.returned (.tuple #[.int .i64 r1,r2])/\Bd w7 w.heap.size (w.heap.size+1) (gQ (l.take (k+1)))/\Still w w7/\w1.heap.size<=w7.heap.size)\/(∃ch,ed=.panicked ch/\(Ending.panicked ch=.returned (.string (S (gQ l)))/\Still w w7))):=by intro s w6 s6 hs;have hps:=l[k].afd;refine((hb4.still s6).write s (by have:=s6.size;omega) (by rw[<-hs];omega) (hs4.trans s6) (aV _) (by omega)).mono ?_;rintro _ w7 ⟨rfl,h7,s7,z7⟩;refine .inl ⟨_,_,rfl,rfl,by rw[avt hx,hs];exact h7,s7,by have:=s6.size;omega⟩
  refine aA (λh=>?_) (λh=>⟨_,r4.aj rfl,aA (λh3=>?_) (λh3=>⟨_,r4.aj rfl,aA (λh5=>?_) (λh5=>?_)⟩)⟩)
  .rw[h]at hb'
   have hk0:l[k].k=0/\l[k].q=true:=by simpa using hb'.symm
   refine⟨_,r4.aj rfl,(Zu 39 [39,92,39,39] l[k].t (by omega) (by decide) (by decide) (by decide)).mono ?_⟩;rintro _ w6 ⟨rfl,s6⟩;have fM:=aa0 l[k].t;rw[aqj]at fM;simp only[cB,bf,aHf]at fM;exact .inl ⟨_,rfl,by simp only[bf,aHf];omega,by simp only[cB,bf,aHf];omega,put _ w6 s6 (by rw[Ms,aL hk0.1,aL hk0.2];rfl)⟩
  .have hk0:l[k].k=0:=aR h3
   have hq0:l[k].q=false:=by rw[h,hk0]at hb';simpa using hb'.symm
   exact⟨_,r4.aj rfl,put _ _ (Still.refl _) (by rw[Ms,aL hk0,aG (by rw[hq0];decide)])⟩
  .have hk0:¬l[k].k=0:=aX h3
   refine⟨_,_,_,_,_,_,_,_,r4.aj rfl,r4.aj rfl,r4.aj rfl,r4.aj rfl,r4.aj rfl,r4.aj rfl,(adM (x:=l[k]) (hsw.still s4) (by omega) λwq hq=>ih _ (by have:=aeG hx;omega) (by have:=aeH hx;omega) wq F _ ((hsw.still s4).still hq)).mono ?_⟩;rintro _ w6 ⟨rfl,s6⟩;exact .inl ⟨_,rfl,by simp only[bf,aHf];omega,by simp only[cB,bf,aHf];omega,put _ w6 s6 (by rw[Ms,aG hk0,Ez,aL h5];rfl)⟩
  .have hk0:¬l[k].k=0:=aX h3
   refine⟨_,_,_,_,_,_,_,_,r4.aj rfl,r4.aj rfl,r4.aj rfl,r4.aj rfl,r4.aj rfl,r4.aj rfl,(adM (x:=l[k]) (hsw.still s4) (by omega) λwq hq=>ih _ (by have:=aeG hx;omega) (by have:=aeH hx;omega) wq F _ ((hsw.still s4).still hq)).mono ?_⟩;rintro _ w6 ⟨rfl,s6⟩;exact .inl ⟨_,rfl,put _ w6 s6 (by rw[Ms,aG hk0,Ez,aG (by rw[h5];decide)])⟩
def abF{F:Nat->Prop}{l:List Pt}{v:Value}(hv:cD w F l v)(hl:cG l<1000000):aq uh #[v] w (λe w'=>e=.returned (.string (S (gQ l)))/\Still w w'):=avv _ l (aHP _) hl w F v hv
end Go.Proofs.YtihaaoehhgmphaaGreatDoor.L
namespace Go.Proofs.YtihaaoehhgmphaaGreatDoor.L.U
open IntKind Go.RowKit Vc
variable{w:World}
def Ss(w:World)(B:Nat)(l:List ag)(v:Value):Prop:=∃p c,v=.slice p l.length c/\aS w B 9 1 v l.length (strs l)
def Ss.still{w':World}{B:Nat}{l:List ag}{v:Value}(h:Ss w B l v)(hm:Still w w'):Ss w' B l v:=by obtain⟨p,c,rfl,ho⟩:=h;exact⟨p,c,rfl,ho.still hm⟩
def Ss.form{B:Nat}{l:List ag}{v:Value}(h:Ss w B l v):∃p c,v=.slice p l.length c:=by obtain⟨p,c,he,_⟩:=h;exact⟨p,c,he⟩
def abG(sep:ag)(l:List ag):Lib.join l sep=Iq sep l:=by
 cases l with
 |nil=>rfl
 |cons x r=>rw[Lib.join_cons];simp only[Lib.joinTail,Iq,List.flatMap_def]
def arQ{B:Nat}{l:List ag}{p:Option Addr}{c:Nat}(h:Ss w B l (.slice p l.length c))(sep:ag)(hl:l.length<=1000000000)(hj:(Iq sep l).length<=140737488355328):
  aq DT #[.slice p l.length c,.string (S sep)] w (λe w'=>e=.returned (.string (S (Iq sep l)))/\Still w w'):=by
 by_cases h0:l=[]
 .subst h0
  refine(Tryz.strings_Join_none p c (S sep) w).mono ?_;rintro _ w' ⟨rfl,rfl⟩;exact⟨rfl,Still.refl _⟩
 .obtain⟨p',c',he,ho⟩:=h
  injection he with e1 e2 e3;subst e1 e3;obtain⟨g,cap,he,_,hg,hcap,hcell⟩:=ho.Ax (mK.2 h0);injection he with e1 e2 e3;subst e1 e3;have hm:(l.map S).map (·.data.toList)=l:=by rw[DU];exact List.map_id' l
  have hJ:=Tryz.strings_Join g 0 c (l.map S) (S sep) w (λj x hx=>by
   rw[aJl]at hx;cases hj:l[j]? with
   |none=>rw[hj]at hx;cases hx
   |some y=>rw[hj]at hx;obtain rfl:=bU hx;rw[cQ];exact hcell j _ (by simp[strs,hj])) hg (by rw[lG];omega) (by rw[lG];exact hcap) (by rw[hm];show(Lib.join l sep).length<=_;rw[abG];exact hj)
  rw[lG,hm]at hJ;refine hJ.mono ?_;rintro e w' ⟨rfl,hb⟩;refine⟨?_,(Still.refl w).trans' hb (aV _)⟩;show Ending.returned (.string ⟨⟨Lib.join l sep⟩⟩)=_
  rw[abG]
def adN(z:Value):∀n,tA [z] n=List.replicate n z
 |0=>rfl
 |n+1=>by
  rw[Yu];show[z]++tA [z] n=_
  rw[adN z n];rfl
def eF(l:List ag)(n k:Nat):List ag:=l.take k++List.replicate (n-k) []
def avw(l:List ag)(n:Nat):eF l n 0=List.replicate n []:=by simp[eF]
def awJ(l:List ag):eF l l.length l.length=l:=by simp[eF]
def awK{l:List ag}{k:Nat}(h:k<l.length):(strs (eF l l.length k)).set k (.string (S l[k]))=strs (eF l l.length (k+1)):=by unfold strs eF;rw[wD,wD,Kg _ _ (by rw[lG,aHl];omega),lG,aHl,BZ (by omega),Nat.sub_self,show l.length-k=(l.length-(k+1))+1 by omega,Yu,gI,YA,take_one h,wD,aIi];rfl
def awL(l:List ag){k:Nat}(h:k<=l.length):(strs (eF l l.length k)).length=l.length:=by simp[strs,eF];omega
def Ss.made{g:Nat}{l:List ag}{B:Nat}(hr:Row w g 9 ⟨strs l⟩)(hB:B<=g)(hl:l.length<=1000000000):Ss w B l (.slice (some ⟨g,0,none⟩) l.length l.length):=by
 have hs:(strs l).length=l.length:=by simp[strs]
 exact⟨_,_,rfl,by rw[hs,aHp],.inr ⟨g,l.length,⟨strs l⟩,rfl,hB,hr,aV _,kJ hl (by decide),by show(strs l).length=_;rw[hs,aHp],by rw[aHp,<-hs];exact oD⟩⟩
def yY(w:World)(l:List ag)(x:Int)(w2:World):Prop:=∃k:Nat,x=(k:Int)/\k<=l.length/\Row w2 w.heap.size 9 ⟨strs (eF l l.length k)⟩/\Still w w2
def LJ{l:List ag}{n:Nat}(hn:l.length=n){K:World->Prop}(h:∀w1,yY w l 0 w1->K w1):c7 (w.alloc (.cells (madeCells #[.string (S [])] (Int.toNat (n:Int)*1)) 9)) K:=by
 have e:madeCells #[.string (S [])] (Int.toNat (n:Int)*1)=⟨strs (eF l l.length 0)⟩:=by rw[b6,avw,hn];have:=Zv [.string (S [])] n;rw[show[Value.string (S [])].length=1 from rfl]at this;rw[this,adN];simp[strs]
 rw[e];exact aQ λw1 r1 s1 _=>h w1 ⟨0,rfl,dK _,r1,s1⟩
def adO{l:List ag}{k:Nat}(hk:k<l.length){w2 w3:World}(hr:Row w2 w.heap.size 9 ⟨strs (eF l l.length k)⟩)(hs:Still w w2)(s3:Still w2 w3){K:World->Prop}(h:∀w',yY w l ((k+1:Nat):Int) w'->K w'):
  cJ ((Addr.mk w.heap.size 0 none).add (Int.toNat (k:Int)*1)) K 0 [.string (S l[k])] w3:=by
 rw[aHa,b6,aHp,cQ];refine dO (hr.still s3) (by rw[awL _ (by omega)];simp only[bf,aHf];omega) (by simp[Value.oneCell']) λw' r' m' z'=>h w' ⟨k+1,rfl,hk,?_,Mod.trans (hs.trans s3) m' (λ_ h=>h) (λi hi e=>by omega)⟩;have e:fh (strs (eF l l.length k)) k [.string (S l[k])]=(strs (eF l l.length k)).set k (.string (S l[k])):=rfl;rw[e,awK hk]at r';exact r'
def L7{w':World}{l:List ag}{x:Int}{n:Nat}(hn:l.length=n)(hl:l.length<=1000000000)(hx:¬(x<(n:Int)))(h:yY w l x w'):∃p c,Value.slice (some (Addr.mk w.heap.size 0 none)) (Int.toNat (n:Int)) (Int.toNat (n:Int))=.slice p l.length c/\Ss w' w.heap.size l (.slice p l.length c)/\Still w w':=by
 obtain⟨k,rfl,hk,hr,hs⟩:=h;have:k=l.length:=by omega
 subst this;rw[awJ]at hr;rw[b6,<-hn];exact⟨_,_,rfl,Ss.made hr (aV _) hl,hs⟩
def S5{fn:FuncId}{K:FuncId->List Value->List Value->Prop}(h:K fn [] []):gu (.func (.func fn) #[] #[]) K:=h
def Told(w:World)(l:List ag)(e:Ending)(w':World):Prop:=∃p c,e=.returned (.slice p l.length c)/\Ss w' w.heap.size l (.slice p l.length c)/\Still w w'
set_option maxRecDepth 10000 in
def avx{F:Nat->Prop}{l:List Nd}{p:Option Addr}{n c:Nat}{fn:FuncId}(hv:vR.At w F l (.slice p n c))(hl:l.length<=1000000000)(hc:dD aM fn=true)(tx:Nd->ag)
  (ih:∀x∈l,∀(w1:World) (cs:List Value),Still w w1->ey w1 F x cs->aq fn #[.agg ⟨cs⟩] w1 (λe w'=>e=.returned (.string (S (tx x)))/\Still w1 w')):
  aq 137 #[.slice p n c,.func (.func fn) #[] #[]] w (Told w (l.map tx)):=by
 obtain⟨rfl,_⟩:=hv.len;have hm:(l.map tx).length=l.length:=lG ..;apply aj7;refine⟨by omega,by omega,by omega,by omega,LJ hm λw1 h1=>⟨yY w (l.map tx),λx _=>l.length-x.toNat,h1,?_⟩⟩;rintro x _ w2 h2;refine aA (λhx=>?_) (λhx=>?_);rotate_left
 .obtain⟨p',c',he,hS,hs⟩:=L7 hm (by omega) (aX hx) h2
  exact⟨p',c',gJ Ending.returned he,hS,hs⟩
 obtain⟨k,rfl,hk,hr,hs⟩:=h2;have hk:k<l.length:=by have:=aR hx;omega
 obtain⟨b,cs,rfl,_,hE,hcell⟩:=(hv.still hs).get (gW hk);have hE:ey w2 F l[k] cs:=hE;obtain⟨pw,cw,pa,ca,pr,cr,po,co,pk,ck,rfl,_⟩:=hE.outs;have hcell:aH7 w2 (b.add (k*8)) _:=hcell;have e1:i64.wrap ((k:Int)+1)=((k+1:Nat):Int):=wI;rw[e1];have et:Int.toNat (k:Int)=k:=b6 k;have hput:=λw5 (s5:Still w2 w5)=>adO (w:=w) (l:=l.map tx) (k:=k) (by omega) hr hs s5 (K:=λw'=>yY w (l.map tx) ((k+1:Nat):Int) w'/\l.length-((k+1:Nat):Int).toNat<l.length-((k:Int)).toNat) λw' h'=>⟨h',by rw[b6,b6];omega⟩;rw[et]at hput⊢;refine⟨by omega,by omega,_,_,_,_,_,_,_,_,_,_,_,_,_,_,_,_,_,_,hcell.zero,hcell 1 _ rfl,hcell 2 _ rfl,hcell 3 _ rfl,hcell 4 _ rfl,hcell 5 _ rfl,hcell 6 _ rfl,hcell 7 _ rfl,xu rfl (by simp[Value.oneCell']) λw4 r4 s4 z4=>?_⟩;refine⟨_,_,_,_,_,_,_,_,_,_,_,_,_,_,_,_,_,_,r4.aj rfl,r4.aj rfl,r4.aj rfl,r4.aj rfl,r4.aj rfl,r4.aj rfl,r4.aj rfl,r4.aj rfl,S5 (aA (λ_=>?_) (λh=>by rw[hc]at h;cases h))⟩;refine(ih l[k] (kI hk) w4 _ (hs.trans s4) (hE.still s4)).mono ?_;rintro _ w5 ⟨rfl,s5⟩;have ek:(l.map tx)[k]'(by omega)=tx l[k]:=YS ..;have hput:=hput w5 (s4.trans s5);rw[ek]at hput;exact .inl ⟨_,rfl,by omega,by omega,hput⟩
set_option maxRecDepth 10000 in
def avy{F:Nat->Prop}{l:List (List Pt)}{p:Option Addr}{n c:Nat}{fn:FuncId}(hv:aJx.At w F l (.slice p n c))(hl:l.length<=1000000000)(hc:dD aM fn=true)(tx:List Pt->ag)
  (ih:∀x∈l,∀(w1:World) (v:Value),Still w w1->cD w1 F x v->aq fn #[v] w1 (λe w'=>e=.returned (.string (S (tx x)))/\Still w1 w')):
  aq 136 #[.slice p n c,.func (.func fn) #[] #[]] w (Told w (l.map tx)):=by
 obtain⟨rfl,_⟩:=hv.len;have hm:(l.map tx).length=l.length:=lG ..;apply aj6;refine⟨by omega,by omega,by omega,by omega,LJ hm λw1 h1=>⟨yY w (l.map tx),λx _=>l.length-x.toNat,h1,?_⟩⟩;rintro x _ w2 h2;refine aA (λhx=>?_) (λhx=>?_);rotate_left
 .obtain⟨p',c',he,hS,hs⟩:=L7 hm (by omega) (aX hx) h2
  exact⟨p',c',gJ Ending.returned he,hS,hs⟩
 obtain⟨k,rfl,hk,hr,hs⟩:=h2;have hk:k<l.length:=by have:=aR hx;omega
 obtain⟨b,cs,rfl,_,⟨v,rfl,hE⟩,hcell⟩:=(hv.still hs).get (gW hk);obtain⟨q,d,rfl⟩:=hE.form;have hcell:aH7 w2 (b.add (k*1)) _:=hcell;have e1:i64.wrap ((k:Int)+1)=((k+1:Nat):Int):=wI;rw[e1];have et:Int.toNat (k:Int)=k:=b6 k;have hput:=λw5 (s5:Still w2 w5)=>adO (w:=w) (l:=l.map tx) (k:=k) (by omega) hr hs s5 (K:=λw'=>yY w (l.map tx) ((k+1:Nat):Int) w'/\l.length-((k+1:Nat):Int).toNat<l.length-((k:Int)).toNat) λw' h'=>⟨h',by rw[b6,b6];omega⟩;rw[et]at hput⊢;refine⟨by omega,by omega,_,_,_,hcell.zero,S5 (aA (λ_=>?_) (λh=>by rw[hc]at h;cases h))⟩;refine(ih l[k] (kI hk) w2 _ hs hE).mono ?_;rintro _ w5 ⟨rfl,s5⟩;have ek:(l.map tx)[k]'(by omega)=tx l[k]:=YS ..;have hput:=hput w5 s5;rw[ek]at hput;exact .inl ⟨_,rfl,by omega,by omega,hput⟩
end Go.Proofs.YtihaaoehhgmphaaGreatDoor.L.U
namespace Go.Proofs.YtihaaoehhgmphaaGreatDoor.L.U
open IntKind Go.RowKit Vc
set_option maxRecDepth 10000
variable{w:World}
def Ss.app{w0:World}{B n m:Nat}{l k:List ag}{p q:Option Addr}{c:Nat}{K:Option Addr->Nat->World->Prop}(h:Ss w B l (.slice p n c))(h0:Still w0 w)(Ff:w0.heap.size<=B)(hB:B<=w.heap.size)(hk:de w q m k)(hs:n+m<=1000000000)
  (hK:∀p' c' w',Ss w' B (l++k) (.slice p' (n+m) c')->Still w0 w'->w.heap.size<=w'.heap.size->K p' c' w'):dL w 9 1 16 p n c q m K:=by
 obtain⟨p',c',he,ho⟩:=h;injection he with e1 e2 e3;subst e1 e2 e3;refine rM ho hB (strs k) (by rw[Lt,hk.1,aHp]) (aus k) (λhm=>hk.2 hm) (by omega) (by omega) λp' c' w' ho' hm _=>?_;have hz:=hm.size;refine hK p' c' w' ⟨p',c',by rw[cB,hk.1],?_⟩ (h0.own ho Ff hm) hz;rw[Ls,cB,hk.1];exact ho'
def Ss.strs{B n:Nat}{l:List ag}{p:Option Addr}{c:Nat}(h:Ss w B l (.slice p n c)):de w p n l:=by obtain⟨p',c',he,ho⟩:=h;injection he with e1 e2 e3;subst e1 e2 e3;exact de.of ho
def atz{f:Value}{p:Option Addr}{c:Nat}:aq J_ #[.slice p 0 c,f] w (Told w []):=by
 apply aj0;refine⟨by decide,by decide,by decide,by decide,LJ (l:=[]) (n:=0) rfl λw1 h1=>⟨yY w [],λ_ _=>0,h1,?_⟩⟩;rintro x _ w2 h2;refine aA (λhx=>?_) (λhx=>?_)
 .obtain⟨k,rfl,hk,_⟩:=h2
  have:=aR hx;omega
 .obtain⟨p',c',he,hS,hs⟩:=L7 (n:=0) rfl (by decide) (aX hx) h2
  exact⟨p',c',gJ Ending.returned he,hS,hs⟩
def atA{f:Value}{p:Option Addr}{c:Nat}:aq PL #[.slice p 0 c,f] w (Told w []):=by
 apply ajW;refine⟨by decide,by decide,by decide,by decide,LJ (l:=[]) (n:=0) rfl λw1 h1=>⟨yY w [],λ_ _=>0,h1,?_⟩⟩;rintro x _ w2 h2;refine aA (λhx=>?_) (λhx=>?_)
 .obtain⟨k,rfl,hk,_⟩:=h2
  have:=aR hx;omega
 .obtain⟨p',c',he,hS,hs⟩:=L7 (n:=0) rfl (by decide) (aX hx) h2
  exact⟨p',c',gJ Ending.returned he,hS,hs⟩
def E4(w:World)(t:ag)(e:Ending)(w':World):Prop:=e=.returned (.string (S t))/\Still w w'
def acQ{B:Nat}{t:ag}{p:Option Addr}{c:Nat}(h:Ss w B [t] (.slice p 1 c))(sep:ag)(ht:t.length<=1000):aq DT #[.slice p 1 c,.string (S sep)] w (E4 w t):=by have e:Iq sep [t]=t:=ug t;have:=arQ h sep (by show 1<=_;decide) (by rw[e];omega);rw[e]at this;exact this
def aqk{F:Nat->Prop}{wd:List Pt}{cs:List Value}(hx:ey w F (.mk 0 false [] [wd] [] [] [] []) cs)(hp:∀{w:World} {F:Nat->Prop} {v:Value},cD w F wd v->aq uh #[v] w (λe w'=>e=.returned (.string (S (gQ wd)))/\Still w w'))(hl:(gQ wd).length<=1000):aq Gd #[.agg ⟨cs⟩] w (E4 w (gQ wd)):=by
 obtain⟨pw,cw,pa,ca,pr,cr,po,co,pk,ck,rfl,hw,ha,hr,_,_⟩:=hx.outs;apply al1;refine aQ λw1 r1 s1 z1=>⟨_,_,_,r1.aj rfl,atz.mono ?_⟩;rintro _ w2 ⟨p1,c1,rfl,hS1,s2⟩;refine .inl ⟨_,_,_,rfl,_,_,_,(r1.still s2).aj rfl,atA.mono ?_⟩;rintro _ w3 ⟨p2,c2,rfl,WY,s3⟩;refine .inl ⟨_,_,_,rfl,(hS1.still s3).app (s2.trans s3) (aV _) (by have:=s2.size;have:=s3.size;omega) WY.strs (by decide) λp3 c3 w4 W1 s4 z4=>?_⟩;refine⟨_,_,_,(r1.still s4).aj rfl,(avy (l:=[wd]) ((hw.still s1).still s4) (show 1<=1000000000 by decide) (show dD aM uh=true by kernel_rfl) gQ λx hx w1 v _ hE=>?_).mono ?_⟩
 .obtain rfl:=gE.1 hx
  exact hp hE
 rintro _ w5 ⟨p5,c5,rfl,hS5,s5⟩;refine .inl ⟨_,_,_,rfl,(W1.still s5).app (s4.trans s5) (aV _) (by have:=s4.size;have:=s5.size;omega) hS5.strs (show 0+0+1<=1000000000 by decide) λp6 c6 w6 hS6 s6 z6=>?_⟩;refine Calls.mono (amB _ _ _ w6 (E4 w6 (gQ wd)) ?_) ?_
 .refine(acQ hS6 [32] hl).mono ?_
  rintro _ w7 ⟨rfl,s7⟩;exact .inl ⟨_,rfl,rfl,s7⟩
 .rintro _ w7 ⟨rfl,s7⟩
  exact .inl ⟨_,rfl,rfl,(s1.trans s6).trans s7⟩
def agn:List Value:=[.func (.func Gd) #[] #[],.func (.func Zi) #[] #[],.func (.func Y8) #[] #[],.func (.func aKl) #[] #[],.func (.func Y9) #[] #[],.func (.func ZA) #[] #[],.func (.func Y2) #[] #[],.func (.func Zj) #[] #[],.func (.func YU) #[] #[],.func (.func Y_) #[] #[],.func (.func Zk) #[] #[],.func (.func YL) #[] #[]]
def acR{F:Nat->Prop}{x:Nd}{cs:List Value}{fn:FuncId}{t:ag}(hx:ey w F x cs)(h0:0<=x.k)(h1:x.k<4)(ht:agn[x.k.toNat]?=some (.func (.func fn) #[] #[]))(hc:dD aM fn=true)(hsp:∀(w:World) (F:Nat->Prop) (cs:List Value),ey w F x cs->aq fn #[.agg ⟨cs⟩] w (E4 w t)):aq DQ #[.agg ⟨cs⟩] w (E4 w t):=by
 have hx':=hx;obtain⟨pw,cw,pa,ca,pr,cr,po,co,pk,ck,rfl,_⟩:=hx.outs;apply amg;refine aQ λw1 r1 s1 z1=>xu rfl (by simp[Value.oneCell']) λw3 r3 s3 z3=>?_;have r3:Row w3 w1.heap.size _ ⟨agn⟩:=r3;refine⟨_,(r1.still s3).aj rfl,aA (λh=>absurd (aR h) (by omega)) (λ_=>⟨_,(r1.still s3).aj rfl,aA (λh=>absurd (aR h) (by omega)) (λ_=>?_)⟩)⟩;have sD:=iH w3;have aHY:=(s1.trans s3).trans sD;refine⟨λwq=>Still w3 wq,sD,x.k,λwq hq=>((r1.still s3).still hq).aj rfl,h0,(show x.k<((12:Nat):Int) by omega),_,rfl,λwq hq=>?_,_,_,_,_,_,_,_,_,_,_,_,_,_,_,_,_,_,_,λwq hq=>((r1.still s3).still hq).aj rfl,λwq hq=>((r1.still s3).still hq).aj rfl,λwq hq=>((r1.still s3).still hq).aj rfl,λwq hq=>((r1.still s3).still hq).aj rfl,λwq hq=>((r1.still s3).still hq).aj rfl,λwq hq=>((r1.still s3).still hq).aj rfl,λwq hq=>((r1.still s3).still hq).aj rfl,λwq hq=>((r1.still s3).still hq).aj rfl,S5 (fn:=fn) (aA (λ_=>?_) (λh=>by rw[hc]at h;cases h))⟩
 .rw[aHa,cQ,aHp]
  exact(r3.still hq).aj ht
 refine(hsp w3.drew F _ (hx'.still aHY)).mono ?_;rintro _ w4 ⟨rfl,s4⟩;have r4:=((r1.still s3).still sD).still s4;exact .inl ⟨_,rfl,_,r4.aj rfl,aA (λh=>absurd (aR h) (by omega)) (λ_=>⟨rfl,aHY.trans s4⟩)⟩
def arR{F:Nat->Prop}{wd:List Pt}{cs:List Value}(hx:ey w F (.mk 3 false [] [] [] [] [] [.mk 0 false [] [wd] [] [] [] []]) cs)(hp:∀{w:World} {F:Nat->Prop} {v:Value},cD w F wd v->aq uh #[v] w (λe w'=>e=.returned (.string (S (gQ wd)))/\Still w w'))(hl:(gQ wd).length<=1000):aq DQ #[.agg ⟨cs⟩] w (E4 w (gQ wd)):=by
 refine acR hx (show(0:Int)<=3 by decide) (show(3:Int)<4 by decide) (fn:=aKl) rfl (by kernel_rfl) λw F cs hx=>?_;obtain⟨pw,cw,pa,ca,pr,cr,po,co,pk,ck,rfl,_,_,_,_,hk⟩:=hx.outs;apply amA;refine aQ λw1 r1 s1 z1=>⟨_,_,_,r1.aj rfl,(avx (l:=[.mk 0 false [] [wd] [] [] [] []]) (hk.still s1) (show 1<=1000000000 by decide) (show dD aM DQ=true by kernel_rfl) (λ_=>gQ wd) λy hy w1 cs _ hE=>?_).mono ?_⟩
 .obtain rfl:=gE.1 hy
  exact acR hE (show(0:Int)<=0 by decide) (show(0:Int)<4 by decide) (fn:=Gd) rfl (by kernel_rfl) λw F cs hx=>aqk hx hp hl
 rintro _ w2 ⟨p,c,rfl,hS,s2⟩;refine .inl ⟨_,_,_,rfl,(acQ hS [59,32] hl).mono ?_⟩;rintro _ w3 ⟨rfl,s3⟩;exact .inl ⟨_,rfl,rfl,(s1.trans s2).trans s3⟩
end Go.Proofs.YtihaaoehhgmphaaGreatDoor.L.U
namespace Go.Proofs.YtihaaoehhgmphaaGreatDoor
open IntKind Go.RowKit Vc
set_option maxRecDepth 100000
variable{w w0:World}
def ayP:L.Nd:=⟨3,false,[],[],[],[],[],[⟨0,false,[],[[⟨0,false,[97],[],[],[]⟩]],[],[],[],[]⟩]⟩
def aeI:L.qT [97]=(ayP,0):=by kernel_rfl
def apo{g:Nat}{t:ag}(hr:Row w g 51 ⟨[.int .i64 0,.bool true,.string (S t),.string (S []),.string (S []),.slice none 0 0]⟩):L.cD w (λ_=>True) [⟨0,true,t,[],[],[]⟩] (.slice (some ⟨g,0,none⟩) 1 1):=
 ⟨_,_,rfl,aV _,λ_=>⟨_,rfl,trivial,L.oL.of (v:=.slice none 0 0) (λj u hu=>by rw[aHa,cQ];exact hr.aj hu) (L.cD.nil _ _ _ _),trivial⟩⟩
def apq{g:Nat}(hr:Row w g 51 ⟨[.int .i64 0,.bool true,.string (S [97]),.string (S []),.string (S []),.slice none 0 0]⟩):aq uh #[.slice (some ⟨g,0,none⟩) 1 1] w (λe w'=>e=.returned (.string (S [39,97,39]))/\Still w w'):=by
 have h:=L.abF (apo hr) (by decide);have e:L.gQ [⟨0,true,[97],[],[],[]⟩]=[39,97,39]:=by kernel_rfl
 rw[e]at h;exact h
def arS(b_:fJ w):aq R1 #[] w (λe w'=>e=.returned (.bool true)/\Still w w'):=by
 apply anJ;refine SU.mono ?_;rintro _ w1 ⟨rfl,hst,s1,_⟩;refine .inl ⟨_,rfl,aA (λh=>by cases h) (λ_=>?_)⟩;obtain⟨s',hex,e1,e2,e3⟩:=avi;refine(adC b_ s1 hst (λx hx=>by cases hx) afy [] (fuel:=20) (by decide) aqe hex).mono ?_;rintro _ w2 ⟨⟨p1,n1,c1,cw,p2,n2,c2,p3,n3,c3,i1,i2,i3,i4,rfl⟩,_,_,s2,z2⟩;rw[e1,e2,e3];refine .inl ⟨_,_,_,_,_,_,_,_,_,_,_,_,_,_,_,_,_,rfl,aQ λw3 r3 s3 z3=>?_⟩;refine aHb (g:=w2.heap.size) (o:=0) r3 λw4 r4 m4 z4=>?_;have lp:Still w w4:=(s2.trans s3).box s2.size m4;refine(A.aKF (V:=[]) (s:=[50,42,51]) (b_.still lp).env ⟨rfl,aV _,λh=>absurd h (by decide),λh=>absurd h (by decide)⟩ (by simp[A.kZ]) (λv hv=>by cases hv) (by decide) (by decide)).mono ?_;rintro e w5 ⟨h5,s5⟩;have ev:A.iX [50,42,51] []=.ok (6,[]):=by kernel_rfl
 rw[ev]at h5;obtain⟨_,q,D,rfl,_⟩:=h5;have aIf:=lp.trans s5;refine .inl ⟨_,_,_,_,_,rfl,(aKZ (n:=9) (by decide) (by decide)).mono ?_⟩;rintro _ w6 ⟨⟨a6,rfl⟩,s6⟩;have sM:=aIf.trans s6;refine .inl ⟨_,_,rfl,(L.kK [97] (by rw[aeI])).mono ?_⟩;rintro _ w7 ⟨cs,rfl,hn,s7⟩;rw[aeI]at hn⊢;have s07:=sM.trans s7;obtain⟨pw,cw',pa,ca,pr,cr,po,co,pk,ck,rfl,_⟩:=hn.outs;refine .inl ⟨_,_,_,_,_,_,_,_,_,_,_,_,_,_,_,_,_,_,_,rfl,aQ λw8 r8 s8 z8=>?_⟩;refine aHb (g:=w7.heap.size) (o:=0) r8 λw9 r9 m9 z9=>?_;have aIg:Still w7 w9:=s8.box (aV _) m9;have JR:=s07.trans aIg;refine aQ λaO eB fY aIs=>?_;have hA:ja aO (some ⟨w9.heap.size,0,none⟩) 1 [[101,99,104,111]]:=⟨by simp,λ_=>⟨_,_,rfl,eB.lt,λj u hu=>by rw[cQ];exact eB.aj hu⟩⟩;refine(acI (fn:=B4) (by decide) (S3 (args:=[]) [] (by decide) (by decide)) (b_.still (JR.trans fY)) hA).mono ?_;rintro _ bh ⟨rfl,pP⟩;refine .inl ⟨_,_,_,_,rfl,aQ λbE gP fZ z12=>?_⟩;refine aHb (g:=bh.heap.size) (o:=0) gP λbw ld m13 xT=>?_;have Oe:Still w9 bw:=((fY.trans pP).trans fZ).box (by have:=fY.size;have:=pP.size;omega) m13;have aAL:Still w4 bw:=(((s5.trans s6).trans s7).trans aIg).trans Oe;have q4:=r4.still aAL;refine⟨_,_,_,q4.aj rfl,q4.aj rfl,q4.aj rfl,aA (λ_=>?_) (λh=>by simp at h)⟩;refine aA (λ_=>aA (λ_=>aA (λ_=>aA (λ_=>aA (λ_=>?_) (λh=>by cases h)) (λh=>by cases h)) (λh=>by cases h)) (λh=>by cases h)) (λh=>by cases h);have q9:=r9.still Oe;refine⟨_,_,_,_,_,_,_,_,_,_,_,_,_,_,_,_,_,_,q9.aj rfl,q9.aj rfl,q9.aj rfl,q9.aj rfl,q9.aj rfl,q9.aj rfl,q9.aj rfl,q9.aj rfl,?_⟩;refine(L.U.arR (wd:=[⟨0,false,[97],[],[],[]⟩]) (hn.still (aIg.trans Oe)) (λh=>L.abF h (by decide)) (by decide)).mono ?_;rintro _ bO ⟨rfl,lq⟩;have xK:L.gQ [⟨0,false,[97],[],[],[]⟩]=[97]:=by kernel_rfl
 rw[xK];refine .inl ⟨_,rfl,aA (λ_=>?_) (λh=>by cases h)⟩;have q13:=ld.still lq;refine⟨_,q13.aj rfl,aA (λ_=>?_) (λh=>by cases h)⟩;refine aQ λb8 ri aJA JM=>(apq ri).mono ?_;rintro _ aHe ⟨rfl,lB⟩;exact .inl ⟨_,rfl,rfl,(((JR.trans Oe).trans lq).trans aJA).trans lB⟩
def ayQ(st:Int)(out err:ag)(v:Value):Prop:=∃(p1:Option Addr) (n1 c1:Nat) (cw:ag) (p2:Option Addr) (n2 c2:Nat) (p3:Option Addr) (n3 c3:Nat) (i1 i2 i3 i4:Int),v=.agg #[.int .i64 st,.string (S out),.string (S err),.slice p1 n1 c1,.string (S cw),.slice p2 n2 c2,.slice p3 n3 c3,.int .i64 i1,.int .i64 i2,.int .i64 i3,.int .i64 i4]
def adP(b_:fJ w){script bu:ag}{n:L.Nd}(hp:L.qT script=(n,0)){s':Sh}(hex:aHN n (vb [] bu 120) s'):
  aq aKC #[.string (S script),.string (S bu)] w (λe w'=>∃a g v,e=.returned (.tuple #[.pointer (some ⟨a,0,none⟩),v])/\ayQ s'.st s'.out s'.err v/\cU w' w.heap.size a g none 0 s'.T/\k4 s'.T/\Still w w'):=by
 apply aor;refine aQ λw1 r1 s1 z1=>SU.mono ?_;rintro _ w2 ⟨rfl,hst,s2,_⟩;refine .inl ⟨_,rfl,aA (λh=>by cases h) (λ_=>?_)⟩;refine(adC (b_.still s1) s2 hst (λx hx=>by cases hx) script bu (fuel:=120) (by decide) hp hex).mono ?_;rintro _ w4 ⟨⟨p1,n1,c1,cw,p2,n2,c2,p3,n3,c3,i1,i2,i3,i4,rfl⟩,h4,hT,s4,z4⟩;have r4:=r1.still s4;refine .inl ⟨_,_,_,_,_,_,_,_,_,_,_,_,_,_,_,_,_,rfl,?_⟩;refine aHb (g:=w.heap.size) (o:=0) r4 λw5 r5 m5 z5=>?_;have hz:w.heap.size<w1.heap.size:=by omega
 refine⟨_,_,_,_,_,_,_,_,_,_,_,_,_,_,_,_,_,r5.aj rfl,r5.aj rfl,r5.aj rfl,r5.aj rfl,r5.aj rfl,r5.aj rfl,r5.aj rfl,r5.aj rfl,r5.aj rfl,r5.aj rfl,r5.aj rfl,?_⟩;refine⟨_,w1.heap.size,_,rfl,⟨_,_,_,_,_,_,_,_,_,_,_,_,_,_,rfl⟩,?_,hT,(s1.trans s4).box (aV _) m5⟩;have h5:=h4.mod m5 λk hk e=>by have:=(h4.k6 hk).1;omega
 exact⟨h5.top,h5.now,h5.eS,⟨by have:=h5.low.1;omega,by have:=h5.low.2;omega⟩,λt ht=>by cases ht⟩
def arP:List ag:=[[49],[50],[97],[43],[45],[42],[47],[37],[60,60],[60],[61,61],[33],[126],[38,38],[124,124],[63],[58],[98,61],[48,120,49,102],[32]]
def XB(c:UInt8):Bool:=L.kz c&& !(c==73)
def aoH(b_:fJ w){l:Option Addr}{lL lC:Nat}(hl:E7 w l lL){a:Int}(ha:A.eL a):aq Zh #[.slice l lL lC,.int .i64 a] w (λe w'=>e=.returned (.bool true)/\Still w w'):=by
 apply amv;refine(arS b_).mono ?_;rintro _ w1 ⟨rfl,s1⟩;refine .inl ⟨_,rfl,aA (λh=>by cases h) (λ_=>?_)⟩;refine aQ λw2 r2 s2 z2=>?_;have t2:=s1.trans s2;refine(atx (sg:=arP) (B:=XB) (hl.still t2) r2 (by decide) (by decide) (by decide) (by decide)).mono ?_;rintro _ w3 ⟨s,rfl,fM,hsb,rfl⟩;refine .inl ⟨_,rfl,aA (λ_=>⟨rfl,t2⟩) (λhm=>?_)⟩;refine(A.ZZ a ha).mono ?_;rintro _ w4 ⟨rfl,s4⟩;refine .inl ⟨_,rfl,?_⟩;refine aQ λw5 r5 s5 z5=>?_;have t5:=(t2.trans s4).trans s5;have hla:=Lib.itoa_length_le a ha.1 (by have:=ha.2;omega);have hv:A.cK w5 (some ⟨w4.heap.size,0,none⟩) 1 1 (Va (Lib.itoa a)):=⟨rfl,aV _,λ_=>⟨_,rfl,λj u hu=>by rw[aHa,cQ];exact r5.aj hu⟩,λ_=>⟨_,_,rfl,r5⟩⟩;have vo:=Nq (v:=Lib.itoa a) (by omega);refine(A.aKF (b_.still t5).env hv vo.IL vo.xO (s:=s) (by omega) (by show 1+s.length<_;omega)).mono ?_;rintro e w6 ⟨h6,s6⟩;have t6:=t5.trans s6;have hpl:∀c∈s,L.kz c=true:=λc hc=>by have:=hsb c hc;simp only[XB,aHo]at this;exact this.1
 have h73:(73:UInt8)∉s:=λhc=>by have:=hsb _ hc;simp[XB]at this
 obtain⟨hn1,hn2⟩:=adL a;have hT:(((([97,61]:ag)++Lib.itoa a)++[59,32,101,99,104,111,32,36,40,40])++s)++[41,41]=L.Bi (Lib.itoa a) s:=by simp[L.Bi]
 have hp:L.qT (L.Bi (Lib.itoa a) s)=(L.aJa [L.vD (Lib.itoa a),L.sB s],0):=by obtain⟨c,v,hcv⟩:=aJj hn2;rw[hcv]at hn1 hla⊢;simp only[bf]at hla;exact L.atv (λx hx=>(adK x (hn1 x hx)).2) hpl (by omega)
 cases hev:A.iX s (Va (Lib.itoa a))with
 |ok p=>obtain⟨z,V'⟩:=p;rw[hev]at h6;obtain⟨hz,q,D,rfl,hvar,EF,JE,hlen⟩:=h6;obtain⟨s',hex,e1,e2,e3⟩:=atw (by omega) (by omega) h73 hz hev (by have:V'.length<=1+s.length:=hlen;omega);refine .inl ⟨_,_,_,_,_,rfl,by simp;omega,by simp;omega,by simp;omega,by simp;omega,?_⟩;rw[hT];refine(adP (b_.still t6) hp hex).mono ?_;rintro _ w7 ⟨a7,g7,_,rfl,⟨p1,m1,c1,cw,p2,m2,c2,p3,m3,c3,i1,i2,i3,i4,rfl⟩,_,_,s7⟩;rw[e1,e2,e3];refine .inl ⟨_,_,_,_,_,_,_,_,_,_,_,_,_,_,_,_,_,_,rfl,xu rfl (by simp[Value.oneCell']) λw8 r8 s8 z8=>?_⟩;have t8:=(t6.trans s7).trans s8;have sD:Still w8 w8.drew:=(Still.refl _).cy;have r9:=r8.still sD;refine aA (λh=>by simp at h) (λ_=>?_);refine⟨λwq=>Row wq w7.heap.size _ _,r9,aA (λ_=>⟨_,_,_,λwq hq=>hq.aj rfl,λwq hq=>hq.aj rfl,λwq hq=>hq.aj rfl,?_⟩) (λh=>by cases h)⟩;refine(A.ZZ z hz).mono ?_;rintro _ aO ⟨rfl,fY⟩;have hlz:=Lib.itoa_length_le z hz.1 (by have:=hz.2;omega);exact .inl ⟨_,rfl,r9.still fY,by simp;omega,by simp,(t8.trans sD).trans fY⟩
 |bad k=>
  rw[hev]at h6;obtain⟨s',hex,e1,e2⟩:=arL (v:=Lib.itoa a) (by omega) (by omega) hev;obtain⟨rfl,_⟩:=h6;refine .inl ⟨_,_,_,_,_,rfl,by simp;omega,by simp;omega,by simp;omega,by simp;omega,?_⟩;rw[hT];refine(adP (b_.still t6) hp hex).mono ?_;rintro _ w7 ⟨a7,g7,_,rfl,⟨p1,m1,c1,cw,p2,m2,c2,p3,m3,c3,i1,i2,i3,i4,rfl⟩,_,_,s7⟩;rw[e1,e2];refine .inl ⟨_,_,_,_,_,_,_,_,_,_,_,_,_,_,_,_,_,_,rfl,xu rfl (by simp[Value.oneCell']) λw8 r8 s8 z8=>?_⟩;have t8:=(t6.trans s7).trans s8;have hk:=(A.LU hev).in.1;refine aA (λ_=>aA (λ_=>?_) (λh=>by cases h)) (λh=>?_)
  .refine⟨_,r8.aj rfl,aA (λ_=>⟨_,r8.aj rfl,⟨rfl,t8⟩⟩) (λh=>by simp at h)⟩
  .exact absurd h (by simp;omega)
end Go.Proofs.YtihaaoehhgmphaaGreatDoor
