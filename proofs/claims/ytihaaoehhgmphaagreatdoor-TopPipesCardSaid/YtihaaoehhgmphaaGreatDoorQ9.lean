/- Texts of one proof, one behind the other. Conditions: as each theorem names them. -/
import Derived.Test.YtihaaoehhgmphaaGreatDoorQ8
import Derived.OpenShut
set_option linter.all false
namespace Go.Proofs.YtihaaoehhgmphaaGreatDoor.L
open IntKind Go.RowKit Vc
variable{w:World}
def DJ(w:World)(F:Nat->Prop):eM w F nd0 pY:=by
 refine⟨_,_,_,_,none,0,rfl,?_,?_,?_,?_,aW _,λh=>absurd rfl h⟩
 .exact⟨none,0,rfl,aW _,λh=>absurd rfl h⟩
 .exact⟨none,0,rfl,aW _,λh=>absurd rfl h⟩
 .exact⟨none,0,rfl,aW _,λh=>absurd rfl h⟩
 .exact⟨none,0,rfl,aW _,λh=>absurd rfl h⟩
def afR(w:World)(F:Nat->Prop):∀l:List Tok,VQ.Cs w F l (tc l)
 |[]=>rfl
 |x::r=>⟨[.int .i64 (x.1:Int),.string (S x.2)],tc r,rfl,rfl,afR w F r⟩
def awy{B:Nat}{v:Value}{l:List Tok}(hv:∃p C,v=.slice p l.length C)(h:aV w B 203 2 v l.length (tc l)):VQ.At w (λk=>B<=k/\k<w.heap.size) l v:=by obtain⟨p,C,rfl⟩:=hv;exact cu.eD.at (X:=λk=>k<w.heap.size) (gn:=w.heap.size) ⟨p,C,tc l,rfl,h,λk hk=>⟨(h.lt k hk).2,FP (h.lt k hk).2⟩,afR _ _ _⟩
def K7{w4:World}{ge:Nat}{x:Nd}{cs:List Value}{er:Int}{R:Ending->World->Prop}(hr:Row w4 w.heap.size 66 ⟨cs⟩)(he:Row w4 ge 28 ⟨[.int .i64 er]⟩)(hn:eM w4 (λk=>w.heap.size<=k/\k<w4.heap.size) x cs)
  (hR:R (.returned (.tuple #[.agg ⟨cs⟩,.int .i64 er])) w4):∃cF:Int,∃fO:Bool,∃cI:List UInt8,∃(fH:Option Addr) (fE fF:Nat),∃(fB:Option Addr) (fy fA:Nat),∃(fG:Option Addr) (aIn aIo:Nat),∃(fP:Option Addr) (fK aIp:Nat),∃(fM:Option Addr) (fI fJ:Nat),w4.cell? (Addr.mk w.heap.size 0 none)=some (.int .i64 cF)/\w4.cell? (Addr.mk w.heap.size 1 none)=some (.bool fO)/\w4.cell? (Addr.mk w.heap.size 2 none)=some (.string (S cI))/\w4.cell? (Addr.mk w.heap.size 3 none)=some (.slice fH fE fF)/\w4.cell? (Addr.mk w.heap.size 4 none)=some (.slice fB fy fA)/\w4.cell? (Addr.mk w.heap.size 5 none)=some (.slice fG aIn aIo)/\w4.cell? (Addr.mk w.heap.size 6 none)=some (.slice fP fK aIp)/\w4.cell? (Addr.mk w.heap.size 7 none)=some (.slice fM fI fJ)/\∃v2:Int,w4.cell? (Addr.mk ge 0 none)=some (.int .i64 v2)/\R (.returned (.tuple #[(.agg #[(.int .i64 cF),(.bool fO),(.string (S cI)),(.slice fH fE fF),(.slice fB fy fA),(.slice fG aIn aIo),(.slice fP fK aIp),(.slice fM fI fJ)]),(.int .i64 v2)])) w4:=by
 obtain⟨pw,cw,pa,ca,pr,cr,po,co,pk,ck,rfl,_⟩:=hn.outs;exact⟨_,_,_,_,_,_,_,_,_,_,_,_,_,_,_,_,_,_,hr.aj rfl,hr.aj rfl,hr.aj rfl,hr.aj rfl,hr.aj rfl,hr.aj rfl,hr.aj rfl,hr.aj rfl,_,he.aj rfl,hR⟩
def axU(w:World)(r:Nd×Int)(e:Ending)(w':World):Prop:=∃cs,e=.returned (.tuple #[.agg ⟨cs⟩,.int .i64 r.2])/\eM w' (λk=>w.heap.size<=k/\k<w'.heap.size) r.1 cs/\Still w w'
def aa2(s:ag)(hs:(aJu s).2=0):aH3 Kn #[.string (S s)] w (axU w (aJu s)):=by
 have hpl:L_ s=true:=by
  cases h:L_ s with
  |true=>rfl
  |false=>unfold aJu at hs;rw[aR h]at hs;cases hs
 refine amu _ _ _ ?_;refine aP λw1 r1 s1 z1=>aP λw2 r2 s2 z2=>(aqf s).mono ?_;rintro _ w3 ⟨p,C,rfl,ho,s3⟩;have EA:Row w3 w.heap.size 66 ⟨pY⟩:=(r1.still s2).still s3;have er3:=r2.still s3;have vl:=s3.size;refine .inl ⟨_,_,_,_,rfl,aH5 er3 (by simp) (by simp[Value.oneCell']) λw4 E2 m4 z4=>?_⟩;have E2:Row w4 w1.heap.size 28 ⟨[.int .i64 (jo s).2]⟩:=E2;have M6:=EA.mod m4 (by omega);have iL:Still w w4:=Mod.trans ((s1.trans s2).trans s3) m4 (λ_ h=>h) (λi hi e=>by omega);have VX:=(awy ⟨_,_,rfl⟩ ho);refine⟨_,E2.aj rfl,aB (λhx=>?_) (λhx=>?_)⟩
 .have hne:(jo s).2≠0:=by simpa using hx
  have hp:aJu s=(nd0,(jo s).2):=by unfold aJu;rw[aL (by rw[hpl];decide),aL hne]
  rw[hp];have ahd:=E2.still (gV w4);have ayC:=M6.still (gV w4);refine⟨λwq=>wq.cell? (Addr.mk w1.heap.size 0 none)=some (.int .i64 (jo s).2),ahd.aj rfl,_,λ_ h=>h,aH5 ayC (by simp) (by simp[Value.oneCell']) λw5 r5 m5 z5=>?_⟩;have er5:=ahd.mod m5 (by omega);refine⟨er5.aj rfl,aH5 er5 (by simp) (by simp[Value.oneCell']) λw6 er6 m6 z6=>?_⟩;have r6:Row w6 w.heap.size 66 ⟨pY⟩:=(show Row w5 w.heap.size 66 ⟨pY⟩from r5).mod m6 (by omega);have oe:Still w w6:=Mod.trans (Mod.trans (iL.trans (gV w4)) m5 (λ_ h=>h) (λi hi e=>by omega)) m6 (λ_ h=>h) (λi hi e=>by omega);exact K7 r6 er6 (DJ _ _) ⟨_,rfl,DJ _ _,oe⟩
 .have aKp:(jo s).2=0:=by simpa using hx
  have hp:aJu s=match LH (jo s).1 with
   |.ok x=>(x,0)
   |.bad k=>(nd0,(k:Int)):=by unfold aJu;rw[aL (by rw[hpl];decide),aR aKp];cases LH (jo s).1<;>rfl
  rw[hp];have hb:=atw s hpl;rw[aKp]at E2;generalize(jo s).1=ts at*;refine aP λw7 r7 s7 z7=>?_;have er7:=E2.still s7;have aAi:=M6.still s7;have hpz:Pz w7 w4.heap.size ts:=by refine⟨p,C,r7,?_⟩;refine VX.dV (λk hk=>by omega) λa v ⟨k,hk,ea⟩ hcell=>s7.cell (aKi m4 (by rw[ea];omega) hcell)
  have hl:=awx (L:=30) (arA (by decide)) hpz hb;have e1:(31-((30:Nat):Int))=1:=by decide
  rw[e1]at hl;refine hl.mono ?_;rintro e8 w8 ⟨o8,CW⟩;have er8:=er7.mod o8 (by omega);have ahe:=aAi.mod o8 (by omega);have hz8:=o8.size;have hz7:w.heap.size+2<=w4.heap.size:=by omega
  have vB:Still w w8:=Mod.trans (iL.trans s7) o8 (λ_ h=>h) (λi hi e=>by omega);have panics:∀(k:Nat) (w9:World) (cs:List Value) (hcs:cs.length=8),Row w9 w.heap.size 66 ⟨cs⟩->Row w9 w1.heap.size 28 ⟨[.int .i64 0]⟩->Still w w9->∀K:Ending->FrameMode->World->Prop,(∀w',Row w' w.heap.size 66 ⟨pY⟩->Row w' w1.heap.size 28 ⟨[.int .i64 (k:Int)]⟩->Still w w'->∀u,settle u=.returning->K (.returned (.tuple #[])) u w')->
    CallsD aM J_ #[.pointer (some ⟨w.heap.size,0,none⟩),.pointer (some ⟨w1.heap.size,0,none⟩)] (.panicking (qE k)) w9 K:=by
   intro k w9 cs hcs aJN he9 s9 K hK;refine(apn ⟨w.heap.size,0,none⟩ ⟨w1.heap.size,0,none⟩ k w9 (λw'=>Row w' w.heap.size 66 ⟨pY⟩/\Row w' w1.heap.size 28 ⟨[.int .i64 (k:Int)]⟩/\Still w w') ?_).mono ?_
   .have aAj:=aJN.still (gV w9)
    have aAk:=he9.still (gV w9);obtain⟨a0,a1,a2,a3,a4,a5,a6,a7,rfl⟩:∃a0 a1 a2 a3 a4 a5 a6 a7,cs=[a0,a1,a2,a3,a4,a5,a6,a7]:=by
     match cs,hcs with
     |[a0,a1,a2,a3,a4,a5,a6,a7],_=>exact⟨_,_,_,_,_,_,_,_,rfl⟩
    refine aH5 aAj (by simp) (by simp[Value.oneCell']) λwa ra ma za=>aH5 (aAk.mod ma (by omega)) (by simp) (by simp[Value.oneCell']) λwb rb mb zb=>⟨(show Row wa w.heap.size 66 ⟨pY⟩from ra).mod mb (by omega),rb,?_⟩;exact Mod.trans (Mod.trans (s9.trans (gV w9)) ma (λ_ h=>h) (λi hi e=>by omega)) mb (λ_ h=>h) (λi hi e=>by omega)
   .rintro _ u w' ⟨rfl,hu,h1,h2,h3⟩
    exact hK w' h1 h2 h3 u hu
  have Je:LH ts=(HQ (kK 30).1 ts).and λx=>if x.2=[]then .ok x.1 else .bad 100:=rfl;rw[Je];clear Je;cases hr:HQ (kK 30).1 ts with
  |bad k=>rw[hr]at CW;refine .inr ⟨_,CW,panics k w8 pY rfl ahe er8 vB _ λw' h1 h2 h3 u hu=>?_⟩;exact⟨⟨_,rfl⟩,hu,K7 h1 h2 (DJ _ _) ⟨_,rfl,DJ _ _,h3⟩⟩
  |ok y=>
  rw[hr]at CW;obtain⟨cs,rfl,hnd,h8⟩:=CW;obtain⟨pw,cw,pa,ca,pr,cr,po,co,pk,ck,rfl,_⟩:=hnd.outs;rw[Rs.axT];refine .inl ⟨_,_,_,_,_,_,_,_,_,_,_,_,_,_,_,_,_,_,rfl,aH5 ahe (by simp) (by simp[Value.oneCell']) λw9 r9 m9 z9=>?_⟩;have er9:=er8.mod m9 (by omega);have aKc:Still w w9:=Mod.trans vB m9 (λ_ h=>h) (λi hi e=>by omega);have aAl:=(hnd.mod m9 λk hk (e:k=w.heap.size)=>by have hk1:w7.heap.size<=k:=hk.1;omega);have CC:=m9.size;obtain⟨a9,c9,ayD,_⟩:=h8;have ayE:=ayD.mod m9 (by omega);have r9:Row w9 w.heap.size 66 ⟨l_ y.1 (.slice pw y.1.ws.length cw) (.slice pa y.1.gF.length ca) (.slice pr y.1.rs.length cr) (.slice po y.1.os.length co) (.slice pk y.1.ks.length ck)⟩:=r9;refine⟨a9,y.2.length,c9,ayE.aj rfl,(aaT _).mono ?_⟩;rintro _ aO ⟨rfl,rfl⟩
  by_cases hy:y.2=[]
  .rw[aR hy]
   rw[aR (by rw[hy];decide)];refine .inl ⟨rfl,_,_,_,_,_,_,_,_,_,_,_,_,_,_,_,_,_,_,r9.aj rfl,r9.aj rfl,r9.aj rfl,r9.aj rfl,r9.aj rfl,r9.aj rfl,r9.aj rfl,r9.aj rfl,aH5 r9 (by simp) (by simp[Value.oneCell']) λaX aIk m11 xh=>aH5 (er9.mod m11 (by omega)) (by simp) (by simp[Value.oneCell']) λaH4 aAm m12 z12=>(arB _ _ _).mono ?_⟩;rintro _ u bl ⟨rfl,rfl,rfl⟩;have aIk:Row aX w.heap.size 66 ⟨l_ y.1 (.slice pw y.1.ws.length cw) (.slice pa y.1.gF.length ca) (.slice pr y.1.rs.length cr) (.slice po y.1.os.length co) (.slice pk y.1.ks.length ck)⟩:=aIk;have ahf:=((aAl.mod m11 λk hk (e:k=w.heap.size)=>by have hk1:w7.heap.size<=k:=hk.1;omega).mod m12 λk hk (e:k=w1.heap.size)=>by have hk1:w7.heap.size<=k:=hk.1;omega).mono (G:=λk=>w.heap.size<=k/\k<bl.heap.size) λk hk=>by have hk1:w7.heap.size<=k:=hk.1;have hk2:k<w8.heap.size:=hk.2;exact⟨by omega,by omega⟩
   have eN:Still w bl:=Mod.trans (Mod.trans aKc m11 (λ_ h=>h) (λi hi e=>by omega)) m12 (λ_ h=>h) (λi hi e=>by omega);exact⟨⟨_,rfl⟩,rfl,K7 (aIk.mod m12 (by omega)) aAm ahf ⟨_,rfl,ahf,eN⟩⟩
  .rw[aL hy]
   have hd:decide (((y.2.length:Nat):Int)=(0:Int))=false:=aIl λe=>hy (mH (by omega));rw[hd,aL (by decide)];refine .inr ⟨_,rfl,panics 100 aO _ rfl r9 er9 aKc _ λw' h1 h2 h3 u hu=>?_⟩;exact⟨⟨_,rfl⟩,hu,K7 h1 h2 (DJ _ _) ⟨_,rfl,DJ _ _,h3⟩⟩
end Go.Proofs.YtihaaoehhgmphaaGreatDoor.L
namespace Go.Proofs.YtihaaoehhgmphaaGreatDoor
open IntKind Go.RowKit Vc
set_option maxRecDepth 100000
variable{w w0:World}
def WN(a:Nat)(fuel:Int)(mp:Option Addr)(mn mc:Nat):List Value:=
 [.pointer (some ⟨a,0,none⟩),.int .i64 0,.bool false,.int .i64 0,.string (S []),.string (S []),.slice none 0 0,.string (S []),.slice none 0 0,.slice mp mn mc,.int .i64 0,.int .i64 0,.int .i64 0,.int .i64 0,.int .i64 fuel,.pointer none,.slice none 0 0]
def Made(w:World)(a:Nat)(aG:ag)(fuel:Int)(ex:Option Addr)(w':World):Prop:=∃hb sb pb fm,ex=some ⟨hb,0,none⟩/\w.heap.size<=hb/\w.heap.size<=sb/\w.heap.size<=fm/\Row w' hb fX ⟨oK sb pb none 0 0 0 fm aG [] 0 0 0⟩/\Row w' sb kY ⟨WN a fuel none 0 0⟩/\iC w' pb a/\dU w' fm []/\Still w w'
def B0(T:Tree)(aG:ag)(fuel:Nat):Sh:=⟨T,[],0,aG,[],0,0,0,fuel,0,[],1000⟩
def Ip{C:World->Prop}(h:∀w1,dU w1 w.heap.size []->Still w w1->w1.heap.size=w.heap.size+1->C w1):cS (w.alloc (.map #[] 0)) C:=h _ (dU.new w) ((Mod.refl _ _).alloc _) (World.size_alloc ..)
set_option maxHeartbeats 1000000 in
def ac3(aH9:fN w0)(h0:Still w0 w){a g:Nat}{T:Tree}(hst:cQ w w0.heap.size a g none 0 T)(hT:iV T)(script aG:ag){fuel:Nat}(hf:fuel<=1000000){n:L.Nd}(hp:L.aJu script=(n,0)){s':Sh}(hex:jH n (B0 T aG fuel) s'):
  aH3 KD #[.pointer (some ⟨a,0,none⟩),.string (S script),.agg #[.string (S []),.int .i64 0,.slice none 0 0,.slice none 0 0,.string (S aG),.int .i64 (fuel:Int),.bool false,.slice none 0 0]] w (λe w'=>(∃(p1:Option Addr) (n1 c1:Nat) (cw:ag) (p2:Option Addr) (n2 c2:Nat) (p3:Option Addr) (n3 c3:Nat) (i1 i2 i3 i4:Int),e=.returned (.agg #[.int .i64 s'.st,.string (S s'.out),.string (S s'.err),.slice p1 n1 c1,.string (S cw),.slice p2 n2 c2,.slice p3 n3 c3,.int .i64 i1,.int .i64 i2,.int .i64 i3,.int .i64 i4]))/\cQ w' w0.heap.size a g none 0 s'.T/\iV s'.T/\Still w0 w'/\w.heap.size<=w'.heap.size):=by
 have hz0:=h0.size;refine anb _ _ _ _ _ _ _ _ _ _ _ _ _ _ _ _ _ _ ?_;refine aP λw1 r1 s1 z1=>aP λw2 r2 s2 z2=>?_;have q1:=r1.still s2;have cZ:=s1.trans s2;have sD:Still w2 w2.drew:=(Still.refl _).cK;have pF:=q1.still sD;have M0:=cZ.trans sD;have ew:(if(0:Int)>(fuel:Int)then(0:Int)else(fuel:Int))=(fuel:Int):=aL (by omega);have eb:bits .and .i64 0 7=0:=by decide
 refine⟨Made w2 a aG fuel,⟨λwq=>Row wq w.heap.size 57 ⟨[.string (S []),.int .i64 0,.slice none 0 0,.slice none 0 0,.string (S aG),.int .i64 (fuel:Int),.bool false,.slice none 0 0]⟩,pF,_,λwq hq=>hq.aj rfl,_,λwq hq=>hq.aj rfl,_,λwq hq=>hq.aj rfl,_,λwq hq=>hq.aj rfl,_,λwq hq=>hq.aj rfl,_,λwq hq=>hq.aj rfl,_,λwq hq=>hq.aj rfl,?_,?_,?_⟩,?_⟩
 .rw[ew,eb]
  refine aP λw3 r3 s3 z3=>⟨pF.still s3,(aKY rfl).mono ?_,Ip λw7 r7 s7 z7=>⟨(pF.still s3).still s7,(aKY rfl).mono ?_⟩⟩
  .rintro _ w4 ⟨rfl,p4,s4,z4⟩
   refine .inl ⟨_,rfl,(pF.still s3).still s4,Ip λw5 r5 s5 z5=>⟨((pF.still s3).still s4).still s5,aP λw6 r6 s6 z6=>?_⟩⟩;have hz:=((s3.trans s4).trans s5).size;have CK:=(s3.trans s4).size;exact⟨_,_,_,_,rfl,hz,aW _,CK,r6,((r3.still s4).still s5).still s6,(p4.still s5).still s6,r5.still s6,((((sD.trans s3).trans s4).trans s5).trans s6)⟩
  .rintro _ w8 ⟨rfl,p8,s8,z8⟩
   refine .inl ⟨_,rfl,((pF.still s3).still s7).still s8,aP λw9 r9 s9 z9=>?_⟩;exact⟨_,_,_,_,rfl,((s3.trans s7).trans s8).size,aW _,s3.size,r9,((r3.still s7).still s8).still s9,p8.still s9,(r7.still s8).still s9,(((sD.trans s3).trans s7).trans s8).trans s9⟩
 .rw[ew,eb]
  refine(aKY rfl).mono ?_;rintro _ aO ⟨rfl,qQ,iN,pz⟩;refine .inl ⟨_,rfl,pF.still iN,aP λaX aIk gU xh=>⟨(pF.still iN).still gU,Ip λaH4 ey eN z12=>⟨((pF.still iN).still gU).still eN,aP λbl jE gy vz=>?_⟩⟩,Ip λbH aI8 jV NU=>⟨(pF.still iN).still jV,aP λbQ qK aJM I8=>⟨((pF.still iN).still jV).still aJM,aP λbW r16 oh Wy=>?_⟩⟩⟩
  .exact⟨_,_,_,_,rfl,((iN.trans gU).trans eN).size,iN.size,(iN.trans gU).size,jE,(aIk.still eN).still gy,((qQ.still gU).still eN).still gy,ey.still gy,(((sD.trans iN).trans gU).trans eN).trans gy⟩
  .exact⟨_,_,_,_,rfl,((iN.trans jV).trans aJM).size,(iN.trans jV).size,iN.size,r16,qK.still oh,((qQ.still jV).still aJM).still oh,(aI8.still aJM).still oh,(((sD.trans iN).trans jV).trans aJM).trans oh⟩
 .rw[ew,eb]
  refine Ip λaH_ aI9 rY z17=>⟨pF.still rY,aP λcB wX og z18=>⟨(pF.still rY).still og,(aKY rfl).mono ?_⟩,(aKY rfl).mono ?_⟩
  .rintro _ dM ⟨rfl,p19,lB,z19⟩
   refine .inl ⟨_,rfl,((pF.still rY).still og).still lB,aP λeF qM nh z20=>?_⟩;exact⟨_,_,_,_,rfl,((rY.trans og).trans lB).size,rY.size,aW _,qM,(wX.still lB).still nh,p19.still nh,((aI9.still og).still lB).still nh,(((sD.trans rY).trans og).trans lB).trans nh⟩
  .rintro _ eL ⟨rfl,p21,aJO,z21⟩
   refine .inl ⟨_,rfl,(pF.still rY).still aJO,aP λaIf yL CV z22=>⟨((pF.still rY).still aJO).still CV,aP λkI Cy aKH z23=>?_⟩⟩;exact⟨_,_,_,_,rfl,((rY.trans aJO).trans CV).size,(rY.trans aJO).size,aW _,Cy,yL.still aKH,(p21.still CV).still aKH,((aI9.still aJO).still CV).still aKH,(((sD.trans rY).trans aJO).trans CV).trans aKH⟩
 rintro _ _ je ⟨hb,sb,pb,fm,rfl,l1,l2,l3,rh,rs,pp,ff,lz⟩;have aAn:Still w je:=cZ.trans lz;have Jf:=q1.still lz;have jU:=cZ.size;refine⟨_,_,_,Jf.aj rfl,_,_,_,Jf.aj rfl,aH5 (g:=hb) (o:=3) rh (by simp[oK]) (by simp[Value.oneCell']) λmZ Cz E3 z25=>?_⟩
 replace Cz:Row mZ hb fX ⟨oK sb pb none 0 0 0 fm aG [] 0 0 0⟩:=Cz
 have ne1:sb≠hb:=rs.ne rh (by decide);have ne2:pb≠hb:=pp.ne rh (by decide);have aAo:=rs.mod E3 ne1;have aAp:=pp.mod E3 ne2;have aAq:=ff.mod E3 λe=>ff.cY rh e;have WO:=Jf.mod E3 (Jf.ne rh (by decide));have aAr:Still w mZ:=aAn.box (by omega) E3;have sE:Still mZ mZ.drew:=(Still.refl _).cK;refine⟨λwq=>Row wq hb fX ⟨oK sb pb none 0 0 0 fm aG [] 0 0 0⟩/\Row wq w.heap.size 57 ⟨[.string (S []),.int .i64 0,.slice none 0 0,.slice none 0 0,.string (S aG),.int .i64 (fuel:Int),.bool false,.slice none 0 0]⟩,⟨Cz.still sE,WO.still sE⟩,_,λwq hq=>hq.1.aj rfl,_,_,_,λwq hq=>hq.2.aj rfl,?_⟩;refine(show aH3 Ox #[.slice none 0 0] mZ.drew (λe w'=>e=.returned (.slice none 0 0)/\w'=mZ.drew)from ajA _ _ _ _ _ (aB (λ_=>⟨rfl,rfl⟩) (λh=>by cases h))).mono ?_;rintro _ _ ⟨rfl,rfl⟩;refine .inl ⟨_,_,_,rfl,⟨Cz.still sE,WO.still sE⟩,aH5 (g:=sb) (o:=9) (aAo.still sE) (by simp[WN]) (by simp[Value.oneCell']) λpq AS E4 z27=>?_⟩
 replace AS:Row pq sb kY ⟨WN a fuel none 0 0⟩:=AS
 have ahg:=(Cz.still sE).mod E4 ne1.symm;have aAs:=(aAp.still sE).mod E4 (pp.ne rs (by decide));have aAt:=(aAq.still sE).mod E4 λe=>ff.cY rs e;have q27:=(WO.still sE).mod E4 (Jf.ne rs (by decide));have U7:Still w pq:=(aAr.trans sE).box (by omega) E4;refine(L.aa2 script (by rw[hp])).mono ?_;rintro _ vi ⟨cs,rfl,hnd,s28⟩;rw[hp]at hnd⊢;have aAu:=hnd;obtain⟨pw,cw,pa,ca,pr,cr,po,co,pk,ck,rfl,_⟩:=hnd.outs;refine .inl ⟨_,_,_,_,_,_,_,_,_,_,_,_,_,_,_,_,_,_,_,rfl,aP λIK VA s29 z29=>aH5 (g:=vi.heap.size) (o:=0) VA (by simp) (by simp[Value.oneCell']) λn_ wZ m30 z30=>?_⟩;have Ug:Still vi n_:=s29.box (aW _) m30;have yd:=s28.trans Ug;have U8:=U7.trans yd;have hK:bF n_ w0 ⟨a,g,hb,sb,pb,fm⟩ (B0 T aG fuel):=by
  have aAv:=AS.still yd;refine⟨⟨hT,aAs.still yd,aAt.still yd,⟨none,0,ahg.still yd,A.dz.nil _⟩,⟨⟨none,0,0,none,0,0,0,none,.slice none 0 0⟩,ef.fresh aAv rfl rfl,⟨[],aV.nil _ _ _ _⟩,by simp only[B0];refine⟨by decide,by decide,hf⟩⟩,⟨by show w0.heap.size<=hb;omega,by show w0.heap.size<=sb;omega⟩,?_⟩,hst.still U8⟩;have:=hst.now.lt;show g≠fm
  omega
 have aAw:∀k,Ft ⟨a,g,hb,sb,pb,fm⟩ n_ k->k<pq.heap.size:=λk hk=>by
  rcases hk with e|e|e|e|⟨v,hv,e⟩|⟨v,hv,e⟩
  .rw[e];exact ahg.lt
  .have h1:=hst.top.lt;have h2:=U7.size;rw[e];show a<_;omega
  .have h1:=hst.now.lt;have h2:=U7.size;rw[e];show g<_;omega
  .rw[e];exact AS.lt
  .have:n_.cell? ⟨sb,8,none⟩=some (.slice none 0 0):=(AS.still yd).aj rfl
   rw[show(⟨a,g,hb,sb,pb,fm⟩:Kx).sb=sb from rfl,this]at hv;obtain rfl:=bM hv;cases e
  .have:n_.cell? ⟨sb,16,none⟩=some (.slice none 0 0):=(AS.still yd).aj rfl
   rw[show(⟨a,g,hb,sb,pb,fm⟩:Kx).sb=sb from rfl,this]at hv;obtain rfl:=bM hv;cases e
 have hD:Kept (λk=>pq.heap.size<=k/\k<vi.heap.size) (Ft ⟨a,g,hb,sb,pb,fm⟩ n_) n_:=λk hk=>⟨by have:=Ug.size;omega,λhf=>by have:=aAw k hf;omega⟩;have ahh:=h0.trans U8;have ap0:=λ{k:Nat} {ty:TypeId} {cs:Array Value} (hr:Row n_ k ty cs) (a b c d e)=>qR hK hr a b c d e;have q30:=q27.still yd;have d30:Row n_ w1.heap.size 39 ⟨[.int .i64 0,.string (S []),.string (S []),.slice none 0 0,.string (S []),.slice none 0 0,.slice none 0 0,.int .i64 0,.int .i64 0,.int .i64 0,.int .i64 0]⟩:=by have e1:=(r2.still lz).mod E3 (by omega);exact(((e1.still sE).mod E4 (by omega)).still yd)
 refine⟨λAP=>bF AP w0 ⟨a,g,hb,sb,pb,fm⟩ s'/\cA (Ft ⟨a,g,hb,sb,pb,fm⟩ n_) n_ (Ft ⟨a,g,hb,sb,pb,fm⟩ AP) AP,aB (λ_=>?_) (λhb=>absurd rfl (a_ hb)),?_⟩
 .refine⟨_,_,_,_,_,_,_,_,_,_,_,_,_,_,_,_,_,_,wZ.aj rfl,wZ.aj rfl,wZ.aj rfl,wZ.aj rfl,wZ.aj rfl,wZ.aj rfl,wZ.aj rfl,wZ.aj rfl,?_⟩
  refine(hex n_ w0 ⟨a,g,hb,sb,pb,fm⟩ _ _ aH9 ahh hK (aAu.still Ug) hD).mono ?_;rintro _ AP ⟨rfl,h31,g31⟩;exact .inl ⟨rfl,h31,g31⟩
 rintro _ gC ⟨k6,WQ⟩;obtain⟨x,hx⟩:=k6.gG;have M9:=d30.mod WQ.mod (ap0 d30 (by decide) (by decide) (by decide) (by decide) (by decide));refine⟨_,k6.cell λ_ _=>rfl,_,_,_,_,_,_,_,_,_,_,_,_,_,_,_,_,_,hx.row.aj rfl,hx.row.aj rfl,hx.row.aj rfl,hx.row.aj rfl,hx.row.aj rfl,hx.row.aj rfl,hx.row.aj rfl,hx.row.aj rfl,hx.row.aj rfl,hx.row.aj rfl,hx.row.aj rfl,?_⟩;obtain⟨vp,vc,ahi,_⟩:=k6.aIx;have aAx:Still w0 gC:=aKR hK ahh WQ;refine aP λw36 VB yT z36=>aH5 (g:=gC.heap.size) (o:=0) VB (by simp) (by simp[Value.oneCell']) λAQ Nu m37 z37=>?_;have ayF:Still gC AQ:=yT.box (aW _) m37;have sF:Still AQ AQ.drew:=(Still.refl _).cK;have U9:=ayF.trans sF;have U_:=ahi.still U9;have EB:=hx.hO.still U9;refine⟨λwq=>Row wq hb fX ⟨iu ⟨a,g,hb,sb,pb,fm⟩ vp vc s'⟩,U_,_,λwq hq=>hq.aj rfl,_,λwq hq=>hq.aj rfl,_,λwq hq=>hq.aj rfl,(xF EB (by have:=hx.aIh.2.1;omega)).mono ?_⟩;rintro _ EG ⟨rfl,N2⟩;have ahj:=U_.mod N2 λe=>EB.own.cY U_ (by decide) e;have aAy:=EB.row.mod N2 λe=>EB.own.cY EB.row (by decide) e;have VC:=(Nu.still sF).mod N2 λe=>EB.own.cY (Nu.still sF) (by decide) e;refine .inl ⟨_,rfl,ahj,aH5 (g:=gC.heap.size) (o:=0) VC (by simp[fR]) (by simp[Value.oneCell']) λCu VD WR z39=>?_⟩;have nb:hb≠gC.heap.size:=by have h1:=ahi.lt;have h2:(⟨a,g,hb,sb,pb,fm⟩:Kx).hb=hb:=rfl;rw[h2]at h1;omega
 have N3:sb≠gC.heap.size:=by have h1:=hx.row.lt;have h2:(⟨a,g,hb,sb,pb,fm⟩:Kx).sb=sb:=rfl;rw[h2]at h1;omega
 have sG:Still Cu Cu.drew:=(Still.refl _).cK;have Va:=(ahj.mod WR nb).still sG;have Vb:=(aAy.mod WR N3).still sG;refine⟨λwq=>Row wq hb fX ⟨iu ⟨a,g,hb,sb,pb,fm⟩ vp vc s'⟩/\Row wq sb kY ⟨oJ ⟨a,g,hb,sb,pb,fm⟩ x s'⟩,⟨Va,Vb⟩,_,_,_,λwq hq=>hq.1.aj rfl,_,λwq hq=>hq.1.aj rfl,_,λwq hq=>hq.1.aj rfl,_,λwq hq=>hq.2.aj rfl,?_⟩;refine aH5 (g:=gC.heap.size) (o:=3) (VD.still sG) (by simp[fR]) (by simp[Value.oneCell']) λIG VE Jg z40=>⟨⟨Va.mod Jg nb,Vb.mod Jg N3⟩,?_⟩;refine aH5 (g:=gC.heap.size) (o:=4) VE (by simp[fR]) (by simp[Value.oneCell']) λII VF aLW z41=>⟨⟨(Va.mod Jg nb).mod aLW nb,(Vb.mod Jg N3).mod aLW N3⟩,?_⟩;refine aH5 (g:=gC.heap.size) (o:=9) VF (by simp[fR]) (by simp[Value.oneCell']) λCw rQ m42 z42=>?_;refine⟨_,_,_,_,_,_,_,_,_,_,_,_,_,_,_,_,_,rQ.aj rfl,rQ.aj rfl,rQ.aj rfl,rQ.aj rfl,rQ.aj rfl,rQ.aj rfl,rQ.aj rfl,rQ.aj rfl,rQ.aj rfl,rQ.aj rfl,rQ.aj rfl,?_⟩;have ayG:Mod (λk=>k=gC.heap.size) EG Cw:=Mod.trans (Mod.trans (Mod.trans (Mod.trans WR sG (λ_ h=>h) (λ_ _ h=>h.elim)) Jg (λ_ h=>h) (λ_ _ h=>h)) aLW (λ_ h=>h) (λ_ _ h=>h)) m42 (λ_ h=>h) (λ_ _ h=>h);have afS:Mod (λk=>x.buf.ownBlock=some k) gC Cw:=Mod.trans (Mod.trans U9 N2 (λ_ h=>h.elim) (λ_ _ h=>h)) ayG (λ_ h=>h) (λi hi e=>by omega);have aAz:=M9.mod afS λe=>hx.hO.own.cY M9 (by decide) e;refine aH5 (g:=w1.heap.size) (o:=0) aAz (by simp) (by simp[Value.oneCell']) λEH rR m43 z43=>?_;have Uh:Mod (λk=>x.buf.ownBlock=some k\/k=w1.heap.size) gC EH:=Mod.trans afS m43 (λ_ h=>.inl h) (λ_ _ h=>.inr h);refine⟨_,_,_,_,_,_,_,_,_,_,_,_,_,_,_,_,_,rR.aj rfl,rR.aj rfl,rR.aj rfl,rR.aj rfl,rR.aj rfl,rR.aj rfl,rR.aj rfl,rR.aj rfl,rR.aj rfl,rR.aj rfl,rR.aj rfl,?_⟩;have aGW:=WQ.mod.size;have aGX:=U8.size;have hz1:=s1.size;refine⟨⟨_,_,_,_,_,_,_,_,_,_,_,_,_,_,rfl⟩,k6.dh.mod Uh λk hk e=>?_,k6.sY,Mod.trans aAx Uh (λ_ h=>h) λi hi e=>?_,by have:=Uh.size;omega⟩
 .rcases e with e|e
  .rcases hk with rfl|rfl|⟨t,ht,_⟩
   .exact hx.hO.own.cY k6.dh.top (by decide) e
   .obtain⟨cur,hr⟩:=hx.hO.own.typed e
    exact k6.dh.now.cY hr rfl
   .cases ht
  .rcases hk with rfl|rfl|⟨t,ht,_⟩
   .exact(k6.dh.top.ne M9 (by decide)) e
   .exact(k6.dh.now.cY M9) e
   .cases ht
 .rcases e with e|e
  .have:=(hx.hO.own.lt i e).1;omega
  .omega
abbrev ayH:TypeId:=429
def aLc(w:World)(rb pb:Nat)(nm aG:ag)(st:Int)(out err:ag):Prop:=Row w rb ayH ⟨[.pointer (some ⟨pb,0,none⟩),.string (S nm),.string (S aG),.int .i64 st,.string (S out),.string (S err)]⟩
def cQ.typed{B a g n:Nat}{tr:Option Tb}{T:Tree}(h:cQ w B a g tr n T){k:Nat}{ty:TypeId}{cs:Array Value}(hr:Row w k ty cs)(h1:ty≠j5)(h2:ty≠FV):¬SF a g tr k:=by
 rintro(rfl|rfl|⟨t,ht,hk⟩)
 .exact hr.ne h.top h1 rfl
 .exact h.now.cY hr rfl
 .have d:=h.aJb t ht
  obtain⟨_,o1,_⟩:=d.old;obtain⟨_,r1,_⟩:=d.rd;obtain⟨_,p1,_⟩:=d.wr;rcases hk with rfl|rfl|rfl|rfl
  .exact hr.ne d.top h2 rfl
  .exact o1.cY hr rfl
  .exact r1.cY hr rfl
  .exact p1.cY hr rfl
def Vd(fn:FuncId)(nm:ag)(args:List ag)(T:Tree)(aG:ag)(st:Int)(out err:ag)(T':Tree):Prop:=∀(w w0:World) (a g rb pb:Nat) (t:Tb) (p:Option Addr) (c:Nat),fN w0->Still w0 w->cQ w w0.heap.size a g (some t) 0 T->iC w pb a->¬RF (some t) pb->aLc w rb pb nm aG 0 [] []->¬SF a g (some t) rb->aIj w p c args->(∀ad,p=some ad->ad.block≠rb/\¬SF a g (some t) ad.block)->w0.heap.size<=rb->
 aH3 fn #[.pointer (some ⟨rb,0,none⟩),.slice p args.length c] w (λe w'=>e=.returned (.tuple #[])/\aLc w' rb pb nm aG st out err/\(∃n,n<=12/\cQ w' w0.heap.size a g (some t) n T')/\Mod (λk=>SF a g (some t) k\/k=rb) w w')
def ad0(p:Option Addr)(x:ag):aH3 Kg #[.pointer p,.string (S x),.int .i64 0] w (λe w'=>e=.returned (.tuple #[])/\w'=w):=by refine al8 _ _ _ _ _ ?_;exact aB (λh=>by cases h) (λ_=>⟨rfl,rfl⟩)
def awz{path nm:ag}(o:mg path nm)(h45:path≠[45]){T:Tree}{d:ag}(hf:ij T (kD nm)=⟨1,6,d⟩)(n aG:ag)(hd:d.length<=1000000):Vd FK n [path] T aG 0 d [] T:=by
 intro w w0 a g rb pb t p c aH9 h0 hst vv hrf hr hrb hA hAb yC;obtain⟨ad,rfl,hc⟩:=hA.get (j:=0) (by simp);have hc:w.cell? (ad.add 0)=some (.string (S path)):=hc;have hRF:¬RF (some t) rb:=λh=>hrb (RF.sf h);refine amj _ _ _ _ _ _ ?_;refine⟨λw2=>w2=w,aB (λh=>by simp at h) (λ_=>rfl),?_⟩;rintro _ w2 rfl;refine⟨λx w3=>(x=0/\w3=w2)\/(x=1/\aLc w3 rb pb n aG 0 d []/\cQ w3 w0.heap.size a g (some t) 3 T/\Mod (λk=>SF a g (some t) k\/k=rb) w2 w3),λx _=>(1-x).toNat,.inl ⟨rfl,rfl⟩,?_⟩;rintro x _ w3 (⟨rfl,rfl⟩|⟨rfl,h1,h2,h3⟩)
 .refine aB (λ_=>⟨by decide,by simp,_,hc,?_⟩) (λh=>by simp at h)
  refine aB (λh=>absurd (aT h) h45) (λ_=>?_);refine⟨_,hr.aj rfl,(abO aH9 h0 hst vv hrf o hf).mono ?_⟩;rintro _ w5 ⟨rfl,h5,m5⟩;have r5:aLc w5 rb pb n aG 0 [] []:=hr.mod m5 hRF;refine .inl ⟨_,_,rfl,(ad0 _ _).mono ?_⟩;rintro _ w6 ⟨rfl,rfl⟩;refine .inl ⟨rfl,_,r5.aj rfl,by simp;omega,?_⟩;refine aH5 (g:=rb) (o:=4) r5 (by simp) (by simp[Value.oneCell']) λw7 r7 m7 z7=>⟨.inr ⟨by decide,r7,h5.mod m7 λk hk e=>hrb (e▸hk),?_⟩,by dsimp only;decide⟩;exact Mod.trans (m5.weaken λ_ h=>.inl (RF.sf h)) m7 (λ_ h=>h) λ_ _ h=>.inr h
 .exact aB (λh=>by simp at h) (λ_=>⟨rfl,h1,⟨3,by decide,h2⟩,h3⟩)
def awA{path nm:ag}(o:mg path nm)(hnm:nm≠[46])(hi:Lib.lastIndexByte (S (47::nm)) 47=0){T:Tree}(hT:iV T)(n:ag){aG:ag}(hd:aG.length<=50000):Vd FL n [path] T aG 0 aG [] (aIw T nm aG false):=by
 intro w w0 a g rb pb t p c aH9 h0 hst vv hrf hr hrb hA hAb yC;obtain⟨ga,oa,rfl,hlt,hcl⟩:=hA.2 (by simp);have hc:w.cell? ((Addr.mk ga oa none).add (0*1))=some (.string (S path)):=hcl 0 _ rfl;obtain⟨hne,hnS⟩:ga≠rb/\¬SF a g (some t) ga:=hAb _ rfl;refine amk _ _ _ _ _ _ ?_;refine aB (λh=>by simp at h) (λ_=>⟨_,hr.aj rfl,?_⟩);refine aH5 (g:=rb) (o:=4) hr (by simp) (by simp[Value.oneCell']) λw1 r1 m1 z1=>?_;have sD:Still w1 w1.drew:=(Still.refl _).cK;have rD:aLc w1.drew rb pb n aG 0 aG []:=r1.still sD;have cD:w1.drew.cell? ((Addr.mk ga oa none).add (0*1))=some (.string (S path)):=sD.cell ((World.cell?_of_block (m1.block _ hlt hne)).trans hc);have hD:=(hst.mod m1 λk hk e=>hrb (e▸hk)).still sD;have hpb:pb≠rb:=Row.ne vv hr (by decide);have pD:iC w1.drew pb a:=(Row.mod vv m1 hpb).still sD;have mD:Mod (λk=>k=rb) w w1.drew:=m1.trans sD (λ_ h=>h) (λ_ _ h=>h.elim);have lD:Still w0 w1.drew:=Mod.trans h0 mD (λ_ h=>h) λj hj e=>by omega
 have hlD:ga<w1.drew.heap.size:=mK hlt mD.size;refine⟨λwq=>wq.cell? ((Addr.mk ga oa none).add (0*1))=some (.string (S path))/\aLc wq rb pb n aG 0 aG [],⟨cD,rD⟩,by decide,by simp,_,λwq hq=>hq.1,_,λwq hq=>hq.2.aj rfl,by decide,by simp,_,λwq hq=>hq.1,_,λwq hq=>hq.2.aj rfl,?_⟩;refine(RG aH9 lD hD pD hrf o hnm hi hT aG false hd).mono ?_;rintro _ w2 ⟨rfl,h2,m2⟩;have c2:w2.cell? ((Addr.mk ga oa none).add (0*1))=some (.string (S path)):=(World.cell?_of_block (m2.block _ hlD λh=>hnS (WF.sf h))).trans cD;have r2:aLc w2 rb pb n aG 0 aG []:=rD.mod m2 λh=>hrb (WF.sf h);refine .inl ⟨_,rfl,⟨c2,r2⟩,(ad0 _ _).mono ?_⟩;rintro _ w3 ⟨rfl,rfl⟩;exact .inl ⟨rfl,rfl,r2,⟨5,by decide,h2⟩,Mod.trans (mD.weaken λ_ h=>.inr h) m2 (λ_ h=>h) λ_ _ h=>.inl (WF.sf h)⟩
def ac4{f0:ag}{fr:List ag}{fn:FuncId}(hm:(f0,fn)∈B_){T T':Tree}{aG:ag}{st:Int}{out err:ag}(hf:Vd fn f0 fr T aG st out err T'):rE T (f0::fr) aG st out err T':=by
 intro w w0 a g pb t p c B aH9 h0 hst vv hrf ho;refine YX _ _ _ _ _ _ _ ?_;refine aP λwA r0 s0 z0=>l9 ?_;have s1:Still w (wA.alloc (.map #[] 0)):=s0.trans ((Mod.refl _ _).alloc _);have za:w.heap.size<=wA.heap.size:=s0.size;have rr:Row (wA.alloc (.map #[] 0)) w.heap.size 35 ⟨[.int .i64 0,.string (S []),.string (S [])]⟩:=r0.still ((Mod.refl _ _).alloc _);have f1:=oB.new wA;generalize wA.alloc (.map #[] 0)=w1 at*;refine dJ gL f1 (by decide) rfl λw2 f2 m2 z2=>?_;refine dJ gL f2 (by decide) rfl λw3 f3 m3 z3=>?_;refine dJ gL f3 (by decide) rfl λw4 f4 m4 z4=>?_;refine dJ gL f4 (by decide) rfl λw5 f5 m5 z5=>?_;refine dJ gL f5 (by decide) rfl λw6 f6 m6 z6=>?_;refine dJ gL f6 (by decide) rfl λw7 f7 m7 z7=>?_;refine dJ gL f7 (by decide) rfl λw8 f8 m8 z8=>?_;refine dJ gL f8 (by decide) rfl λw9 f9 m9 z9=>?_;refine dJ gL f9 (by decide) rfl λaO f10 m10 pz=>?_;refine dJ gL f10 (by decide) rfl λaX f11 m11 xh=>?_;refine dJ gL f11 (by decide) rfl λaH4 f12 m12 z12=>?_;refine dJ gL f12 (by decide) rfl λbl f13 m13 vz=>?_;refine dJ gL f13 (by decide) rfl λbH f14 m14 NU=>?_;refine dJ gL f14 (by decide) rfl λbQ f15 m15 I8=>?_;refine dJ gL f15 (by decide) rfl λbW f16 m16 Wy=>?_;have fl:oB bW wA.heap.size (MX B_):=f16;have oh:=(((((((((((((((s1.box za m2).box za m3).box za m4).box za m5).box za m6).box za m7).box za m8).box za m9).box za m10).box za m11).box za m12).box za m13).box za m14).box za m15).box za m16);clear f1 f2 f3 f4 f5 f6 f7 f8 f9 f10 f11 f12 f13 f14 f15 f16;have r16:Row bW w.heap.size 35 ⟨[.int .i64 0,.string (S []),.string (S [])]⟩:=(((((((((((((((rr.mod m2 (by omega)).mod m3 (by omega)).mod m4 (by omega)).mod m5 (by omega)).mod m6 (by omega)).mod m7 (by omega)).mod m8 (by omega)).mod m9 (by omega)).mod m10 (by omega)).mod m11 (by omega)).mod m12 (by omega)).mod m13 (by omega)).mod m14 (by omega)).mod m15 (by omega)).mod m16 (by omega));refine aB (λh=>absurd (aT h) (by simp;omega)) (λ_=>?_);have Ik:=ho.still oh;have hA:=aIj.of Ik;obtain⟨ad,hp,hc⟩:=hA.get (j:=0) (by simp);subst hp;refine⟨by decide,by simp,_,hc,?_⟩;refine aeG gL abV fl (eo.2 ⟨(f0,fn),hm,rfl⟩) ?_;refine aB (λh=>by cases h) (λ_=>⟨by decide,by simp,_,hc,?_⟩);refine aP λeL Cx aJO z21=>⟨by decide,by simp;omega,?_⟩;refine zG (cap:=[]) (aB (λ_=>?_) (λh=>by rw[ql.1 aoH _ hm]at h;cases h));have M_:=oh.trans aJO;have ayI:=hst.still M_;have hsz:=oh.size;have hz0:=h0.size;have hnew:∀k,w.heap.size<=k->¬SF a g (some t) k:=λk hk h=>by have:=(hst.me h).2;omega
 have har:=Ik.typed rfl;have hblk:∀Jh,(if c=Int.toNat 1 then some ad else Option.map (·.add (Int.toNat 1*1)) (some ad))=some Jh->Jh.block≠bW.heap.size/\¬SF a g (some t) Jh.block:=λJh h=>by
  have hb:Jh.block=ad.block:=by
   split at h
   .exact(bM h)▸rfl
   .exact(bM h)▸rfl
  rw[hb];obtain⟨gq,o,e,hlt,_⟩:=hA.2 (by simp);obtain rfl:=bM e;obtain⟨gr,cap,cur,hv,_,hrow,_⟩:=Ik.row (by simp);injection hv with e1 e2 e3;obtain⟨rfl,rfl⟩:gq=gr/\o=0:=by have:=bM e1;injection this with x1 x2;exact⟨x1,x2⟩
  exact⟨FP hlt,(hst.still oh).typed hrow (by decide) (by decide)⟩
 refine(hf eL w0 a g bW.heap.size pb t _ _ aH9 (h0.trans M_) ayI (vv.still M_) hrf Cx (hnew _ hsz) (hA.still aJO).tail hblk (by omega)).mono ?_;rintro _ aIf ⟨rfl,CQ,⟨n,hn,ayJ⟩,m22⟩;refine .inl ⟨rfl,_,_,_,CQ.aj rfl,CQ.aj rfl,CQ.aj rfl,?_⟩;have yL:Row aIf w.heap.size 35 ⟨[.int .i64 0,.string (S []),.string (S [])]⟩:=(r16.still aJO).mod m22 (by
  have:=r16.lt;rintro(h|h)
  .exact hnew _ (aW _) h
  .omega)
 refine aH5 (g:=w.heap.size) (o:=0) yL (by simp) (by simp[Value.oneCell']) λkI Cy m23 z23=>?_;have mA:Mod (SF a g (some t)) w aIf:=Mod.trans M_ m22 (λ_ h=>h.elim) λj hj h=>h.elim id λe=>by omega
 exact⟨_,_,_,Cy.aj rfl,Cy.aj rfl,Cy.aj rfl,rfl,⟨n,hn,ayJ.mod m23 λk hk e=>hnew _ (aW _) (e▸hk)⟩,Mod.trans mA m23 (λ_ h=>h) λj hj e=>by omega⟩
def ab3{T:Tree}:∀{ts:List ag},(∀t∈ts,P.qu t=false/\t.length<1000000)->HV T ts (ts.map P.plain)
 |[],_=>rfl
 |t::ts,h=>⟨[P.plain t],ts.map P.plain,arj (h t (by simp)).1 (h t (by simp)).2,ab3 λx hx=>h x (by simp[hx]),rfl⟩
def arC{T:Tree}{V V':List A.Vr}{ps:List L.Pt}{gs:List F.Sg}{ts out:List ag}(ok:AF V ps (.ok (gs,V')))(hi:(aJ4 V').length<=1000000)(hf:F.pQ (aJ4 V') gs=ts)(ht:∀t∈ts,P.qu t=false/\t.length<1000000)(ho:ts.map P.plain=out)(hl:out.length<=1000):Eb T V ps out V' 0:=by
 have hlt:ts.length<=1000:=by rw[<-ho,aIB]at hl;exact hl
 exact .inl ⟨rfl,gs,ok,hi,by rw[hf,<-ho];exact ab3 ht,hl,by rw[hf];exact hlt⟩
def ad1:rV []:=⟨by simp[A.BV],λv hv=>by cases hv⟩
def avh{T:Tree}{q:Bool}{t:ag}(hl:t.length<=1000)(hf:(F.pQ [32,9,10] [⟨if q then 1 else 0,t⟩]).map P.plain=[t])(hs:((F.pQ [32,9,10] [⟨if q then 1 else 0,t⟩]).all λx=>!P.qu x&&decide (x.length<1000000))=true):Eb T [] [⟨0,q,t,[],[],[]⟩] [t] [] 0:=by
 have hr:aJ3 [⟨0,q,t,[],[],[]⟩] []=some (.ok ([⟨if q then 1 else 0,t⟩],[])):=rfl;refine arC (gs:=[⟨if q then 1 else 0,t⟩]) ⟨ad1,?_,(by show 1<=900;decide),?_,hr,(by show 1<=1000;decide),?_⟩ (by decide) rfl (λx hx=>?_) hf (by show 1<=1000;decide)
 .show 0+(t.length+1+0)<=50000
  omega
 .intro x hx
  obtain rfl:=aIA.1 hx;show(0:Int)≠2
  decide
 .show(2*t.length+1+0)<=500000
  omega
 .have:=ql.1 hs x hx
  simpa using this
def Iq(l:List (Bool×ag)):List (List L.Pt):=l.map λx=>[⟨0,x.1,x.2,[],[],[]⟩]
def ye(x:Bool×ag):Bool:=decide (x.2.length<=1000)&&(decide ((F.pQ [32,9,10] [⟨if x.1 then 1 else 0,x.2⟩]).map P.plain=[x.2])&&(F.pQ [32,9,10] [⟨if x.1 then 1 else 0,x.2⟩]).all λx=>!P.qu x&&decide (x.length<1000000))
def ac5{T:Tree}:∀{l:List (Bool×ag)},l.all ye=true->Ev T (Iq l) [] (l.map Prod.snd) [] 0
 |[],_=>⟨rfl,rfl,rfl⟩
 |x::r,h=>by obtain⟨q,t⟩:=x;rw[zq,eC]at h;obtain⟨h1,h2⟩:=h;simp only[ye,eC,kQ]at h1;exact⟨[],[t],0,avh h1.1 h1.2.1 h1.2.2,.inr ⟨rfl,_,ac5 h2,rfl⟩⟩
def ac6{t:ag}(hl:t.length<=1000)(q:Bool):AF [] [⟨0,q,t,[],[],[]⟩] (.ok ([⟨if q then 1 else 0,t⟩],[])):=by
 refine⟨ad1,?_,(by show 1<=900;decide),?_,rfl,(by show 1<=1000;decide),?_⟩
 .show 0+(t.length+1+0)<=50000
  omega
 .intro x hx
  obtain rfl:=aIA.1 hx;show(0:Int)≠2
  decide
 .show(2*t.length+1+0)<=500000
  omega
def RM(q:Bool)(t:ag):F.joined false [⟨if q then 1 else 0,t⟩]=t:=by cases q<;>simp[F.joined,F.aJf]
def LQ{n:L.Nd}{l:List (Bool×ag)}{f0:ag}{fr:List ag}{s s2:Sh}{x1:rJ}{nm:ag}{st:Int}{out:ag}{T':Tree}(hk:n.k=0)(hw:s.way=0)(hfu:0<s.fuel)(rT:n.ws=Iq l)(has:n.gF=[])(hl:l.all ye=true)(kJ:l.map Prod.snd=f0::fr)(hV:s.V=[])(hsz:b8 (f0::fr)<=900)(hrl:n.rs.length<=10000)(he:s.err.length<=900000)(hn:f0∉u9)
  (hr:sN n.rs {s with fuel:=s.fuel-1,last:=-1} ⟨s.aG,[],false,false⟩ s2 x1)(ht:rE s2.T (f0::fr) x1.aG st out [] T')(hT:iV T')(hb:0<s2.b_)(hin:x1.aG.length<=50000)(hV2:s2.V=[])(ho:s2.out.length+out.length<=1000000000)(sX:s2.err.length<=1000000)
  (hx:x1.is=true->1<s2.b_/\mg x1.dst nm/\nm≠[46]/\Lib.lastIndexByte (S (47::nm)) 47=0/\((aIr T' (47::nm)).d++out).length<=50000):
  jH n s (aKC x1 s2 {s2 with aG:=x1.aG,T:=T',b_:=s2.b_-1,st:=st,out:=(if x1.is then[]else s2.out)++out,err:=s2.err++[]} nm):=by
 refine HX (.inr (.inr (.inr hk))) hw hfu ?_;rw[show Ez n.k=C5 by rw[hk];rfl];have hlw:l.length<=3000:=by have:=gK List.length kJ;rw[aIB]at this;have:=DN (f0::fr);omega
 have hfz:f0.length<=b8 (f0::fr):=Tk (by simp);refine atm (s:={s with fuel:=s.fuel-1}) (f:=f0::fr) (V1:=[]) (s2:=s2) (s3:={s2 with aG:=x1.aG,T:=T',b_:=s2.b_-1,st:=st,out:=(if x1.is then[]else s2.out)++out,err:=s2.err++[]}) (x1:=x1) (nm:=nm) ?_ (by omega) (by rw[rT,Iq,aIB];omega) hrl he ?_ ?_ (λh=>?_)
 .rw[rT,<-kJ]
  show Ev s.T (Iq l) s.V _ [] 0;rw[hV];exact ac5 hl
 .have:({s with fuel:=s.fuel-1,last:=-1,V:=[]}:Sh)={s with fuel:=s.fuel-1,last:=-1}:=by rw[<-hV]
  show sN n.rs ({s with fuel:=s.fuel-1,last:=-1,V:=[]}:Sh) _ _ _;rw[this];exact hr
 .rw[has]
  refine atl (s:={s2 with aG:=x1.aG,out:=if x1.is then[]else s2.out}) hn (by omega) ht hT hb (by omega) hin ?_ ?_ ?_ ?_
  .show s2.V.length<900000
   rw[hV2];decide
  .show∀v∈s2.V,_
   rw[hV2];intro v hv;cases hv
  .show(if x1.is then[]else s2.out:ag).length+out.length<=_
   split
   .rw[cm];omega
   .exact ho
  .exact sX
 .obtain⟨h1,h2,h3,h4,h5⟩:=hx h
  refine⟨?_,h2,h3,h4,?_⟩
  .show 0<s2.b_-1
   omega
  .show((aIr T' (47::nm)).d++((if x1.is then[]else s2.out)++out)).length<=50000
   rw[h,aR rfl,zm];exact h5
def mW(l:List (Bool×ag))(rs:List (ag×ag)):L.Nd:=⟨0,false,[],Iq l,[],rs.map λr=>(r.1,[⟨0,false,r.2,[],[],[]⟩]),[],[]⟩
def ahk(s:Sh)(st:Int)(out:ag)(T':Tree):Sh:={s with fuel:=s.fuel-1,last:=-1,T:=T',b_:=s.b_-1,st:=st,out:=s.out++out}
structure N4(s:Sh)(k:Nat):Prop where
 way:s.way=0
 fuel:0<s.fuel
 vars:s.V=[]
 err:s.err=[]
 b_:k<s.b_
 aG:s.aG.length<=50000
 sY:iV s.T
 out:s.out.length<=900000000
def Li{l:List (Bool×ag)}{f0:ag}{fr:List ag}{s:Sh}{st:Int}{out:ag}{T':Tree}(h:N4 s 0)(hl:l.all ye=true)(kJ:l.map Prod.snd=f0::fr)(hsz:b8 (f0::fr)<=900)(hn:f0∉u9)(ht:rE s.T (f0::fr) s.aG st out [] T')(hT:iV T')(ho:out.length<=50000000):jH (mW l []) s (ahk s st out T'):=by have:=LQ (n:=mW l []) (s:=s) (s2:={s with fuel:=s.fuel-1,last:=-1}) (x1:=⟨s.aG,[],false,false⟩) (nm:=[]) rfl h.way h.fuel rfl rfl hl kJ h.vars hsz (by show 0<=10000;decide) (by rw[h.err];decide) hn ⟨rfl,rfl⟩ ht hT h.b_ h.aG h.vars (by have:=h.out;show s.out.length+out.length<=_;omega) (by show s.err.length<=_;rw[h.err];decide) (λh=>by cases h);simpa[aKC,ahk]using this
def ahl(s:Sh)(st:Int)(T':Tree):Sh:={s with fuel:=s.fuel-1,last:=-1,T:=T',b_:=s.b_-3,st:=st}
def ad2{l:List (Bool×ag)}{f0:ag}{fr:List ag}{s:Sh}{st:Int}{out:ag}{T':Tree}{dst nm:ag}(h:N4 s 3)(hl:l.all ye=true)(kJ:l.map Prod.snd=f0::fr)(hsz:b8 (f0::fr)<=900)(hn:f0∉u9)(o:mg dst nm)(hnm:nm≠[46])(hi:Lib.lastIndexByte (S (47::nm)) 47=0)
  (ht:rE (aIw s.T nm [] false) (f0::fr) s.aG st out [] T')(hT:iV T')(ho:out.length<=50000)(hx:((aIr T' (47::nm)).d++out).length<=50000):jH (mW l [([62],dst)]) s (ahl s st (aIw T' nm out true)):=by
 have hd:=o.len;have hb:=h.b_;have hR:sN (mW l [([62],dst)]).rs {s with fuel:=s.fuel-1,last:=-1} ⟨s.aG,[],false,false⟩ {s with fuel:=s.fuel-1,last:=-1,T:=aIw s.T nm [] false,b_:=s.b_-1} ⟨s.aG,dst,false,true⟩:=by
  refine⟨[⟨0,dst⟩],nm,?_,?_,(by show 0<s.b_;omega),.inr ⟨rfl,hnm,hi,rfl,?_⟩⟩
  .show AF s.V _ (.ok (_,s.V))
   rw[h.vars];exact ac6 (q:=false) (by show dst.length<=1000;omega)
  .rw[show F.joined false [⟨0,dst⟩]=dst from RM false dst]
   exact o
  .show(⟨s.aG,dst,false,true⟩:rJ)=⟨s.aG,F.joined false [⟨0,dst⟩],false,true⟩
   rw[show F.joined false [⟨0,dst⟩]=dst from RM false dst]
 have:=LQ (n:=mW l [([62],dst)]) (s:=s) (s2:={s with fuel:=s.fuel-1,last:=-1,T:=aIw s.T nm [] false,b_:=s.b_-1}) (x1:=⟨s.aG,dst,false,true⟩) (nm:=nm) rfl h.way h.fuel rfl rfl hl kJ h.vars hsz (by show 1<=10000;decide) (by rw[h.err];decide) hn hR ht hT (by show 0<s.b_-1;omega) h.aG h.vars (by have:=h.out;show s.out.length+out.length<=_;omega) (by show s.err.length<=_;rw[h.err];decide) (λ_=>⟨by show 1<s.b_-1;omega,o,hnm,hi,hx⟩);have e:s.b_-1-1-1=s.b_-3:=by omega
 simpa[aKC,ahl,e]using this
def aeX:ag:=[101,99,104,111,32,39,97,32,98,39,32,124,32,115,111,114,116,32,62,32,102,59,32,99,97,116,32,102]
def aeY:L.Nd:=⟨3,false,[],[],[],[],[],[⟨1,false,[],[],[],[],[],[mW [(false,[101,99,104,111]),(true,[97,32,98])] [],mW [(false,[115,111,114,116])] [([62],[102])]]⟩,mW [(false,[99,97,116]),(false,[102])] []]⟩
def aqn:L.aJu aeX=(aeY,0):=by kernel_rfl
def ac7{a b:L.Nd}{s t1 t2:Sh}(hw:s.way=0)(hf:0<s.fuel)(he:s.aJI≠220)(h1:jH a {s with fuel:=s.fuel-1,out:=[],way:=0,loops:=0} t1)(e1:t1.aJI≠220)
  (h2:jH b {Ad {s with fuel:=s.fuel-1} t1 with st:=t1.st,aG:=t1.out,out:=[],way:=0,loops:=0} t2)(e2:t2.aJI≠220)(ho:s.out.length+t2.out.length<=1000000000):
  jH ⟨1,false,[],[],[],[],[],[a,b]⟩ s {Ad {Ad {s with fuel:=s.fuel-1} t1 with st:=t1.st} t2 with st:=t2.st,out:=s.out++t2.out}:=by
 refine HX (.inr (.inr (.inl rfl))) hw hf ?_;exact ato (n:=⟨1,false,[],[],[],[],[],[a,b]⟩) (s:={s with fuel:=s.fuel-1}) (o:=t2.out) (s':={Ad {Ad {s with fuel:=s.fuel-1} t1 with st:=t1.st} t2 with st:=t2.st}) (by show 2≠1;decide) rfl ⟨hw,he,t1,h1,e1,hw,e1,t2,h2,e2,rfl,rfl⟩ (by show 2<=100000;decide) ho
def avi{a b:L.Nd}{s s1 s2:Sh}(hw:s.way=0)(hf:0<s.fuel)(h1:jH a {s with fuel:=s.fuel-1} s1)(h2:jH b s1 s2):jH ⟨3,false,[],[],[],[],[],[a,b]⟩ s s2:=by refine HX (.inl rfl) hw hf ?_;exact Tl (n:=⟨3,false,[],[],[],[],[],[a,b]⟩) (s:={s with fuel:=s.fuel-1}) ⟨s1,h1,s2,h2,rfl⟩ (by show 2<=100000;decide)
def afT:mg [102] [102]:=⟨by kernel_rfl,by decide,by decide,by decide,by kernel_rfl,by decide⟩
def avj:HW [] [97,32,98,10]=[97,32,98,10]:=by
 have h:cR [97,32,98,10]=[[97,32,98]]:=by kernel_rfl
 unfold HW;rw[aR rfl,h,gY,List.mergeSort_singleton];rfl
def avk:∃s',jH aeY (B0 [] [] 20) s'/\s'.st=0/\s'.out=[97,32,98,10]/\s'.err=[]:=by
 have nil:iV []:=λx hx=>by cases hx
 have ft:iV (aIw [] [102] [] false):=nil.put _ _;have ft2:iV (aIw (aIw [] [102] [] false) [102] [97,32,98,10] true):=ft.put _ _;have tE:rE [] [[101,99,104,111],[97,32,98]] [] 0 [97,32,98,10] [] []:=DF (fn:=Dp) (by decide) (by decide) (by decide) (abR (args:=[[97,32,98]]) [] (by decide) (by decide)) [];have tS:rE (aIw [] [102] [] false) [[115,111,114,116]] [97,32,98,10] 0 [97,32,98,10] [] (aIw [] [102] [] false):=by have:=DF (f0:=[115,111,114,116]) (fn:=Bo) (by decide) (by decide) (by decide) (R2 (args:=[]) (.inl rfl) (aG:=[97,32,98,10]) (by decide)) (aIw [] [102] [] false);rw[avj]at this;exact this
 have tC:rE (aIw (aIw [] [102] [] false) [102] [97,32,98,10] true) [[99,97,116],[102]] [] 0 [97,32,98,10] [] (aIw (aIw [] [102] [] false) [102] [97,32,98,10] true):=
  ac4 (fn:=FK) (by decide) (awz afT (by decide) (d:=[97,32,98,10]) (by kernel_rfl) _ _ (by decide))
 refine⟨_,avi rfl (by decide) (ac7 rfl (by decide) (by decide) (Li (l:=[(false,[101,99,104,111]),(true,[97,32,98])]) ⟨rfl,by decide,rfl,rfl,by decide,by decide,nil,by decide⟩ (by kernel_rfl) rfl (by decide) (by decide) tE nil (by decide)) (by decide)
  (ad2 (l:=[(false,[115,111,114,116])]) (dst:=[102]) (nm:=[102]) ⟨rfl,by decide,rfl,rfl,by decide,by decide,nil,by decide⟩ (by kernel_rfl) rfl (by decide) (by decide) afT (by decide) (by kernel_rfl) tS ft (by decide) (by decide)) (by decide) (by decide))
  (Li (l:=[(false,[99,97,116]),(false,[102])]) ⟨rfl,by decide,rfl,rfl,by decide,by decide,ft2,by decide⟩ (by kernel_rfl) rfl (by decide) (by decide) tC ft2 (by decide)),rfl,rfl,rfl⟩
end Go.Proofs.YtihaaoehhgmphaaGreatDoor
namespace Go.Proofs.YtihaaoehhgmphaaGreatDoor
open IntKind Go.RowKit Vc
set_option maxRecDepth 100000
def uA:List ag->ag
 |[]=>[]
 |[x]=>x
 |x::r=>x++[32]++uA r
def Ae(l:List ag):List (Bool×ag):=l.map λt=>(false,t)
def afU(p q:List ag):ag:=uA p++[32,124,32]++uA q
def B8(p q:List ag):L.Nd:=⟨3,false,[],[],[],[],[],[⟨1,false,[],[],[],[],[],[mW (Ae p) [],mW (Ae q) []]⟩]⟩
def afV(p q:List ag):ag:=[116,101,101,32,105,32,62,32,47,111,59,32]++uA p++[32,60,32,105,32,62,32,111,59,32]++uA q++[32,60,32,111]
def afW(p q:List ag):L.Nd:=⟨3,false,[],[],[],[],[],[mW [(false,[116,101,101]),(false,[105])] [([62],[47,111])],mW (Ae p) [([60],[105]),([62],[111])],mW (Ae q) [([60],[111])]]⟩
def arD:∀p∈nY,∀q∈nY,L.aJu (afU p q)=(B8 p q,0):=by intro p hp q hq;simp only[nY,iQ,vO,vZ]at hp hq;rcases hp with rfl|rfl|rfl|rfl|rfl|rfl|rfl|rfl|rfl|rfl<;>rcases hq with rfl|rfl|rfl|rfl|rfl|rfl|rfl|rfl|rfl|rfl<;>kernel_rfl
def arE:∀p∈nY,∀q∈nY,L.aJu (afV p q)=(afW p q,0):=by intro p hp q hq;simp only[nY,iQ,vO,vZ]at hp hq;rcases hp with rfl|rfl|rfl|rfl|rfl|rfl|rfl|rfl|rfl|rfl<;>rcases hq with rfl|rfl|rfl|rfl|rfl|rfl|rfl|rfl|rfl|rfl<;>kernel_rfl
end Go.Proofs.YtihaaoehhgmphaaGreatDoor
namespace Go.Proofs.YtihaaoehhgmphaaGreatDoor
open IntKind Go.RowKit Vc
set_option maxRecDepth 100000
variable{w w0:World}
def aLQ{V:List A.Vr}(hV:V=[]){t:ag}(hl:t.length<=1000):AF V [⟨0,false,t,[],[],[]⟩] (.ok ([⟨0,t⟩],V)):=by subst hV;exact ac6 (q:=false) hl
def K8(t:ag):F.joined false [⟨0,t⟩]=t:=RM false t
def inS(s:Sh)(st:Int)(out:ag)(T':Tree):Sh:={s with fuel:=s.fuel-1,last:=-1,T:=T',b_:=s.b_-2,st:=st,out:=s.out++out}
def axV{l:List (Bool×ag)}{f0:ag}{fr:List ag}{s:Sh}{st:Int}{out d:ag}{T':Tree}{src nm:ag}(h:N4 s 2)(hl:l.all ye=true)(kJ:l.map Prod.snd=f0::fr)(hsz:b8 (f0::fr)<=900)(hn:f0∉u9)(o:mg src nm)(hd:ij s.T (kD nm)=⟨1,6,d⟩)(hdl:d.length<=50000)
  (ht:rE s.T (f0::fr) d st out [] T')(hT:iV T')(ho:out.length<=50000000):jH (mW l [([60],src)]) s (inS s st out T'):=by
 have gT:=o.len;have hb:=h.b_;have hR:sN (mW l [([60],src)]).rs {s with fuel:=s.fuel-1,last:=-1} ⟨s.aG,[],false,false⟩ {s with fuel:=s.fuel-1,last:=-1,b_:=s.b_-1} ⟨d,[],true,false⟩:=by refine⟨[⟨0,src⟩],nm,aLQ h.vars (by show src.length<=1000;omega),by rw[K8];exact o,(by show 0<s.b_;omega),.inl ⟨rfl,d,hd,rfl,rfl⟩⟩
 have:=LQ (n:=mW l [([60],src)]) (s:=s) (s2:={s with fuel:=s.fuel-1,last:=-1,b_:=s.b_-1}) (x1:=⟨d,[],true,false⟩) (nm:=[]) rfl h.way h.fuel rfl rfl hl kJ h.vars hsz (by show 1<=10000;decide) (by rw[h.err];decide) hn hR ht hT (by show 0<s.b_-1;omega) hdl h.vars (by have:=h.out;show s.out.length+out.length<=_;omega) (by show s.err.length<=_;rw[h.err];decide) (λh=>by cases h);have e:s.b_-1-1=s.b_-2:=by omega
 simpa[aKC,inS,e]using this
def aeZ(s:Sh)(st:Int)(T':Tree):Sh:={s with fuel:=s.fuel-1,last:=-1,T:=T',b_:=s.b_-4,st:=st}
def atx{l:List (Bool×ag)}{f0:ag}{fr:List ag}{s:Sh}{st:Int}{out d:ag}{T':Tree}{src N5 dst nm:ag}(h:N4 s 4)(hl:l.all ye=true)(kJ:l.map Prod.snd=f0::fr)(hsz:b8 (f0::fr)<=900)(hn:f0∉u9)(o0:mg src N5)(hd:ij s.T (kD N5)=⟨1,6,d⟩)(hdl:d.length<=50000)(o:mg dst nm)(hnm:nm≠[46])(hi:Lib.lastIndexByte (S (47::nm)) 47=0)
  (ht:rE (aIw s.T nm [] false) (f0::fr) d st out [] T')(hT:iV T')(ho:out.length<=50000)(hx:((aIr T' (47::nm)).d++out).length<=50000):jH (mW l [([60],src),([62],dst)]) s (aeZ s st (aIw T' nm out true)):=by
 have gT:=o0.len;have aGY:=o.len;have hb:=h.b_;have hR:sN (mW l [([60],src),([62],dst)]).rs {s with fuel:=s.fuel-1,last:=-1} ⟨s.aG,[],false,false⟩ {s with fuel:=s.fuel-1,last:=-1,T:=aIw s.T nm [] false,b_:=s.b_-1-1} ⟨d,dst,true,true⟩:=by refine⟨[⟨0,src⟩],N5,aLQ h.vars (by show src.length<=1000;omega),by rw[K8];exact o0,(by show 0<s.b_;omega),.inl ⟨rfl,d,hd,?_⟩⟩;refine⟨[⟨0,dst⟩],nm,aLQ h.vars (by show dst.length<=1000;omega),by rw[K8];exact o,(by show 0<s.b_-1;omega),.inr ⟨rfl,hnm,hi,rfl,?_⟩⟩;rw[K8]
 have:=LQ (n:=mW l [([60],src),([62],dst)]) (s:=s) (s2:={s with fuel:=s.fuel-1,last:=-1,T:=aIw s.T nm [] false,b_:=s.b_-1-1}) (x1:=⟨d,dst,true,true⟩) (nm:=nm) rfl h.way h.fuel rfl rfl hl kJ h.vars hsz (by show 2<=10000;decide) (by rw[h.err];decide) hn hR ht hT (by show 0<s.b_-1-1;omega) hdl h.vars (by have:=h.out;show s.out.length+out.length<=_;omega) (by show s.err.length<=_;rw[h.err];decide) (λ_=>⟨by show 1<s.b_-1-1;omega,o,hnm,hi,hx⟩);have e:s.b_-1-1-1-1=s.b_-4:=by omega
 simpa[aKC,aeZ,e]using this
def afX(p:List ag):Bool:=match p with
 |[]=>false
 |f0::fr=>(Ae (f0::fr)).all ye&&(decide (b8 (f0::fr)<=900)&&(decide (f0∉u9)&&((B_.all λx=>!decide (x.1=f0))&&decide (f0.length<=1000))))
def axW:nY.all afX=true:=by kernel_rfl
def K9(p:List ag):(Ae p).map Prod.snd=p:=by rw[Ae,Dm];exact QB p
structure Fo(f0:ag)(fr:List ag):Prop where
 lit:(Ae (f0::fr)).all ye=true
 sz:b8 (f0::fr)<=900
 own:f0∉u9
 Na:(B_.all λx=>!decide (x.1=f0))=true
 len:f0.length<=1000
def DY{f0:ag}{fr:List ag}(h:(f0::fr)∈nY):Fo f0 fr:=by have:=ql.1 axW _ h;simp only[afX,eC,kQ]at this;exact⟨this.1,this.2.1,this.2.2.1,this.2.2.2.1,this.2.2.2.2⟩
def avl{a:L.Nd}{s s1:Sh}(hw:s.way=0)(hf:0<s.fuel)(h1:jH a {s with fuel:=s.fuel-1} s1):jH ⟨3,false,[],[],[],[],[],[a]⟩ s s1:=by refine HX (.inl rfl) hw hf ?_;exact Tl (n:=⟨3,false,[],[],[],[],[],[a]⟩) (s:={s with fuel:=s.fuel-1}) ⟨s1,h1,rfl⟩ (by show 1<=100000;decide)
def WT:(0:Int)≠220:=by decide
def awB{f0 g0:ag}{fr gr:List ag}(hp:(f0::fr)∈nY)(hq:(g0::gr)∈nY){aG:ag}(hi:aG.length<=50000){fp fq:FuncId}{sp sq:Int}{op oq:ag}(mp:(f0,fp)∈aKD)(mq:(g0,fq)∈aKD)(h1:aI2 fp fr aG sp op)(h2:aI2 fq gr op sq oq)(l1:op.length<=50000)(l2:oq.length<=50000000):
  ∃s',jH (B8 (f0::fr) (g0::gr)) (B0 [] aG 120) s'/\s'.st=sq/\s'.out=oq/\s'.err=[]:=by
 have nil:iV []:=λx hx=>by cases hx
 have P:=DY hp;have Q:=DY hq;exact⟨_,avl rfl (vU _) (ac7 rfl (vU _) WT (Li ⟨rfl,vU _,rfl,rfl,vU _,hi,nil,dx _⟩ P.lit (K9 _) P.sz P.own (DF mp P.Na P.len h1 []) nil (by omega)) WT
  (Li ⟨rfl,vU _,rfl,rfl,vU _,l1,nil,dx _⟩ Q.lit (K9 _) Q.sz Q.own (DF mq Q.Na Q.len h2 []) nil l2) WT (by show 0+([]++oq:ag).length<=_;rw[zm];omega)),rfl,rfl,rfl⟩
def arF{a b c:L.Nd}{s s1 s2 s3:Sh}(hw:s.way=0)(hf:0<s.fuel)(h1:jH a {s with fuel:=s.fuel-1} s1)(h2:jH b s1 s2)(h3:jH c s2 s3):jH ⟨3,false,[],[],[],[],[],[a,b,c]⟩ s s3:=by refine HX (.inl rfl) hw hf ?_;exact Tl (n:=⟨3,false,[],[],[],[],[],[a,b,c]⟩) (s:={s with fuel:=s.fuel-1}) ⟨s1,h1,s2,h2,s3,h3,rfl⟩ (by show 3<=100000;decide)
def afY:mg [105] [105]:=⟨by kernel_rfl,by decide,by decide,by decide,by kernel_rfl,by decide⟩
def afZ:mg [111] [111]:=⟨by kernel_rfl,by decide,by decide,by decide,by kernel_rfl,by decide⟩
def axX:mg [47,111] [111]:=⟨by kernel_rfl,by decide,by decide,by decide,by kernel_rfl,by decide⟩
def Ui(aG:ag):Tree:=aIw (aIw (aIw [] [111] [] false) [105] aG false) [111] aG true
def af0(aG op:ag):Tree:=aIw (aIw (Ui aG) [111] [] false) [111] op true
def awC(aG:ag):ij (Ui aG) (kD [105])=⟨1,6,aG⟩:=by rfl
def awD(aG op:ag):ij (af0 aG op) (kD [111])=⟨1,6,op⟩:=by rfl
def aLM(aG:ag):iV (Ui aG):=by
 have nil:iV []:=λx hx=>by cases hx
 exact((nil.put _ _).put _ _).put _ _
def ad3(aG op:ag):iV (af0 aG op):=((aLM aG).put _ _).put _ _
def awE{f0 g0:ag}{fr gr:List ag}(hp:(f0::fr)∈nY)(hq:(g0::gr)∈nY){aG:ag}(hi:aG.length<=50000){fp fq:FuncId}{sp sq:Int}{op oq:ag}(mp:(f0,fp)∈aKD)(mq:(g0,fq)∈aKD)(h1:aI2 fp fr aG sp op)(h2:aI2 fq gr op sq oq)(l1:op.length<=50000)(l2:oq.length<=50000000):
  ∃s',jH (afW (f0::fr) (g0::gr)) (B0 [] aG 120) s'/\s'.st=sq/\s'.out=oq/\s'.err=[]:=by
 have nil:iV []:=λx hx=>by cases hx
 have P:=DY hp;have Q:=DY hq;have ft:=nil.put (47::[111]) ([]:ag);have tT:rE (aIw [] [111] [] false) [[116,101,101],[105]] aG 0 aG [] (aIw (aIw [] [111] [] false) [105] aG false):=ac4 (fn:=FL) (by decide) (awA afY (by decide) (by kernel_rfl) ft _ hi);exact⟨_,arF rfl (vU _)
  (ad2 (l:=[(false,[116,101,101]),(false,[105])]) (dst:=[47,111]) (nm:=[111]) ⟨rfl,vU _,rfl,rfl,(by show 3<1000;decide),hi,nil,dx _⟩ (by kernel_rfl) rfl (by decide) (by decide) axX (by decide) (by kernel_rfl) tT (ft.put _ _) hi (by show([]++aG:ag).length<=50000;rw[zm];exact hi))
  (atx (src:=[105]) (N5:=[105]) (dst:=[111]) (nm:=[111]) (d:=aG) ⟨rfl,vU _,rfl,rfl,(by show 4<997;decide),hi,aLM aG,dx _⟩ P.lit (K9 _) P.sz P.own afY (awC aG) hi afZ (by decide) (by kernel_rfl) (DF mp P.Na P.len h1 _) ((aLM aG).put _ _) l1 (by show([]++op:ag).length<=50000;rw[zm];exact l1))
  (axV (src:=[111]) (nm:=[111]) (d:=op) ⟨rfl,vU _,rfl,rfl,(by show 2<993;decide),hi,ad3 aG op,dx _⟩ Q.lit (K9 _) Q.sz Q.own afZ (awD aG op) l1 (DF mq Q.Na Q.len h2 _) (ad3 aG op) l2),rfl,rfl,rfl⟩
def ayK(st:Int)(out err:ag)(v:Value):Prop:=∃(p1:Option Addr) (n1 c1:Nat) (cw:ag) (p2:Option Addr) (n2 c2:Nat) (p3:Option Addr) (n3 c3:Nat) (i1 i2 i3 i4:Int),v=.agg #[.int .i64 st,.string (S out),.string (S err),.slice p1 n1 c1,.string (S cw),.slice p2 n2 c2,.slice p3 n3 c3,.int .i64 i1,.int .i64 i2,.int .i64 i3,.int .i64 i4]
def ac8(aH9:fN w){script aG:ag}{n:L.Nd}(hp:L.aJu script=(n,0)){s':Sh}(hex:jH n (B0 [] aG 120) s'):
  aH3 KZ #[.string (S script),.string (S aG)] w (λe w'=>∃a g v,e=.returned (.tuple #[.pointer (some ⟨a,0,none⟩),v])/\ayK s'.st s'.out s'.err v/\cQ w' w.heap.size a g none 0 s'.T/\iV s'.T/\Still w w'):=by
 refine aov _ _ _ _ ?_;refine aP λw1 r1 s1 z1=>RY.mono ?_;rintro _ w2 ⟨rfl,hst,s2,_⟩;refine .inl ⟨_,rfl,aB (λh=>by cases h) (λ_=>?_)⟩;refine(ac3 (aH9.still s1) s2 hst (λx hx=>by cases hx) script aG (fuel:=120) (by decide) hp hex).mono ?_;rintro _ w4 ⟨⟨p1,n1,c1,cw,p2,n2,c2,p3,n3,c3,i1,i2,i3,i4,rfl⟩,h4,hT,s4,z4⟩;have r4:=r1.still s4;refine .inl ⟨_,_,_,_,_,_,_,_,_,_,_,_,_,_,_,_,_,rfl,?_⟩;refine aH5 (g:=w.heap.size) (o:=0) r4 (by simp) (by simp[Value.oneCell']) λw5 r5 m5 z5=>?_;have hz:w.heap.size<w1.heap.size:=by omega
 refine⟨_,_,_,_,_,_,_,_,_,_,_,_,_,_,_,_,_,r5.aj rfl,r5.aj rfl,r5.aj rfl,r5.aj rfl,r5.aj rfl,r5.aj rfl,r5.aj rfl,r5.aj rfl,r5.aj rfl,r5.aj rfl,r5.aj rfl,?_⟩;refine⟨_,w1.heap.size,_,rfl,⟨_,_,_,_,_,_,_,_,_,_,_,_,_,_,rfl⟩,?_,hT,(s1.trans s4).box (aW _) m5⟩;have h5:=h4.mod m5 λk hk e=>by have:=(h4.me hk).1;omega
 exact⟨h5.top,h5.now,h5.aIh,⟨by have:=h5.low.1;omega,by have:=h5.low.2;omega⟩,λt ht=>by cases ht⟩
def yF(s:ag)(l:List ag):ag:=l.foldl (λs x=>(s++[32])++x) s
def ac9(s:ag)(l:List ag):(yF s l).length=s.length+b8 l:=by
 induction l generalizing s with
 |nil=>simp[yF,b8]
 |cons x r ih=>have:=ih ((s++[32])++x);simp only[yF,vQ]at this⊢;rw[this];simp[b8];omega
def RN:∀(l:List ag) (x:ag),yF x l=uA (x::l)
 |[],x=>rfl
 |y::r,x=>by
  have key:∀(l:List ag) (a b:ag),yF (a++b) l=a++yF b l:=by
   intro l
   induction l with
   |nil=>intro a b;rfl
   |cons z r ih=>intro a b;simp only[yF,vQ]at ih⊢;rw[mL a,mL a,ih]
  have h:=RN r y;show yF ((x++[32])++y) r=x++[32]++uA (y::r)
  rw[key,h]
def ab4{p:Option Addr}{c:Nat}{l:List ag}(h:aIj w p c l)(h0:l≠[])(hs:b8 l<=10000):aH3 KQ #[.slice p l.length c] w (λe w'=>e=.returned (.string (S (uA l)))/\w'=w):=by
 obtain⟨x,r,rfl⟩:∃x r,l=x::r:=by
  cases l with
  |nil=>exact absurd rfl h0
  |cons x r=>exact⟨x,r,rfl⟩
 refine an7 _ _ _ _ _ ?_;have hfx:b8 (x::r)=x.length+1+b8 r:=by simp[b8]
 obtain⟨a,rfl,hc0⟩:=h.get (j:=0) (by simp);refine⟨by decide,by simp,_,hc0,?_⟩;refine⟨λs i w1=>∃k:Nat,i=((k+1:Nat):Int)/\k<=r.length/\yF s (r.drop k)=uA (x::r)/\w1=w,λ_ i _=>((r.length:Int)+1-i).toNat,⟨0,rfl,dx _,RN r x,rfl⟩,?_⟩;rintro s _ _ w1 ⟨k,rfl,hk,ht,rfl⟩;have hl:=gK List.length ht;have hlr:=DN r;rw[ac9,<-RN,ac9]at hl;refine aB (λhx=>?_) (λhx=>?_)
 .have hx:=aT hx
  simp only[bf]at hx;have hkr:k<r.length:=by omega
  obtain⟨a',e,hck⟩:=h.get (j:=k+1) (by simp;omega);obtain rfl:=bM e;have hd:r.drop k=r[k]::r.drop (k+1):=mI hkr;have Nj:b8 (r.drop k)=r[k].length+1+b8 (r.drop (k+1)):=by rw[hd,b8,b8,fW,aIV]
  refine⟨by simp;omega,by omega,by simp;omega,_,by rw[bT];exact hck,by simp;omega,?_⟩;rw[wrap_i64 (by omega) (by omega)];refine⟨⟨k+1,by omega,hkr,?_,rfl⟩,by dsimp only;omega⟩;rw[<-ht,hd];rfl
 .have hx:=a_ hx
  simp only[bf]at hx;have:k=r.length:=by omega
  subst this;rw[vP]at ht;exact⟨by rw[<-ht];rfl,rfl⟩
def aty(a n:Nat):ym (λ_=>0) a n=List.replicate n 0:=List.eq_replicate_iff.2 ⟨by simp,λb hb=>by simp only[ym,eo]at hb;obtain⟨_,_,rfl⟩:=hb;rfl⟩
def arG:aH3 Qp #[.string (S [])] w (λe w'=>e=.returned (.tuple #[.slice none 0 0,.int .i64 0])/\w'=w):=by refine amF _ _ _ ?_;refine⟨λs p n c w1=>s=[]/\p=none/\n=0/\c=0/\w1=w,λ_ _ _ _ _=>0,⟨rfl,rfl,rfl,rfl,rfl⟩,?_⟩;rintro _ _ _ _ _ w1 ⟨rfl,rfl,rfl,rfl,rfl⟩;exact aB (λh=>by simp at h) (λ_=>⟨rfl,rfl⟩)
def arH:aH3 Qq #[.string (S (List.replicate 64 0))] w (λe w'=>e=.returned (.tuple #[.int .i64 0,.bool false])/\w'=w):=by refine amH _ _ _ ?_;refine(Tryz.strings_TrimRight_one (S (List.replicate 64 0)) 0 (by decide) w (by show List.length _<=_;decide)).mono ?_;rintro _ w1 ⟨rfl,rfl⟩;refine .inl ⟨[],rfl,(Tryz.strings_CutPrefix (S []) (S [49]) w1).mono ?_⟩;rintro _ w2 ⟨rfl,rfl⟩;refine .inl ⟨[],false,rfl,arG.mono ?_⟩;rintro _ w3 ⟨rfl,rfl⟩;exact .inl ⟨_,_,_,_,rfl,aB (λ_=>⟨rfl,rfl⟩) (λh=>by cases h)⟩
def arI{g b a n:Nat}{v:Value}(h0:0<n)(d:D.yR w g b (D.St.new n))(hr:Row w a 253 ⟨[.pointer (some ⟨g,0,none⟩),v,.int .i64 0]⟩):
  aH3 O1 #[.pointer (some ⟨a,0,none⟩)] w (λe w'=>e=.returned (.tuple #[.string (S []),.bool false])/\Still w w'):=by
 refine akc _ _ _ ?_;have sD:Still w w.drew:=(Still.refl w).cK;refine⟨λwq=>Still w wq,sD,_,λwq hq=>(hr.still hq).aj rfl,_,λwq hq=>(hr.still hq).aj rfl,?_⟩;refine(D.anu (d.mod sD (λh=>h) (λh=>h)) 0).mono ?_;rintro _ w1 ⟨rfl,rfl⟩;rw[aR ⟨Int.le_refl _,by show(0:Int)<(n:Int);omega⟩,show ym (D.St.new n).F (Int.toNat 0*64) 64=List.replicate 64 0 from aty _ _];refine .inl ⟨_,_,rfl,arH.mono ?_⟩;rintro _ w2 ⟨rfl,rfl⟩;have N6:Still w w.drew.drew:=sD.cK;exact .inl ⟨_,_,rfl,λwq=>Still w wq,N6,aB (λ_=>⟨N6,N6,rfl,N6⟩) (λh=>by cases h)⟩
def aqo{g b n:Nat}(h0:0<n)(d:D.yR w g b (D.St.new n)):aH3 Qn #[.pointer (some ⟨g,0,none⟩)] w (λe w'=>∃a,e=.returned (.pointer (some ⟨a,0,none⟩))/\w'.cell? ⟨a,1,none⟩=some (.slice none 0 0)/\Still w w'):=by refine amC _ _ _ ?_;refine aP λw1 r1 s1 z1=>⟨λw2=>w2=w1,λ_=>0,rfl,?_⟩;rintro _ w2 rfl;refine(arI h0 (d.mod s1 (λh=>h) (λh=>h)) r1).mono ?_;rintro _ w3 ⟨rfl,s3⟩;exact .inl ⟨_,_,rfl,aB (λ_=>⟨_,rfl,(r1.still s3).aj rfl,s1.trans s3⟩) (λh=>by cases h)⟩
def aqp{g b n:Nat}(h0:0<n)(d:D.yR w g b (D.St.new n)):aH3 QN #[.pointer (some ⟨g,0,none⟩)] w (λe w'=>(∃q,e=.returned (.pointer q))/\Still w w'):=by
 refine ani _ _ _ ?_;refine(aqo h0 d).mono ?_;rintro _ w1 ⟨a,rfl,hc,s1⟩;refine .inl ⟨_,rfl,aP λw2 r2 s2 z2=>⟨_,r2.aj rfl,?_⟩⟩;refine(show aH3 OL #[.pointer (some ⟨a,0,none⟩)] w2 (λe w'=>e=.returned (.slice none 0 0)/\w'=w2)from ?_).mono ?_
 .refine ajP _ _ _ ⟨_,_,_,s2.cell hc,?_⟩
  refine(ajH _ _ _ w2 (λe w'=>e=.returned (.slice none 0 0)/\w'=w2) (aB (λ_=>⟨rfl,rfl⟩) (λh=>by cases h))).mono ?_;rintro _ _ ⟨rfl,rfl⟩;exact .inl ⟨_,_,_,rfl,rfl,rfl⟩
 rintro _ w3 ⟨rfl,rfl⟩;refine .inl ⟨_,_,_,rfl,λx w4=>x=0/\w4=w3,λ_ _=>0,⟨rfl,rfl⟩,?_⟩;rintro _ _ w4 ⟨rfl,rfl⟩;exact aB (λh=>by simp at h) (λ_=>⟨⟨_,rfl⟩,s1.trans s2⟩)
def arJ{n:Int}(h1:1<=n)(h2:n<=4096):aH3 QL #[.int .i64 n] w (λe w'=>(∃a,e=.returned (.tuple #[.pointer (some a),.int .i64 0]))/\Still w w'):=by refine anc _ _ _ ?_;refine(D.anP h1 h2).mono ?_;rintro _ w1 ⟨g,b,rfl,s1,lg,lb,d⟩;refine .inl ⟨_,_,rfl,aB (λh=>by simp at h) (λ_=>?_)⟩;refine RY.mono ?_;rintro _ w2 ⟨rfl,_,s2,_⟩;refine .inl ⟨_,rfl,(aqp (n:=n.toNat) (by omega) (d.mod s2 (λh=>h) (λh=>h))).mono ?_⟩;rintro _ w3 ⟨⟨q,rfl⟩,s3⟩;refine .inl ⟨_,rfl,aP λw4 r4 s4 z4=>⟨⟨_,rfl⟩,(((show Still w w1 from s1).trans s2).trans s3).trans s4⟩⟩
end Go.Proofs.YtihaaoehhgmphaaGreatDoor
namespace Go.Proofs.YtihaaoehhgmphaaGreatDoor.A
open IntKind Go.RowKit Vc
variable{w:World}
def aAA(op:ag):Int:=if op=[124,124]then 5 else if op=[38,38]then 4 else 3
abbrev uW(k n:Int)(op x:ag)(kids:Value):List Value:=[.int .i64 k,.int .i64 n,.string (S op),.string (S x),kids]
abbrev aKJ(b:Nat):Value:=.pointer (some ⟨b,0,none⟩)
abbrev kids(c n:Nat):Value:=.slice (some ⟨c,0,none⟩) n n
def aIz(w:World):Tm->Nat->Prop
 |.num n,b=>Row w b 147 ⟨uW 0 n [] [] (.slice none 0 0)⟩
 |.IQ x,b=>Row w b 147 ⟨uW 1 0 [] x (.slice none 0 0)⟩
 |.NA op t,b=>∃c k,Row w b 147 ⟨uW 2 0 op [] (kids c 1)⟩/\Row w c 74 ⟨[aKJ k]⟩/\aIz w t k
 |.bin op x y,b=>∃c k1 k2,Row w b 147 ⟨uW (aAA op) 0 op [] (kids c 2)⟩/\Row w c 74 ⟨[aKJ k1,aKJ k2]⟩/\aIz w x k1/\aIz w y k2
 |.AW t x y,b=>∃c k0 k1 k2,Row w b 147 ⟨uW 6 0 [] [] (kids c 3)⟩/\Row w c 74 ⟨[aKJ k0,aKJ k1,aKJ k2]⟩/\aIz w t k0/\aIz w x k1/\aIz w y k2
 |.set x op t,b=>∃c k,Row w b 147 ⟨uW 7 0 op x (kids c 1)⟩/\Row w c 74 ⟨[aKJ k]⟩/\aIz w t k
def aIz.mod{S:Nat->Prop}{w':World}(hm:Mod S w w')(hS:∀b t cs,(t=147\/t=74)->Row w b t cs->¬S b):∀{t:Tm} {b:Nat},aIz w t b->aIz w' t b
 |.num _,b,h=>Row.mod h hm (hS _ _ _ (.inl rfl) h)
 |.IQ _,b,h=>Row.mod h hm (hS _ _ _ (.inl rfl) h)
 |.NA _ _,b,⟨c,k,h1,h2,h3⟩=>⟨c,k,h1.mod hm (hS _ _ _ (.inl rfl) h1),h2.mod hm (hS _ _ _ (.inr rfl) h2),aIz.mod hm hS h3⟩
 |.bin _ _ _,b,⟨c,k1,k2,h1,h2,h3,h4⟩=>⟨c,k1,k2,h1.mod hm (hS _ _ _ (.inl rfl) h1),h2.mod hm (hS _ _ _ (.inr rfl) h2),aIz.mod hm hS h3,aIz.mod hm hS h4⟩
 |.AW _ _ _,b,⟨c,k0,k1,k2,h1,h2,h3,h4,h5⟩=>⟨c,k0,k1,k2,h1.mod hm (hS _ _ _ (.inl rfl) h1),h2.mod hm (hS _ _ _ (.inr rfl) h2),aIz.mod hm hS h3,aIz.mod hm hS h4,aIz.mod hm hS h5⟩
 |.set _ _ _,b,⟨c,k,h1,h2,h3⟩=>⟨c,k,h1.mod hm (hS _ _ _ (.inl rfl) h1),h2.mod hm (hS _ _ _ (.inr rfl) h2),aIz.mod hm hS h3⟩
def aIz.still{w':World}{t:Tm}{b:Nat}(h:aIz w t b)(hm:Still w w'):aIz w' t b:=h.mod hm (λ_ _ _ _ _ h=>h)
def aIz.far{w':World}{t:Tm}{b g:Nat}{tg:TypeId}{cs:Array Value}(h:aIz w t b)(hg:Row w g tg cs)(h1:tg≠147)(h2:tg≠74)(hm:Mod (λk=>k=g) w w'):aIz w' t b:=by
 refine h.mod hm (λb t cs ht hr e=>?_);subst e;rcases ht with rfl|rfl
 .exact hr.ne hg h1.symm rfl
 .exact hr.ne hg h2.symm rfl
def _root_.Go.Proofs.YtihaaoehhgmphaaGreatDoor.Row.aAB{w':World}{b g:Nat}{t tg:TypeId}{cs cs':Array Value}(h:Row w b t cs)(hg:Row w g tg cs')(hne:t≠tg)(hm:Mod (λk=>k=g) w w'):Row w' b t cs:=h.mod hm (h.ne hg hne)
end Go.Proofs.YtihaaoehhgmphaaGreatDoor.A
namespace Go.Proofs.YtihaaoehhgmphaaGreatDoor.A
open IntKind Go.RowKit Vc
def WS.drew{w:World}{g:Nat}{V:List Vr}(h:WS w g V):WS w.drew g V:=h.still (Still.refl _).cK
def WS.tree{w w':World}{g b:Nat}{V:List Vr}{t:Tm}(h:WS w g V)(ht:aIz w t b)(hm:Mod (λk=>k=g) w w'):aIz w' t b:=by obtain⟨⟨p,C,h1,_⟩,_,_⟩:=h;exact ht.far h1 (by decide) (by decide) hm
def WS.far{w w':World}{g b:Nat}{V:List Vr}{t:TypeId}{cs:Array Value}(h:WS w g V)(hr:Row w b t cs)(ht:t≠79)(hm:Mod (λk=>k=g) w w'):Row w' b t cs:=by obtain⟨⟨p,C,h1,_⟩,_,_⟩:=h;exact hr.aAB h1 ht hm
def aKx{a b c:World}{g:Nat}(h1:Mod (λk=>k=g) a b)(h2:Mod (λk=>k=g) b c):Mod (λk=>k=g) a c:=Mod.trans h1 h2 (λ_ h=>h) (λ_ _ h=>h)
def wj{a b c:World}{g:Nat}(h1:Mod (λk=>k=g) a b)(h2:Still b c):Mod (λk=>k=g) a c:=Mod.trans h1 h2 (λ_ h=>h) (λ_ _ h=>h.elim)
def R9{a b c:World}{g:Nat}(h1:Still a b)(h2:Mod (λk=>k=g) b c):Mod (λk=>k=g) a c:=Mod.trans h1 h2 (λ_ h=>h.elim) (λ_ _ h=>h)
def avm{a b:World}{g:Nat}(h:Mod (λk=>k=g) a.drew b):Mod (λk=>k=g) a b:=⟨h.os,h.tape,h.output,h.size,h.block⟩
end Go.Proofs.YtihaaoehhgmphaaGreatDoor.A
namespace Go.Proofs.YtihaaoehhgmphaaGreatDoor.A
open IntKind Go.RowKit Vc
variable{w:World}
abbrev dB(w:World)(g:Nat)(s:ag):Prop:=Row w g 72 ⟨[.string (S s)]⟩
def yb(w:World)(g:Nat)(q:Pr (Tm×ag))(e:Ending)(w':World):Prop:=(match q with
 |.ok p=>∃b,e=.returned (.pointer (some ⟨b,0,none⟩))/\aIz w' p.1 b/\dB w' g p.2
 |.bad k=>e=.panicked (qE k))/\Mod (λk=>k=g) w w'
def dB.tree{w':World}{g b:Nat}{s:ag}{t:Tm}(h:dB w g s)(ht:aIz w t b)(hm:Mod (λk=>k=g) w w'):aIz w' t b:=ht.far h (by decide) (by decide) hm
def aoJ{g:Nat}{s:ag}(h:dB w g s)(hs:s.length<=140737488355328):aH3 OQ #[.pointer (some ⟨g,0,none⟩)] w (λe w'=>(match CB s with
  |some p=>e=.returned (.tuple #[.string (S p.1),.string (S p.2.1),.bool true])/\dB w' g p.2.2
  |none=>e=.returned (.tuple #[.string (S []),.string (S []),.bool false])/\dB w' g (trim s))/\Mod (λk=>k=g) w w'):=by
 refine ajY _ _ _ ?_;refine(LO h).mono ?_;rintro _ w1 ⟨rfl,cG,aId⟩;have htl:=acz s;refine .inl ⟨_,rfl,_,cG.aj rfl,(abP (trim s) (by omega)).mono ?_⟩;rintro _ w2 ⟨rfl,hs2⟩;have hr2:dB w2 g (trim s):=cG.still hs2;have hm2:=wj aId hs2;have hle:=aKh true (trim s);have hlt:((trim s).take (bY true (trim s))).length=bY true (trim s):=by rw[eH];omega
 refine .inl ⟨_,rfl,_,hr2.aj rfl,by omega,by omega,?_⟩;rw[hlt,bT];refine aP λw3 hr3 hs3 vl=>aP λw4 hr4 hs4 CK=>?_;have ahm:=hs3.trans hs4;have hq:dB w4 w2.heap.size ((trim s).drop (bY true (trim s))):=hr3.still hs4;refine(wh hq (l:=Hs) (c_.row hr4) (λa ha=>by injection ha with ha;rw[<-ha];show w3.heap.size≠w2.heap.size;omega) (by decide) (by decide)).mono ?_;rintro e w5 ⟨he,xe⟩;have hne:g≠w2.heap.size:=by have:=hr2.lt;omega
 have qS:dB w5 g (trim s):=(hr2.still ahm).mod xe hne;have aAC:Still w2 w5:=ahm.box (aW _) xe;have Nb:=wj hm2 aAC;have ea:CB s=if bY true (trim s)≠0/\de ((trim s).drop (bY true (trim s)))∈Hs then some ((trim s).take (bY true (trim s)),de ((trim s).drop (bY true (trim s))),jh ((trim s).drop (bY true (trim s))))else none:=rfl;have en:(trim s).take (bY true (trim s))=[]↔bY true (trim s)=0:=by rw[<-Xx,hlt]
 by_cases ho:de ((trim s).drop (bY true (trim s)))∈Hs
 .rw[aR ho]at he
  obtain⟨rfl,hq5⟩:=he;refine .inl ⟨_,rfl,aB (λh1=>?_) (λh1=>aB (λh2=>?_) (λh2=>?_))⟩
  .have h1:=en.1 (aT h1)
   rw[ea,aL (λe=>e.1 h1)];exact⟨⟨rfl,qS⟩,Nb⟩
  .exact absurd (aT h2) (asx ho)
  .have h1:bY true (trim s)≠0:=λe=>a_ h1 (en.2 e)
   rw[ea,aR ⟨h1,ho⟩];refine⟨_,hq5.aj rfl,aH5 qS (by simp) (by simp[Value.oneCell']) λw6 A4 k5 IZ=>⟨⟨rfl,A4⟩,aKx Nb k5⟩⟩
 .rw[aL ho]at he
  obtain⟨rfl,hq5⟩:=he;rw[ea,aL (λe=>ho e.2)];refine .inl ⟨_,rfl,aB (λh1=>⟨⟨rfl,qS⟩,Nb⟩) (λh1=>aB (λh2=>⟨⟨rfl,qS⟩,Nb⟩) (λh2=>absurd rfl (a_ h2)))⟩
end Go.Proofs.YtihaaoehhgmphaaGreatDoor.A
namespace Go.Proofs.YtihaaoehhgmphaaGreatDoor.A
open IntKind Go.RowKit Vc
end Go.Proofs.YtihaaoehhgmphaaGreatDoor.A
namespace Go.Proofs.YtihaaoehhgmphaaGreatDoor.A
open IntKind Go.RowKit Vc
variable{w:World}
abbrev Ji:ag:=[48,49,50,51,52,53,54,55,56,57,65,66,67,68,69,70,71,72,73,74,75,76,77,78,79,80,81,82,83,84,85,86,87,88,89,90,95,97,98,99,100,101,102,103,104,105,106,107,108,109,110,111,112,113,114,115,116,117,118,119,120,121,122]
def awF(c:UInt8):Ji.contains c=LG c:=by
 have h:∀n:Nat,n<256->Ji.contains (UInt8.ofNat n)=LG (UInt8.ofNat n):=by decide+kernel
 have:=h c.toNat c.toNat_lt;rwa[PG]at this
def atz(s:ag):s.dropWhile (Ji.contains ·)=s.drop (pV s):=by
 have e:(Ji.contains ·:UInt8->Bool)=LG:=by funext c;exact awF c
 rw[e];unfold pV
 induction s with
 |nil=>rfl
 |cons c s ih=>
  rw[Pk,aLj];split
  .rw[bf,Bi]
   exact ih
  ·rfl
def Tp(g:Nat)(w:World):Nat:=match w.cell? ⟨g,0,none⟩with
 |some (.string s)=>s.size
 |_=>0
def Z3{w:World}{g:Nat}{s:ag}(h:dB w g s):Tp g w=s.length:=by have hc:w.cell? ⟨g,0,none⟩=some (.string (S s)):=h.aj rfl;unfold Tp;rw[hc];rfl
def Rn:aH3 Kq #[] w (λe w'=>∃b,e=.returned (.slice (some ⟨b,0,none⟩) 10 10)/\(∀l,l<10->∃c n,w'.cell? ⟨b,l,none⟩=some (.slice (some ⟨c,0,none⟩) n n)/\c_ w' (some ⟨c,0,none⟩) n (lv l)/\n<10/\w.heap.size<=c)/\Still w w'):=by
 refine amG _ _ ?_;refine aP λw1 r1 s1 z1=>aP λw2 r2 s2 z2=>aP λw3 r3 s3 z3=>aP λw4 r4 s4 z4=>aP λw5 r5 s5 z5=>aP λw6 r6 s6 z6=>aP λw7 r7 s7 z7=>aP λw8 r8 s8 z8=>aP λw9 r9 s9 z9=>aP λaO aIe iN pz=>aP λaX aIk gU xh=>?_;have t10:=gU;have t9:=iN.trans t10;have t8:=s9.trans t9;have t7:=s8.trans t8;have t6:=s7.trans t7;have t5:=s6.trans t6;have t4:=s5.trans t5;have t3:=s4.trans t4;have t2:=s3.trans t3;have t1:=s2.trans t2;refine⟨_,rfl,λl hl=>?_,s1.trans t1⟩;have hl:l=0\/l=1\/l=2\/l=3\/l=4\/l=5\/l=6\/l=7\/l=8\/l=9:=by omega
 rcases hl with rfl|rfl|rfl|rfl|rfl|rfl|rfl|rfl|rfl|rfl
 .exact⟨_,_,aIk.aj rfl,c_.row (l:=lv 0) (r1.still t1),by decide,by omega⟩
 .exact⟨_,_,aIk.aj rfl,c_.row (l:=lv 1) (r2.still t2),by decide,by omega⟩
 .exact⟨_,_,aIk.aj rfl,c_.row (l:=lv 2) (r3.still t3),by decide,by omega⟩
 .exact⟨_,_,aIk.aj rfl,c_.row (l:=lv 3) (r4.still t4),by decide,by omega⟩
 .exact⟨_,_,aIk.aj rfl,c_.row (l:=lv 4) (r5.still t5),by decide,by omega⟩
 .exact⟨_,_,aIk.aj rfl,c_.row (l:=lv 5) (r6.still t6),by decide,by omega⟩
 .exact⟨_,_,aIk.aj rfl,c_.row (l:=lv 6) (r7.still t7),by decide,by omega⟩
 .exact⟨_,_,aIk.aj rfl,c_.row (l:=lv 7) (r8.still t8),by decide,by omega⟩
 .exact⟨_,_,aIk.aj rfl,c_.row (l:=lv 8) (r9.still t9),by decide,by omega⟩
 .exact⟨_,_,aIk.aj rfl,c_.row (l:=lv 9) (aIe.still t10),by decide,by omega⟩
def RO{g:Nat}{s:ag}{w1:World}{l:List ag}{b:Nat}(h:dB w1 g s)(hb:Row w1 b 9 ⟨bI l⟩)(hne:b≠g)(hn:l.length<1000)(h0:[]∉l):
  aH3 aKd #[.pointer (some ⟨g,0,none⟩),.slice (some ⟨b,0,none⟩) l.length l.length] w1 (λe w'=>(if de s∈l then e=.returned (.string (S (de s)))/\dB w' g (jh s)else e=.returned (.string (S []))/\dB w' g (trim s))/\Mod (λk=>k=g) w1 w'):=
 wh h (c_.row hb) (λa ha=>by injection ha with ha;rw[<-ha];exact hne) hn h0
end Go.Proofs.YtihaaoehhgmphaaGreatDoor.A
namespace Go.Proofs.YtihaaoehhgmphaaGreatDoor.A
open IntKind Go.RowKit Vc
set_option maxRecDepth 100000
structure Bx(w0 w:World)(b0 b1 b2:Nat)(x:Int)(p:Option Addr)(n C:Nat)(y:Int):Prop where
 r0:Row w b0 3 ⟨[.int .i64 x]⟩
 r1:Row w b1 27 ⟨[.slice p n C]⟩
 r2:Row w b2 28 ⟨[.int .i64 y]⟩
 st:Still w0 w
 l0:w0.heap.size<=b0
 l1:w0.heap.size<=b1
 l2:w0.heap.size<=b2
section
variable{w0 w w':World}{b0 b1 b2 n C:Nat}{x y:Int}{p:Option Addr}
def Bx.box(h:Bx w0 w b0 b1 b2 x p n C y){g:Nat}(hg:w0.heap.size<=g)(h0:b0≠g)(h1:b1≠g)(h2:b2≠g)(hm:Mod (λk=>k=g) w w'):Bx w0 w' b0 b1 b2 x p n C y:=
 ⟨h.r0.mod hm h0,h.r1.mod hm h1,h.r2.mod hm h2,h.st.box hg hm,h.l0,h.l1,h.l2⟩
def Bx.still(h:Bx w0 w b0 b1 b2 x p n C y)(hm:Still w w'):Bx w0 w' b0 b1 b2 x p n C y:=⟨h.r0.still hm,h.r1.still hm,h.r2.still hm,h.st.trans hm,h.l0,h.l1,h.l2⟩
def Bx.aAD(h:Bx w0 w b0 b1 b2 x p n C y):b0≠b1:=h.r0.ne h.r1 (by decide)
def Bx.aAE(h:Bx w0 w b0 b1 b2 x p n C y):b0≠b2:=h.r0.ne h.r2 (by decide)
def Bx.aAF(h:Bx w0 w b0 b1 b2 x p n C y):b1≠b2:=h.r1.ne h.r2 (by decide)
def Bx.done(h:Bx w0 w b0 b1 b2 x p n C y){R:Ending->World->Prop}(hR:R (.returned (.tuple #[.int .i64 x,.slice p n C,.int .i64 y])) w):
  CallsD aM zv #[.pointer (some ⟨b0,0,none⟩),.pointer (some ⟨b1,0,none⟩),.pointer (some ⟨b2,0,none⟩)] .returning w (λed ux w9=>(∃rv,ed=.returned rv)/\settle ux=.returning/\∃v1:Int,w9.cell? ⟨b0,0,none⟩=some (.int .i64 v1)/\∃(v2:Option Addr) (vL vC:Nat),w9.cell? ⟨b1,0,none⟩=some (.slice v2 vL vC)/\∃v3:Int,w9.cell? ⟨b2,0,none⟩=some (.int .i64 v3)/\R (.returned (.tuple #[.int .i64 v1,.slice v2 vL vC,.int .i64 v3])) w9):=by
 refine(aq6 _ _ _ w).mono ?_;rintro _ u w1 ⟨rfl,rfl,rfl⟩;exact⟨⟨_,rfl⟩,rfl,_,h.r0.aj rfl,_,_,_,h.r1.aj rfl,_,h.r2.aj rfl,hR⟩
end
end Go.Proofs.YtihaaoehhgmphaaGreatDoor.A
namespace Go.Proofs.YtihaaoehhgmphaaGreatDoor.A
open IntKind Go.RowKit Vc
set_option maxRecDepth 100000
variable{w w0:World}
structure Nc(s:ag)(n:Int)(u:ag):Prop where
 op:de s=[]
 tr:trim s=s
 len:s.length<=1000
 IQ:isName (s.take (pV s))=false
 num:MN (s.take (pV s))=some n
 ne:s.take (pV s)≠[]
 rest:s.drop (pV s)=u
def avn(he:Env w0){g:Nat}(hg:w0.heap.size<=g){s u:ag}{n:Int}(h:Nc s n u)(h0:Still w0 w)(hr:dB w g s):aH3 JN #[.pointer (some ⟨g,0,none⟩),.int .i64 1] w (yb w g (.ok (.num n,u))):=by
 refine akq _ _ _ _ ?_;refine(aJl _ 2).mono ?_;rintro _ w1 ⟨h1,rfl⟩;rw[aR (by decide)]at h1;subst h1;refine .inl ⟨rfl,aP λw2 r2 s2 _=>?_⟩;have hr2:dB w2 g s:=hr.still s2;refine(RO (l:=Ht) hr2 r2 (by have:=hr.lt;omega) (by decide) (by decide)).mono ?_;rintro e w3 ⟨h3,dD⟩;have Ve:=R9 s2 dD;rw[h.op,h.tr,aL (by decide)]at h3;obtain⟨rfl,hr3⟩:=h3;refine .inl ⟨_,rfl,aB (λh=>absurd h (by decide)) (λ_=>aP λw7 r7 s7 _=>?_)⟩;have xl:dB w7 g s:=hr3.still s7;refine(RO (l:=[[40]]) xl r7 (by have:=hr3.lt;omega) (by decide) (by decide)).mono ?_;rintro e w8 ⟨h8,hm8⟩;rw[h.op,h.tr,aL (by decide)]at h8;obtain⟨rfl,CW⟩:=h8;have aAG:=aKx (wj Ve s7) hm8;refine .inl ⟨_,rfl,aB (λh=>absurd h (by decide)) (λ_=>?_)⟩;have hwn:=auF s;have hl:=h.len;have cell:∀wq:World,Still w8 wq->wq.cell? ⟨g,0,none⟩=some (.string (S s)):=λwq hq=>(CW.still hq).aj rfl;refine⟨λwq=>Still w8 wq,(Still.refl _).cK,s,cell,s,cell,s,cell,?_⟩;refine(Zf s Ji (by decide) (by decide)).mono ?_;rintro _ bl ⟨rfl,aAH⟩;have Uj:=(Still.refl w8).cK.trans aAH;have Ey:dB bl g s:=CW.still Uj;rw[atz];have ek:i64.wrap ((s.length:Int)-((s.drop (pV s)).length:Int))=(pV s:Int):=by rw[jx,wrap_i64 (by omega) (by omega)];omega
 have hlt:(s.take (pV s)).length=pV s:=by rw[eH];omega
 refine .inl ⟨_,rfl,Uj,?_⟩;rw[ek,bT,hlt,bT];refine⟨by omega,by omega,s,Ey.aj rfl,by omega,by omega,aH5 Ey (by simp) (by simp[Value.oneCell']) λbH UQ aAI _=>?_⟩;have ayL:=aKx (wj aAG Uj) aAI;refine(ap2 (s.take (pV s)) (by omega)).mono ?_;rintro _ bQ ⟨rfl,MV⟩;have aAJ:dB bQ g (s.drop (pV s)):=Row.still UQ MV;have af1:=wj ayL MV;rw[h.IQ];refine .inl ⟨_,rfl,aB (λh=>by cases h) (λ_=>?_)⟩;refine(arb (he.still (h0.box hg af1)) _ (by omega)).mono ?_;rintro _ aH_ ⟨⟨m,ok,rfl,hm,hv⟩,ahn⟩;rw[h.num]at hv;obtain⟨rfl,rfl⟩:=hv;refine .inl ⟨_,_,rfl,aB (λ_=>(aJl _ 130).mono ?_) (λh=>by cases h)⟩;rintro _ cB ⟨h18,rfl⟩;rw[aIl h.ne,aR (by decide)]at h18;subst h18;have aho:=aAJ.still ahn;rw[h.rest]at aho;exact .inl ⟨rfl,aP λdM sS lB _=>⟨⟨_,rfl,sS,aho.still lB⟩,wj (wj af1 ahn) lB⟩⟩
def aLd(w0:World)(g l:Nat)(s:ag)(t:Tm)(u:ag):Prop:=∀{w:World},Still w0 w->dB w g s->aH3 Fu #[.pointer (some ⟨g,0,none⟩),.int .i64 (l:Int),.int .i64 1] w (yb w g (.ok (t,u)))
def ad4(he:Env w0){g:Nat}(hg:w0.heap.size<=g){s u:ag}{n:Int}(h:Nc s n u):aLd w0 g 10 s (.num n) u:=by intro w h0 hr;refine XG _ _ _ _ _ ?_;refine Rn.mono ?_;rintro _ w1 ⟨b0,rfl,hb0,hs1⟩;have cG:dB w1 g s:=hr.still hs1;refine .inl ⟨_,_,_,rfl,aB (λ_=>?_) (λhx=>absurd rfl (a_ hx))⟩;refine(avn he hg h (h0.trans hs1) cG).mono ?_;rintro e w2 ⟨⟨b,rfl,ht,hr4⟩,hm2⟩;exact .inl ⟨_,rfl,⟨_,rfl,ht,hr4⟩,R9 hs1 hm2⟩
def ad5{g:Nat}(hg:w0.heap.size<=g){l:Nat}(hl:l<10){s u:ag}{a q:Tm}(h1:aLd w0 g (l+1) s a u)(H:(u=[]/\a=q)\/(de u=[42]/\l=9/\∃y,aLd w0 g (l+1) (jh u) y []/\q=.bin [42] a y)):aLd w0 g l s q []:=by
 intro w h0 hr;refine XG _ _ _ _ _ ?_;have e1:i64.wrap ((l:Int)+1)=((l+1:Nat):Int):=by rw[wrap_i64 (by omega) (by omega)];omega
 refine Rn.mono ?_;rintro _ w1 ⟨b0,rfl,hb0,hs1⟩;have cG:dB w1 g s:=hr.still hs1;refine .inl ⟨_,_,_,rfl,aB (λhx=>absurd (aT hx) (by omega)) (λ_=>?_)⟩;rw[e1];refine(h1 (h0.trans hs1) cG).mono ?_;rintro _ w3 ⟨⟨b,rfl,Ja,hr3⟩,dD⟩;have Ve:=R9 hs1 dD;refine .inl ⟨_,rfl,λp w4=>∃(b:Nat) (a':Tm) (u':ag),p=some ⟨b,0,none⟩/\((u'=[]/\a'=q)\/(u'=u/\a'=a/\de u=[42]))/\aIz w4 a' b/\dB w4 g u'/\Mod (λk=>k=g) w w4,λ_ w4=>Tp g w4,⟨b,a,u,rfl,?_,Ja,hr3,Ve⟩,?_⟩
 .rcases H with⟨h2,h3⟩|⟨ho,_⟩
  .exact .inl ⟨h2,h3⟩
  .exact .inr ⟨rfl,rfl,ho⟩
 rintro _ _ w4 ⟨b,a',u',rfl,WL,ht4,hr4,k4⟩;refine Rn.mono ?_;rintro _ w5 ⟨b5,rfl,aKF,hs5⟩;obtain⟨c,n,hc,hlv,hn,hcs⟩:=aKF l hl;have qS:dB w5 g u':=hr4.still hs5;refine .inl ⟨_,_,_,rfl,by omega,by omega,_,_,_,by rw[bT,eX,bR,cE];exact hc,?_⟩;refine(wh qS hlv (λx hx=>by injection hx with hx;rw[<-hx];show c≠g;have:=hr4.lt;omega) (by omega) (λe=>afr e rfl)).mono ?_;rintro e w6 ⟨h6,k5⟩;have Vf:=aKx k4 (aKx (wj (Mod.refl _ w4) hs5) k5);have NY:=dB.tree qS (ht4.still hs5) k5;rcases WL with⟨hu,ha⟩|⟨hu,ha,ho⟩
 .subst hu ha
  rw[aL (show¬de []∈lv l from λe=>afr e rfl)]at h6;obtain⟨rfl,A4⟩:=h6;exact .inl ⟨_,rfl,aB (λ_=>⟨⟨_,rfl,NY,A4⟩,Vf⟩) (λh=>absurd rfl (a_ h))⟩
 .subst hu ha
  rcases H with⟨h2,_⟩|⟨_,h9,y,hy,hq⟩
  .rw[h2]at ho
   exact absurd ho (by decide)
  subst h9 hq;rw[aR (by rw[ho];decide)]at h6;obtain⟨rfl,A4⟩:=h6;have hlt:=av4 (s:=u') (by rw[ho];decide);rw[ho];refine .inl ⟨_,rfl,aB (λh=>absurd (aT h) (by decide)) (λ_=>?_)⟩
  try rw[e1]
  refine(hy (h0.box hg Vf) A4).mono ?_;rintro _ w7 ⟨⟨b7,rfl,ht7,xl⟩,ES⟩;refine .inl ⟨_,rfl,aP λw8 r8 s8 _=>aP λw9 r9 s9 _=>?_⟩;have pE:=s8.trans s9;refine aB (λh=>absurd (aT h) (by decide)) (λ_=>aB (λh=>absurd (aT h) (by decide)) (λ_=>?_));refine⟨⟨_,.bin [42] a' y,[],rfl,.inl ⟨rfl,rfl⟩,⟨w7.heap.size,b,b7,r9,r8.still s9,(dB.tree A4 NY ES).still pE,ht7.still pE⟩,xl.still pE,wj (aKx Vf ES) pE⟩,?_⟩;dsimp only;rw[Z3 (xl.still pE),Z3 hr4];simp only[cm];omega
def awG{g:Nat}(hg:w0.heap.size<=g){s:ag}{t:Tm}(l:Nat):l<=10->aLd w0 g l s t []->aLd w0 g 0 s t []:=by
 induction l with
 |zero=>exact λ_ h=>h
 |succ l ih=>exact λhl h=>ih (by omega) (ad5 hg (by omega) h (.inl ⟨rfl,rfl⟩))
def Nf:Tm:=.bin [42] (.num 2) (.num 3)
def awH:Nc [50,42,51] 2 [42,51]:=⟨by decide,by decide,by decide,by decide,by kernel_rfl,by decide,by decide⟩
def atA:Nc [51] 3 []:=⟨by decide,by decide,by decide,by decide,by kernel_rfl,by decide,by decide⟩
def awI(he:Env w0){g:Nat}(hg:w0.heap.size<=g):aLd w0 g 0 [50,42,51] Nf []:=
 awG hg 9 (by decide) (ad5 hg (by decide) (ad4 he hg awH) (.inr ⟨by decide,rfl,_,ad4 he hg atA,rfl⟩))
def awJ(he:Env w0){g:Nat}(hg:w0.heap.size<=g)(h0:Still w0 w)(hr:dB w g [50,42,51]):aH3 C9 #[.pointer (some ⟨g,0,none⟩),.int .i64 1] w (yb w g (.ok (Nf,[]))):=by
 refine ak2 _ _ _ _ ?_;refine(aJl _ 2).mono ?_;rintro _ w1 ⟨h1,rfl⟩;rw[aR (by decide)]at h1;subst h1;refine .inl ⟨rfl,(aoJ hr (by decide)).mono ?_⟩;rintro _ w2 ⟨h2,hm2⟩;rw[show CB [50,42,51]=none by decide]at h2;obtain⟨rfl,hr2⟩:=h2;have hr2:dB w2 g [50,42,51]:=hr2;refine .inl ⟨_,_,_,rfl,aB (λh=>absurd h (by decide)) (λ_=>?_)⟩;have hc:aH3 JL #[.pointer (some ⟨g,0,none⟩),.int .i64 1] w2 (yb w2 g (.ok (Nf,[]))):=by refine akj _ _ _ _ ?_;refine(awI he hg (h0.box hg hm2) hr2).mono ?_;rintro _ w3 ⟨⟨b,rfl,Ja,hr3⟩,dD⟩;refine .inl ⟨_,rfl,aP λw4 r4 s4 _=>?_⟩;have hr4:dB w4 g []:=hr3.still s4;refine(RO (l:=[[63]]) hr4 r4 (by have:=hr3.lt;omega) (by decide) (by decide)).mono ?_;rintro e w5 ⟨h5,xe⟩;rw[aL (by decide)]at h5;obtain⟨rfl,qS⟩:=h5;exact .inl ⟨_,rfl,aB (λ_=>⟨⟨_,rfl,dB.tree hr4 (Ja.still s4) xe,qS⟩,aKx (wj dD s4) xe⟩) (λh=>absurd h (by decide))⟩
 refine hc.mono ?_;rintro _ w4 ⟨⟨b,rfl,ht,hr4⟩,k4⟩;exact .inl ⟨_,rfl,⟨_,rfl,ht,hr4⟩,aKx hm2 k4⟩
def ac_{g b:Nat}{n:Int}(hr:Row w b 147 ⟨uW 0 n [] [] (.slice none 0 0)⟩):aH3 pL #[.pointer (some ⟨g,0,none⟩),.pointer (some ⟨b,0,none⟩)] w (λe w'=>e=.returned (.int .i64 n)/\w'=w):=by
 refine XK _ _ _ _ ?_;refine⟨(0:Int),hr.aj rfl,?_⟩
 repeat refine aB (λh=>absurd h (by decide)) (λ_=>?_)
 exact⟨n,by rw[bR];exact hr.aj rfl,rfl,rfl⟩
def mul_eval{g b:Nat}(ht:aIz w Nf b):aH3 pL #[.pointer (some ⟨g,0,none⟩),.pointer (some ⟨b,0,none⟩)] w (λe w'=>e=.returned (.int .i64 6)/\Still w w'):=by
 obtain⟨c,k1,k2,hr,hc,hx,hy⟩:=ht;have hr:Row w b 147 ⟨uW 3 0 [42] [] (kids c 2)⟩:=hr;have hx:Row w k1 147 ⟨uW 0 2 [] [] (.slice none 0 0)⟩:=hx;have hy:Row w k2 147 ⟨uW 0 3 [] [] (.slice none 0 0)⟩:=hy;refine XK _ _ _ _ ?_;refine⟨(3:Int),hr.aj rfl,?_⟩
 repeat refine aB (λh=>absurd h (by decide)) (λ_=>?_)
 refine aB (λ_=>?_) (λh=>absurd h (by decide));refine⟨some ⟨c,0,none⟩,2,2,by rw[bR];exact hr.aj rfl,by decide,by decide,some ⟨k1,0,none⟩,by rw[bR];exact hc.aj rfl,(ac_ hx).mono ?_⟩;rintro _ w1 ⟨rfl,rfl⟩;refine .inl ⟨_,rfl,λwq=>Row wq b 147 ⟨uW 3 0 [42] [] (kids c 2)⟩/\Row wq c 74 ⟨[aKJ k1,aKJ k2]⟩,⟨hr.drew,hc.drew⟩,[42],λwq hq=>by rw[bR];exact hq.1.aj rfl,some ⟨c,0,none⟩,2,2,λwq hq=>by rw[bR];exact hq.1.aj rfl,by decide,by decide,some ⟨k2,0,none⟩,λwq hq=>by rw[bR];exact hq.2.aj rfl,?_⟩;refine(ac_ hy.drew).mono ?_;rintro _ w2 ⟨rfl,rfl⟩;refine .inl ⟨_,rfl,⟨hr.drew,hc.drew⟩,?_⟩;have hk:∀w2:World,aH3 Kp #[.string (S [42]),.int .i64 2,.int .i64 3] w2 (λe w'=>e=.returned (.int .i64 6)/\w'=w2):=by
  intro w2;refine amy _ _ _ _ _ ?_;refine⟨λw1=>w1=w2,?_,?_⟩
  .refine aB (λ_=>?_) (λh=>absurd h (by decide))
   refine(aJl true 131).mono ?_;rintro _ w1 ⟨h1,rfl⟩;rw[aR rfl]at h1;subst h1;exact .inl ⟨rfl,rfl⟩
  rintro _ w4 rfl;refine aB (λh=>absurd h (by decide)) (λ_=>aB (λh=>absurd h (by decide)) (λ_=>aB (λ_=>⟨rfl,rfl⟩) (λh=>absurd h (by decide))))
 refine(hk _).mono ?_;rintro e w3 ⟨rfl,rfl⟩;exact .inl ⟨_,rfl,rfl,(Still.refl _).cK⟩
def avo(he:Env w):aH3 QK #[.string (S [50,42,51]),.slice none 0 0] w (λe w'=>(∃q n C,e=.returned (.tuple #[.int .i64 6,.slice q n C,.int .i64 0]))/\Still w w'):=by
 refine am9 _ _ _ _ _ _ ?_;refine aP λw1 q1 s1 z1=>aP λw2 q2 s2 z2=>aP λw3 q3 s3 z3=>aP λw4 q4 s4 z4=>?_;have jC:Still w w4:=((s1.trans s2).trans s3).trans s4;have bx4:Bx w w4 w.heap.size w1.heap.size w2.heap.size 0 none 0 0 0:=⟨q1.still ((s2.trans s3).trans s4),q2.still (s3.trans s4),q3.still s4,jC,by omega,by omega,by omega⟩;have N7:w.heap.size≠w3.heap.size:=by omega
 have WU:w1.heap.size≠w3.heap.size:=by omega
 have WV:w2.heap.size≠w3.heap.size:=by omega
 have N8:w.heap.size<=w3.heap.size:=by omega
 have hp4:dB w4 w3.heap.size [50,42,51]:=q4;generalize w3.heap.size=g at*;generalize w2.heap.size=b2 at*;generalize w1.heap.size=b1 at*;generalize hb0:w.heap.size=b0 at bx4 N7⊢;clear q1 q2 q3 q4 s1 s2 s3 s4;refine(LO hp4).mono ?_;rintro _ w5 ⟨rfl,yV,xe⟩;have bx5:=bx4.box N8 N7 WU WV xe;refine .inl ⟨_,rfl,_,yV.aj rfl,aB (λhx=>absurd (aT hx) (by decide)) (λhx=>?_)⟩;refine(awJ he N8 bx5.st yV).mono ?_;rintro e aO ⟨⟨b,rfl,aAK,ahp⟩,aAL⟩;have aAM:=bx5.box N8 N7 WU WV aAL;refine .inl ⟨_,rfl,(LO ahp).mono ?_⟩;rintro _ aX ⟨rfl,UZ,ahq⟩;have Ng:=aAM.box N8 N7 WU WV ahq;have aAN:=dB.tree ahp aAK ahq;refine .inl ⟨_,rfl,_,UZ.aj rfl,(aJl _ 130).mono ?_⟩;rintro _ aH4 ⟨h12,rfl⟩;rw[aR (by decide)]at h12;subst h12;refine .inl ⟨rfl,aP λbl jE gy vz=>?_⟩;have aAO:=Ng.still gy;have g0:=Ng.r0.lt;have g1:=Ng.r1.lt;have g2:=Ng.r2.lt;refine(mul_eval (aAN.still gy)).mono ?_;rintro e bH ⟨rfl,jV⟩;have rK:=aAO.still jV;have aI8:=jE.still jV;refine .inl ⟨_,rfl,?_⟩;generalize aH4.heap.size=gw at*;refine aH5 rK.r0 (by simp) (by simp[Value.oneCell']) λbQ qK m15 _=>?_;have ne0:b0≠gw:=by omega
 have ae0:=aI8.mod m15 ne0.symm;refine⟨λwq=>wq.cell? ⟨b0,0,none⟩=some (.int .i64 6)/\wq.cell? ⟨gw,0,none⟩=some (.slice none 0 0),⟨qK.drew.aj rfl,ae0.drew.aj rfl⟩,6,λwq hq=>hq.1,none,0,0,λwq hq=>hq.2,?_⟩;refine aH5 qK.drew (by simp[fR]) (by simp[Value.oneCell']) λbW r16 m16 _=>⟨⟨r16.aj rfl,(ae0.drew.mod m16 ne0.symm).aj rfl⟩,?_⟩;have md:Mod (λk=>k=b0) bH bW:=aKx m15 (avm m16);have bx1:=rK.aAD;have bx2:=rK.aAE;have bx3:=rK.aAF;refine aH5 (rK.r1.mod md bx1.symm) (by simp) (by simp[Value.oneCell']) λaH_ aI9 m17 _=>?_;refine aH5 ((rK.r2.mod md bx2.symm).mod m17 bx3.symm) (by simp) (by simp[Value.oneCell']) λcB wX m18 _=>?_;have af2:Still w cB:=((rK.st.box rK.l0 md).box rK.l1 m17).box rK.l2 m18;have aAP:Bx w cB b0 b1 b2 6 none 0 0 0:=⟨(r16.mod m17 bx1).mod m18 bx2,aI9.mod m18 bx3,wX,af2,rK.l0,rK.l1,rK.l2⟩;exact aAP.done (R:=λe w'=>(∃q n C,e=.returned (.tuple #[.int .i64 6,.slice q n C,.int .i64 0]))/\Still w w') ⟨⟨_,_,_,rfl⟩,af2⟩
end Go.Proofs.YtihaaoehhgmphaaGreatDoor.A
namespace Go.Proofs.YtihaaoehhgmphaaGreatDoor.L
open IntKind Go.RowKit Vc
variable{w:World}
def ad6{l:List Pt}{k:Nat}(h:k<l.length):SizeOf.sizeOf l[k].w<SizeOf.sizeOf l:=auE (ou h)
def ad7{l:List Pt}{k:Nat}(h:k<l.length):cz l[k].w<=cz l:=by have h1:=adK (ou h);have h2:=l[k].uR;omega
def Bd(w:World)(g B:Nat)(bs:ag):Prop:=∃cs v,cs.length=2/\ef w 86 g 0 B cs v bs
def Bd.still{w':World}{g B:Nat}{bs:ag}(h:Bd w g B bs)(hm:Still w w'):Bd w' g B bs:=by obtain⟨cs,v,h1,h2⟩:=h;exact⟨cs,v,h1,h2.still hm⟩
def Bd.write{g B:Nat}{bs:ag}(h:Bd w g B bs)(s:ag)(hB:B<=w.heap.size)(hs:bs.length+s.length<=140737488355328){w0:World}(h0:Still w0 w)(hg:w0.heap.size<=g)(EN:w0.heap.size<=B):
  aH3 iA #[.pointer (some ⟨g,0,none⟩),.string (S s)] w (λe w'=>e=.returned (.tuple #[.int .i64 (s.length:Int),.nilIface])/\Bd w' g B (bs++s)/\Still w0 w'/\w.heap.size<=w'.heap.size):=by
 obtain⟨cs,v,h1,h2⟩:=h;have hl:mS 86 cs.length 0:=by rw[h1];exact DE
 refine(aKu h2 hl s hB hs).mono ?_;rintro _ w' ⟨rfl,v',h3,h4⟩;refine⟨rfl,⟨_,v',by simp[h1],h3⟩,Mod.trans h0 h4 (λ_ h=>h) (λk hk e=>?_),h4.size⟩;rcases e with e|e
 .omega
 .have:=(h2.own.lt k e).1;omega
def Bd.told{g B:Nat}{bs:ag}(h:Bd w g B bs)(hs:bs.length<=140737488355328){w0:World}(h0:Still w0 w)(EN:w0.heap.size<=B):aH3 qj #[.pointer (some ⟨g,0,none⟩)] w (λe w'=>e=.returned (.string (S bs))/\Still w0 w'):=by obtain⟨cs,v,h1,h2⟩:=h;refine(xF h2 hs).mono ?_;rintro _ w' ⟨rfl,h4⟩;exact⟨rfl,Mod.trans h0 h4 (λ_ h=>h) λk hk e=>by have:=(h2.own.lt k e).1;omega⟩
def core(x:Pt):ag:=if x.k=2 then[36,40]++x.t++[41]else if x.k=3 then[36,40,40]++x.t++[41,41]else if x.k=1 then(if x.o=agy then[36,123,35]++x.n++[125]else[36,123]++x.n++x.o++aIy x.w++[125])else[]
def LR(x:Pt):x.pr=if x.k=0 then(if x.q=true then single x.t else x.t)else D5 x.q (core x):=by cases x;rfl
def aqq(t:ag):single t=39::jq 39 [39,92,39,39] t++[39]:=rfl
def avp{l:List Pt}{k:Nat}(h:k<l.length):aIy (l.take (k+1))=aIy (l.take k)++l[k].pr:=by rw[take_one h,aaq];simp[aIy]
def avq(x:Pt):(core x).length+2<=x.wt:=by
 have h1:=x.uR;have h2:=DM x.w;unfold core;split
 .simp;omega
 .split
  .simp;omega
  .split
   .split
    .simp;omega
    .simp;omega
   .simp only[cm];omega
def ada{x:Pt}{F:Nat->Prop}{vw:Value}(hw:cv w F x.w vw)(hl:x.wt<1000000)(ih:∀w1,Still w w1->aH3 tv #[vw] w1 (λe w'=>e=.returned (.string (S (aIy x.w)))/\Still w1 w')):
  aH3 KE #[Es x vw] w (λe w'=>e=.returned (.string (S (core x)))/\Still w w'):=by
 obtain⟨wp,wc,rfl⟩:=hw.form;have h1:=x.uR;have h2:=DM x.w;refine ang _ _ _ _ _ _ _ _ _ _ ?_;refine aP λw1 r1 s1 z1=>?_;obtain⟨f0,f1,f2,f3,f4,f5⟩:=Gd (x:=x) r1;unfold core;refine⟨_,f0,aB (λh=>?_) (λh=>aB (λh3=>?_) (λh3=>aB (λh4=>⟨_,f4,aB (λh5=>?_) (λh5=>?_)⟩) (λh4=>?_)))⟩
 .rw[aR (aT h)]
  exact⟨_,f2,by simp only[bf,cm];omega,by simp only[aIa,bf,cm];omega,rfl,s1⟩
 .rw[aL (a_ h),aR (aT h3)]
  exact⟨_,f2,by simp only[bf,cm];omega,by simp only[aIa,bf,cm];omega,rfl,s1⟩
 .rw[aL (a_ h),aL (a_ h3),aR (aT h4),aR (aT h5)]
  exact⟨_,f3,by simp only[bf,cm];omega,by simp only[aIa,bf,cm];omega,rfl,s1⟩
 .rw[aL (a_ h),aL (a_ h3),aR (aT h4),aL (a_ h5)]
  have rd:∀wq:World,Still w1 wq->Row wq w.heap.size 51 ⟨h_ x (.slice wp x.w.length wc)⟩:=λwq hq=>r1.still hq;refine⟨λwq=>Still w1 wq,gV w1,x.n,λwq hq=>(rd wq hq).aj rfl,by simp only[bf,cm];omega,x.o,λwq hq=>(rd wq hq).aj rfl,by simp only[aIa,bf,cm];omega,wp,x.w.length,wc,λwq hq=>(rd wq hq).aj rfl,?_⟩;refine(ih w1.drew s1.cK).mono ?_;rintro _ w2 ⟨rfl,s2⟩;exact .inl ⟨_,rfl,(gV w1).trans s2,by simp only[aIa,bf,cm];omega,by simp only[aIa,bf,cm];omega,rfl,s1.cK.trans s2⟩
 .rw[aL (a_ h),aL (a_ h3),aL (a_ h4)]
  exact⟨rfl,s1⟩
def avr:∀(n:Nat) (l:List Pt),SizeOf.sizeOf l<n->cz l<1000000->∀(w:World) (F:Nat->Prop) (v:Value),cv w F l v->aH3 tv #[v] w (λe w'=>e=.returned (.string (S (aIy l)))/\Still w w'):=by
 intro n
 induction n with
 |zero=>intro l h;omega
 |succ n ih=>
  intro l hn hl w F v hv;obtain⟨p,c,rfl⟩:=hv.form;have CD:=LD l;have hpl:=DM l;refine ana _ _ _ _ _ ?_;refine aP λw1 r1 s1 z1=>?_;have hb0:Bd w1 w.heap.size (w.heap.size+1) []:=⟨_,_,rfl,ef.fresh r1 rfl rfl⟩;refine⟨λx w2=>∃k:Nat,x=(k:Int)/\k<=l.length/\Bd w2 w.heap.size (w.heap.size+1) (aIy (l.take k))/\Still w w2/\w1.heap.size<=w2.heap.size,λx _=>l.length-x.toNat,⟨0,rfl,dx _,hb0,s1,aW _⟩,?_⟩;rintro _ _ w2 ⟨k,rfl,hk,hb,hs2,jU⟩;refine aB (λhx=>?_) (λhx=>?_);rotate_left
  .have hx:k=l.length:=by have:=a_ hx;omega
   rw[hx,oT]at hb;refine(hb.told (by omega) hs2 (by omega)).mono ?_;rintro _ w3 ⟨rfl,s3⟩;exact .inl ⟨_,rfl,rfl,s3⟩
  have hx:k<l.length:=by have:=aT hx;omega
  obtain⟨b,wp,wc,rfl,c0,c1,c2,c3,c4,c5,hsw⟩:=(hv.still hs2).fields hx;have hwk:=adY hx;have hpk:=DM (l.take k);have NZ:=l[k].uR;have hcl:=avq l[k];rw[bT];refine⟨λbl=>Bd bl w.heap.size (w.heap.size+1) (aIy (l.take (k+1)))/\Still w bl/\w1.heap.size<=bl.heap.size,⟨by omega,by omega,_,_,_,_,_,_,_,_,c0,c1,c2,c3,c4,c5,wQ rfl ag6 λw4 r4 s4 z4=>?_⟩,?_⟩;rotate_left
  .rintro _ bl ⟨h1,h2,h3⟩
   rw[show i64.wrap ((k:Int)+1)=((k+1:Nat):Int) by rw[wrap_i64 (by omega) (by omega)];omega];exact⟨⟨k+1,rfl,hx,h1,h2,h3⟩,by dsimp only;omega⟩
  have hb4:=hb.still s4;have hs4:=hs2.trans s4;have CK:w1.heap.size<=w4.heap.size:=by omega
  refine⟨λb w5=>b=(decide (l[k].k=0)&&l[k].q)/\w5=w4,⟨_,r4.aj rfl,aB (λh=>⟨_,r4.aj rfl,?_,rfl⟩) (λh=>⟨?_,rfl⟩)⟩,?_⟩
  .rw[h,zu]
  .rw[h,Qd]
  rintro b' _ w5 ⟨hb',rfl⟩
  -- what is told is put behind
  have put:∀(s:ag) (w6:World),Still w5 w6->l[k].pr=s->aH3 iA #[.pointer (some (Addr.mk w.heap.size 0 none)),.string (S s)] w6 (λed w7=>(∃r1:Int,∃r2:Value,r2.oneCell'=true/\ed=.returned (.tuple #[.int .i64 r1,r2])/\Bd w7 w.heap.size (w.heap.size+1) (aIy (l.take (k+1)))/\Still w w7/\w1.heap.size<=w7.heap.size)\/(∃ch,ed=.panicked ch/\(Ending.panicked ch=.returned (.string (S (aIy l)))/\Still w w7))):=by intro s w6 s6 hs;have hps:=l[k].aeF;refine((hb4.still s6).write s (by have:=s6.size;omega) (by rw[<-hs];omega) (hs4.trans s6) (aW _) (by omega)).mono ?_;rintro _ w7 ⟨rfl,h7,s7,z7⟩;refine .inl ⟨_,_,rfl,rfl,by rw[avp hx,hs];exact h7,s7,by have:=s6.size;omega⟩
  refine aB (λh=>?_) (λh=>⟨_,r4.aj rfl,aB (λh3=>?_) (λh3=>⟨_,r4.aj rfl,aB (λh5=>?_) (λh5=>?_)⟩)⟩)
  .rw[h]at hb'
   have hk0:l[k].k=0/\l[k].q=true:=by simpa using hb'.symm
   refine⟨_,r4.aj rfl,(Y0 39 [39,92,39,39] l[k].t (by omega) (by decide) (by decide) (by decide)).mono ?_⟩;rintro _ w6 ⟨rfl,s6⟩;have gT:=aas l[k].t;rw[aqq]at gT;simp only[aIa,bf,cm]at gT;exact .inl ⟨_,rfl,by simp only[bf,cm];omega,by simp only[aIa,bf,cm];omega,put _ w6 s6 (by rw[LR,aR hk0.1,aR hk0.2];rfl)⟩
  .have hk0:l[k].k=0:=aT h3
   have hq0:l[k].q=false:=by rw[h,hk0]at hb';simpa using hb'.symm
   exact⟨_,r4.aj rfl,put _ _ (Still.refl _) (by rw[LR,aR hk0,aL (by rw[hq0];decide)])⟩
  .have hk0:¬l[k].k=0:=a_ h3
   refine⟨_,_,_,_,_,_,_,_,r4.aj rfl,r4.aj rfl,r4.aj rfl,r4.aj rfl,r4.aj rfl,r4.aj rfl,(ada (x:=l[k]) (hsw.still s4) (by omega) λwq hq=>ih _ (by have:=ad6 hx;omega) (by have:=ad7 hx;omega) wq F _ ((hsw.still s4).still hq)).mono ?_⟩;rintro _ w6 ⟨rfl,s6⟩;exact .inl ⟨_,rfl,by simp only[bf,cm];omega,by simp only[aIa,bf,cm];omega,put _ w6 s6 (by rw[LR,aL hk0,D5,aR h5];rfl)⟩
  .have hk0:¬l[k].k=0:=a_ h3
   refine⟨_,_,_,_,_,_,_,_,r4.aj rfl,r4.aj rfl,r4.aj rfl,r4.aj rfl,r4.aj rfl,r4.aj rfl,(ada (x:=l[k]) (hsw.still s4) (by omega) λwq hq=>ih _ (by have:=ad6 hx;omega) (by have:=ad7 hx;omega) wq F _ ((hsw.still s4).still hq)).mono ?_⟩;rintro _ w6 ⟨rfl,s6⟩;exact .inl ⟨_,rfl,put _ w6 s6 (by rw[LR,aL hk0,D5,aL (by rw[h5];decide)])⟩
def aa3{F:Nat->Prop}{l:List Pt}{v:Value}(hv:cv w F l v)(hl:cz l<1000000):aH3 tv #[v] w (λe w'=>e=.returned (.string (S (aIy l)))/\Still w w'):=avr _ l (nr _) hl w F v hv
end Go.Proofs.YtihaaoehhgmphaaGreatDoor.L
namespace Go.Proofs.YtihaaoehhgmphaaGreatDoor.L.U
open IntKind Go.RowKit Vc
variable{w:World}
def Ss(w:World)(B:Nat)(l:List ag)(v:Value):Prop:=∃p c,v=.slice p l.length c/\aV w B 9 1 v l.length (bI l)
def Ss.still{w':World}{B:Nat}{l:List ag}{v:Value}(h:Ss w B l v)(hm:Still w w'):Ss w' B l v:=by obtain⟨p,c,rfl,ho⟩:=h;exact⟨p,c,rfl,ho.still hm⟩
def Ss.form{B:Nat}{l:List ag}{v:Value}(h:Ss w B l v):∃p c,v=.slice p l.length c:=by obtain⟨p,c,he,_⟩:=h;exact⟨p,c,he⟩
def aa4(sep:ag)(l:List ag):Lib.join l sep=HT sep l:=by
 cases l with
 |nil=>rfl
 |cons x r=>rw[Lib.join_cons];simp only[Lib.joinTail,HT,List.flatMap_def]
def arK{B:Nat}{l:List ag}{p:Option Addr}{c:Nat}(h:Ss w B l (.slice p l.length c))(sep:ag)(hl:l.length<=1000000000)(hj:(HT sep l).length<=140737488355328):
  aH3 zw #[.slice p l.length c,.string (S sep)] w (λe w'=>e=.returned (.string (S (HT sep l)))/\Still w w'):=by
 by_cases h0:l=[]
 .subst h0
  refine(Tryz.strings_Join_none p c (S sep) w).mono ?_;rintro _ w' ⟨rfl,rfl⟩;exact⟨rfl,Still.refl _⟩
 .obtain⟨p',c',he,ho⟩:=h
  injection he with e1 e2 e3;subst e1 e3;obtain⟨g,cap,he,_,hg,hcap,hcell⟩:=ho.wz (mJ.2 h0);injection he with e1 e2 e3;subst e1 e3;have hm:(l.map S).map (·.data.toList)=l:=by rw[Dm];exact QB l
  have hJ:=Tryz.strings_Join g 0 c (l.map S) (S sep) w (λj x hx=>by
   rw[vM]at hx;cases hj:l[j]? with
   |none=>rw[hj]at hx;cases hx
   |some y=>rw[hj]at hx;obtain rfl:=bM hx;rw[cE];exact hcell j _ (by simp[bI,hj])) hg (by rw[aIB];omega) (by rw[aIB];exact hcap) (by rw[hm];show(Lib.join l sep).length<=_;rw[aa4];exact hj)
  rw[aIB,hm]at hJ;refine hJ.mono ?_;rintro e w' ⟨rfl,hb⟩;refine⟨?_,(Still.refl w).trans' hb (aW _)⟩;show Ending.returned (.string ⟨⟨Lib.join l sep⟩⟩)=_
  rw[aa4]
def adb(z:Value):∀n,sI [z] n=List.replicate n z
 |0=>rfl
 |n+1=>by
  rw[JQ];show[z]++sI [z] n=_
  rw[adb z n];rfl
def ir(l:List ag)(n k:Nat):List ag:=l.take k++List.replicate (n-k) []
def avs(l:List ag)(n:Nat):ir l n 0=List.replicate n []:=by simp[ir]
def awK(l:List ag):ir l l.length l.length=l:=by simp[ir]
def awL{l:List ag}{k:Nat}(h:k<l.length):(bI (ir l l.length k)).set k (.string (S l[k]))=bI (ir l l.length (k+1)):=by unfold bI ir;rw[qX,qX,C4 _ _ (by rw[aIB,eH];omega),aIB,eH,vR (by omega),Ku,show l.length-k=(l.length-(k+1))+1 by omega,JQ,fW,XV,take_one h,qX,mL];rfl
def awM(l:List ag){k:Nat}(h:k<=l.length):(bI (ir l l.length k)).length=l.length:=by simp[bI,ir];omega
def Ss.made{g:Nat}{l:List ag}{B:Nat}(hr:Row w g 9 ⟨bI l⟩)(hB:B<=g)(hl:l.length<=1000000000):Ss w B l (.slice (some ⟨g,0,none⟩) l.length l.length):=by
 have hs:(bI l).length=l.length:=by simp[bI]
 exact⟨_,_,rfl,by rw[hs,eX],.inr ⟨g,l.length,⟨bI l⟩,rfl,hB,hr,aW _,lH hl (by decide),by show(bI l).length=_;rw[hs,eX],by rw[eX,<-hs];exact oT⟩⟩
def yf(w:World)(l:List ag)(x:Int)(w2:World):Prop:=∃k:Nat,x=(k:Int)/\k<=l.length/\Row w2 w.heap.size 9 ⟨bI (ir l l.length k)⟩/\Still w w2
def K_{l:List ag}{n:Nat}(hn:l.length=n){K:World->Prop}(h:∀w1,yf w l 0 w1->K w1):cS (w.alloc (.cells (madeCells #[.string (S [])] (Int.toNat (n:Int)*1)) 9)) K:=by
 have e:madeCells #[.string (S [])] (Int.toNat (n:Int)*1)=⟨bI (ir l l.length 0)⟩:=by rw[bT,avs,hn];have:=Y1 [.string (S [])] n;rw[show[Value.string (S [])].length=1 from rfl]at this;rw[this,adb];simp[bI]
 rw[e];exact aP λw1 r1 s1 _=>h w1 ⟨0,rfl,dx _,r1,s1⟩
def ade{l:List ag}{k:Nat}(hk:k<l.length){w2 w3:World}(hr:Row w2 w.heap.size 9 ⟨bI (ir l l.length k)⟩)(hs:Still w w2)(s3:Still w2 w3){K:World->Prop}(h:∀w',yf w l ((k+1:Nat):Int) w'->K w'):
  cJ ((Addr.mk w.heap.size 0 none).add (Int.toNat (k:Int)*1)) K 0 [.string (S l[k])] w3:=by
 rw[bR,bT,eX,cE];refine aH5 (hr.still s3) (by rw[awM _ (by omega)];simp only[bf,cm];omega) (by simp[Value.oneCell']) λw' r' m' z'=>h w' ⟨k+1,rfl,hk,?_,Mod.trans (hs.trans s3) m' (λ_ h=>h) (λi hi e=>by omega)⟩;have e:fR (bI (ir l l.length k)) k [.string (S l[k])]=(bI (ir l l.length k)).set k (.string (S l[k])):=rfl;rw[e,awL hk]at r';exact r'
def Lu{w':World}{l:List ag}{x:Int}{n:Nat}(hn:l.length=n)(hl:l.length<=1000000000)(hx:¬(x<(n:Int)))(h:yf w l x w'):∃p c,Value.slice (some (Addr.mk w.heap.size 0 none)) (Int.toNat (n:Int)) (Int.toNat (n:Int))=.slice p l.length c/\Ss w' w.heap.size l (.slice p l.length c)/\Still w w':=by
 obtain⟨k,rfl,hk,hr,hs⟩:=h;have:k=l.length:=by omega
 subst this;rw[awK]at hr;rw[bT,<-hn];exact⟨_,_,rfl,Ss.made hr (aW _) hl,hs⟩
def R_{fn:FuncId}{K:FuncId->List Value->List Value->Prop}(h:K fn [] []):gN (.func (.func fn) #[] #[]) K:=h
def Told(w:World)(l:List ag)(e:Ending)(w':World):Prop:=∃p c,e=.returned (.slice p l.length c)/\Ss w' w.heap.size l (.slice p l.length c)/\Still w w'
set_option maxRecDepth 10000 in
def avt{F:Nat->Prop}{l:List Nd}{p:Option Addr}{n c:Nat}{fn:FuncId}(hv:vm.At w F l (.slice p n c))(hl:l.length<=1000000000)(hc:dP aM fn=true)(tx:Nd->ag)
  (ih:∀x∈l,∀(w1:World) (cs:List Value),Still w w1->eM w1 F x cs->aH3 fn #[.agg ⟨cs⟩] w1 (λe w'=>e=.returned (.string (S (tx x)))/\Still w1 w')):
  aH3 137 #[.slice p n c,.func (.func fn) #[] #[]] w (Told w (l.map tx)):=by
 obtain⟨rfl,_⟩:=hv.len;have hm:(l.map tx).length=l.length:=aIB ..;refine aj1 _ _ _ _ _ _ ?_;refine⟨by omega,by omega,by omega,by omega,K_ hm λw1 h1=>⟨yf w (l.map tx),λx _=>l.length-x.toNat,h1,?_⟩⟩;rintro x _ w2 h2;refine aB (λhx=>?_) (λhx=>?_);rotate_left
 .obtain⟨p',c',he,hS,hs⟩:=Lu hm (by omega) (a_ hx) h2
  exact⟨p',c',gK Ending.returned he,hS,hs⟩
 obtain⟨k,rfl,hk,hr,hs⟩:=h2;have hk:k<l.length:=by have:=aT hx;omega
 obtain⟨b,cs,rfl,_,hE,hcell⟩:=(hv.still hs).get (gJ hk);have hE:eM w2 F l[k] cs:=hE;obtain⟨pw,cw,pa,ca,pr,cr,po,co,pk,ck,rfl,_⟩:=hE.outs;have hcell:pO w2 (b.add (k*8)) _:=hcell;have e1:i64.wrap ((k:Int)+1)=((k+1:Nat):Int):=by rw[wrap_i64 (by omega) (by omega)];omega
 rw[e1];have et:Int.toNat (k:Int)=k:=bT k;have hput:=λw5 (s5:Still w2 w5)=>ade (w:=w) (l:=l.map tx) (k:=k) (by omega) hr hs s5 (K:=λw'=>yf w (l.map tx) ((k+1:Nat):Int) w'/\l.length-((k+1:Nat):Int).toNat<l.length-((k:Int)).toNat) λw' h'=>⟨h',by rw[bT,bT];omega⟩;rw[et]at hput⊢;refine⟨by omega,by omega,_,_,_,_,_,_,_,_,_,_,_,_,_,_,_,_,_,_,hcell.zero,hcell 1 _ rfl,hcell 2 _ rfl,hcell 3 _ rfl,hcell 4 _ rfl,hcell 5 _ rfl,hcell 6 _ rfl,hcell 7 _ rfl,wQ rfl (by simp[Value.oneCell']) λw4 r4 s4 z4=>?_⟩;refine⟨_,_,_,_,_,_,_,_,_,_,_,_,_,_,_,_,_,_,r4.aj rfl,r4.aj rfl,r4.aj rfl,r4.aj rfl,r4.aj rfl,r4.aj rfl,r4.aj rfl,r4.aj rfl,R_ (aB (λ_=>?_) (λh=>by rw[hc]at h;cases h))⟩;refine(ih l[k] (ou hk) w4 _ (hs.trans s4) (hE.still s4)).mono ?_;rintro _ w5 ⟨rfl,s5⟩;have ek:(l.map tx)[k]'(by omega)=tx l[k]:=Yl ..;have hput:=hput w5 (s4.trans s5);rw[ek]at hput;exact .inl ⟨_,rfl,by omega,by omega,hput⟩
set_option maxRecDepth 10000 in
def avu{F:Nat->Prop}{l:List (List Pt)}{p:Option Addr}{n c:Nat}{fn:FuncId}(hv:aKm.At w F l (.slice p n c))(hl:l.length<=1000000000)(hc:dP aM fn=true)(tx:List Pt->ag)
  (ih:∀x∈l,∀(w1:World) (v:Value),Still w w1->cv w1 F x v->aH3 fn #[v] w1 (λe w'=>e=.returned (.string (S (tx x)))/\Still w1 w')):
  aH3 136 #[.slice p n c,.func (.func fn) #[] #[]] w (Told w (l.map tx)):=by
 obtain⟨rfl,_⟩:=hv.len;have hm:(l.map tx).length=l.length:=aIB ..;refine aj0 _ _ _ _ _ _ ?_;refine⟨by omega,by omega,by omega,by omega,K_ hm λw1 h1=>⟨yf w (l.map tx),λx _=>l.length-x.toNat,h1,?_⟩⟩;rintro x _ w2 h2;refine aB (λhx=>?_) (λhx=>?_);rotate_left
 .obtain⟨p',c',he,hS,hs⟩:=Lu hm (by omega) (a_ hx) h2
  exact⟨p',c',gK Ending.returned he,hS,hs⟩
 obtain⟨k,rfl,hk,hr,hs⟩:=h2;have hk:k<l.length:=by have:=aT hx;omega
 obtain⟨b,cs,rfl,_,⟨v,rfl,hE⟩,hcell⟩:=(hv.still hs).get (gJ hk);obtain⟨q,d,rfl⟩:=hE.form;have hcell:pO w2 (b.add (k*1)) _:=hcell;have e1:i64.wrap ((k:Int)+1)=((k+1:Nat):Int):=by rw[wrap_i64 (by omega) (by omega)];omega
 rw[e1];have et:Int.toNat (k:Int)=k:=bT k;have hput:=λw5 (s5:Still w2 w5)=>ade (w:=w) (l:=l.map tx) (k:=k) (by omega) hr hs s5 (K:=λw'=>yf w (l.map tx) ((k+1:Nat):Int) w'/\l.length-((k+1:Nat):Int).toNat<l.length-((k:Int)).toNat) λw' h'=>⟨h',by rw[bT,bT];omega⟩;rw[et]at hput⊢;refine⟨by omega,by omega,_,_,_,hcell.zero,R_ (aB (λ_=>?_) (λh=>by rw[hc]at h;cases h))⟩;refine(ih l[k] (ou hk) w2 _ hs hE).mono ?_;rintro _ w5 ⟨rfl,s5⟩;have ek:(l.map tx)[k]'(by omega)=tx l[k]:=Yl ..;have hput:=hput w5 s5;rw[ek]at hput;exact .inl ⟨_,rfl,by omega,by omega,hput⟩
end Go.Proofs.YtihaaoehhgmphaaGreatDoor.L.U
namespace Go.Proofs.YtihaaoehhgmphaaGreatDoor.L.U
open IntKind Go.RowKit Vc
set_option maxRecDepth 10000
variable{w:World}
def Ss.app{w0:World}{B n m:Nat}{l k:List ag}{p q:Option Addr}{c:Nat}{K:Option Addr->Nat->World->Prop}(h:Ss w B l (.slice p n c))(h0:Still w0 w)(EN:w0.heap.size<=B)(hB:B<=w.heap.size)(hk:c_ w q m k)(hs:n+m<=1000000000)
  (hK:∀p' c' w',Ss w' B (l++k) (.slice p' (n+m) c')->Still w0 w'->w.heap.size<=w'.heap.size->K p' c' w'):dA w 9 1 16 p n c q m K:=by
 obtain⟨p',c',he,ho⟩:=h;injection he with e1 e2 e3;subst e1 e2 e3;refine qq ho hB (bI k) (by rw[KT,hk.1,eX]) (aut k) (λhm=>hk.2 hm) (by omega) (by omega) λp' c' w' ho' hm _=>?_;have hz:=hm.size;refine hK p' c' w' ⟨p',c',by rw[aIa,hk.1],?_⟩ (h0.own ho EN hm) hz;rw[KS,aIa,hk.1];exact ho'
def Ss.bI{B n:Nat}{l:List ag}{p:Option Addr}{c:Nat}(h:Ss w B l (.slice p n c)):c_ w p n l:=by obtain⟨p',c',he,ho⟩:=h;injection he with e1 e2 e3;subst e1 e2 e3;exact c_.of ho
def atB{f:Value}{p:Option Addr}{c:Nat}:aH3 JB #[.slice p 0 c,f] w (Told w []):=by
 refine ajU _ _ _ _ _ _ ?_;refine⟨by decide,by decide,by decide,by decide,K_ (l:=[]) (n:=0) rfl λw1 h1=>⟨yf w [],λ_ _=>0,h1,?_⟩⟩;rintro x _ w2 h2;refine aB (λhx=>?_) (λhx=>?_)
 .obtain⟨k,rfl,hk,_⟩:=h2
  have:=aT hx;omega
 .obtain⟨p',c',he,hS,hs⟩:=Lu (n:=0) rfl (by decide) (a_ hx) h2
  exact⟨p',c',gK Ending.returned he,hS,hs⟩
def atC{f:Value}{p:Option Addr}{c:Nat}:aH3 OM #[.slice p 0 c,f] w (Told w []):=by
 refine ajQ _ _ _ _ _ _ ?_;refine⟨by decide,by decide,by decide,by decide,K_ (l:=[]) (n:=0) rfl λw1 h1=>⟨yf w [],λ_ _=>0,h1,?_⟩⟩;rintro x _ w2 h2;refine aB (λhx=>?_) (λhx=>?_)
 .obtain⟨k,rfl,hk,_⟩:=h2
  have:=aT hx;omega
 .obtain⟨p',c',he,hS,hs⟩:=Lu (n:=0) rfl (by decide) (a_ hx) h2
  exact⟨p',c',gK Ending.returned he,hS,hs⟩
def EC(w:World)(t:ag)(e:Ending)(w':World):Prop:=e=.returned (.string (S t))/\Still w w'
def ab5{B:Nat}{t:ag}{p:Option Addr}{c:Nat}(h:Ss w B [t] (.slice p 1 c))(sep:ag)(ht:t.length<=1000):aH3 zw #[.slice p 1 c,.string (S sep)] w (EC w t):=by have e:HT sep [t]=t:=zl t;have:=arK h sep (by show 1<=_;decide) (by rw[e];omega);rw[e]at this;exact this
def aqr{F:Nat->Prop}{wd:List Pt}{cs:List Value}(hx:eM w F (.mk 0 false [] [wd] [] [] [] []) cs)(hp:∀{w:World} {F:Nat->Prop} {v:Value},cv w F wd v->aH3 tv #[v] w (λe w'=>e=.returned (.string (S (aIy wd)))/\Still w w'))(hl:(aIy wd).length<=1000):aH3 FG #[.agg ⟨cs⟩] w (EC w (aIy wd)):=by
 obtain⟨pw,cw,pa,ca,pr,cr,po,co,pk,ck,rfl,hw,ha,hr,_,_⟩:=hx.outs;refine alX _ _ _ _ _ _ _ _ _ _ _ _ _ _ _ _ _ _ _ _ ?_;refine aP λw1 r1 s1 z1=>⟨_,_,_,r1.aj rfl,atB.mono ?_⟩;rintro _ w2 ⟨p1,c1,rfl,hS1,s2⟩;refine .inl ⟨_,_,_,rfl,_,_,_,(r1.still s2).aj rfl,atC.mono ?_⟩;rintro _ w3 ⟨p2,c2,rfl,V5,s3⟩;refine .inl ⟨_,_,_,rfl,(hS1.still s3).app (s2.trans s3) (aW _) (by have:=s2.size;have:=s3.size;omega) V5.bI (by decide) λp3 c3 w4 V9 s4 z4=>?_⟩;refine⟨_,_,_,(r1.still s4).aj rfl,(avu (l:=[wd]) ((hw.still s1).still s4) (show 1<=1000000000 by decide) (show dP aM tv=true by kernel_rfl) aIy λx hx w1 v _ hE=>?_).mono ?_⟩
 .obtain rfl:=aIA.1 hx
  exact hp hE
 rintro _ w5 ⟨p5,c5,rfl,hS5,s5⟩;refine .inl ⟨_,_,_,rfl,(V9.still s5).app (s4.trans s5) (aW _) (by have:=s4.size;have:=s5.size;omega) hS5.bI (show 0+0+1<=1000000000 by decide) λp6 c6 w6 hS6 s6 z6=>?_⟩;refine Calls.mono (amx _ _ _ w6 (EC w6 (aIy wd)) ?_) ?_
 .refine(ab5 hS6 [32] hl).mono ?_
  rintro _ w7 ⟨rfl,s7⟩;exact .inl ⟨_,rfl,rfl,s7⟩
 .rintro _ w7 ⟨rfl,s7⟩
  exact .inl ⟨_,rfl,rfl,(s1.trans s6).trans s7⟩
def af3:List Value:=[.func (.func FG) #[] #[],.func (.func YO) #[] #[],.func (.func YD) #[] #[],.func (.func Ko) #[] #[],.func (.func YE) #[] #[],.func (.func Y2) #[] #[],.func (.func Yx) #[] #[],.func (.func YP) #[] #[],.func (.func Yn) #[] #[],.func (.func YF) #[] #[],.func (.func YQ) #[] #[],.func (.func Yc) #[] #[]]
def ab6{F:Nat->Prop}{x:Nd}{cs:List Value}{fn:FuncId}{t:ag}(hx:eM w F x cs)(h0:0<=x.k)(h1:x.k<4)(ht:af3[x.k.toNat]?=some (.func (.func fn) #[] #[]))(hc:dP aM fn=true)(hsp:∀(w:World) (F:Nat->Prop) (cs:List Value),eM w F x cs->aH3 fn #[.agg ⟨cs⟩] w (EC w t)):aH3 Di #[.agg ⟨cs⟩] w (EC w t):=by
 have hx':=hx;obtain⟨pw,cw,pa,ca,pr,cr,po,co,pk,ck,rfl,_⟩:=hx.outs;refine amc _ _ _ _ _ _ _ _ _ _ _ _ _ _ _ _ _ _ _ _ ?_;refine aP λw1 r1 s1 z1=>wQ rfl (by simp[Value.oneCell']) λw3 r3 s3 z3=>?_;have r3:Row w3 w1.heap.size _ ⟨af3⟩:=r3;refine⟨_,(r1.still s3).aj rfl,aB (λh=>absurd (aT h) (by omega)) (λ_=>⟨_,(r1.still s3).aj rfl,aB (λh=>absurd (aT h) (by omega)) (λ_=>?_)⟩)⟩;have sD:=gV w3;have iK:=(s1.trans s3).trans sD;refine⟨λwq=>Still w3 wq,sD,x.k,λwq hq=>((r1.still s3).still hq).aj rfl,h0,(show x.k<((12:Nat):Int) by omega),_,rfl,λwq hq=>?_,_,_,_,_,_,_,_,_,_,_,_,_,_,_,_,_,_,_,λwq hq=>((r1.still s3).still hq).aj rfl,λwq hq=>((r1.still s3).still hq).aj rfl,λwq hq=>((r1.still s3).still hq).aj rfl,λwq hq=>((r1.still s3).still hq).aj rfl,λwq hq=>((r1.still s3).still hq).aj rfl,λwq hq=>((r1.still s3).still hq).aj rfl,λwq hq=>((r1.still s3).still hq).aj rfl,λwq hq=>((r1.still s3).still hq).aj rfl,R_ (fn:=fn) (aB (λ_=>?_) (λh=>by rw[hc]at h;cases h))⟩
 .rw[bR,cE,eX]
  exact(r3.still hq).aj ht
 refine(hsp w3.drew F _ (hx'.still iK)).mono ?_;rintro _ w4 ⟨rfl,s4⟩;have r4:=((r1.still s3).still sD).still s4;exact .inl ⟨_,rfl,_,r4.aj rfl,aB (λh=>absurd (aT h) (by omega)) (λ_=>⟨rfl,iK.trans s4⟩)⟩
def arL{F:Nat->Prop}{wd:List Pt}{cs:List Value}(hx:eM w F (.mk 3 false [] [] [] [] [] [.mk 0 false [] [wd] [] [] [] []]) cs)(hp:∀{w:World} {F:Nat->Prop} {v:Value},cv w F wd v->aH3 tv #[v] w (λe w'=>e=.returned (.string (S (aIy wd)))/\Still w w'))(hl:(aIy wd).length<=1000):aH3 Di #[.agg ⟨cs⟩] w (EC w (aIy wd)):=by
 refine ab6 hx (show(0:Int)<=3 by decide) (show(3:Int)<4 by decide) (fn:=Ko) rfl (by kernel_rfl) λw F cs hx=>?_;obtain⟨pw,cw,pa,ca,pr,cr,po,co,pk,ck,rfl,_,_,_,_,hk⟩:=hx.outs;refine amw _ _ _ _ _ _ _ _ _ _ _ _ _ _ _ _ _ _ _ _ ?_;refine aP λw1 r1 s1 z1=>⟨_,_,_,r1.aj rfl,(avt (l:=[.mk 0 false [] [wd] [] [] [] []]) (hk.still s1) (show 1<=1000000000 by decide) (show dP aM Di=true by kernel_rfl) (λ_=>aIy wd) λy hy w1 cs _ hE=>?_).mono ?_⟩
 .obtain rfl:=aIA.1 hy
  exact ab6 hE (show(0:Int)<=0 by decide) (show(0:Int)<4 by decide) (fn:=FG) rfl (by kernel_rfl) λw F cs hx=>aqr hx hp hl
 rintro _ w2 ⟨p,c,rfl,hS,s2⟩;refine .inl ⟨_,_,_,rfl,(ab5 hS [59,32] hl).mono ?_⟩;rintro _ w3 ⟨rfl,s3⟩;exact .inl ⟨_,rfl,rfl,(s1.trans s2).trans s3⟩
end Go.Proofs.YtihaaoehhgmphaaGreatDoor.L.U
namespace Go.Proofs.YtihaaoehhgmphaaGreatDoor
open IntKind Go.RowKit Vc
set_option maxRecDepth 100000
variable{w w0:World}
def ayM:L.Nd:=⟨3,false,[],[],[],[],[],[⟨0,false,[],[[⟨0,false,[97],[],[],[]⟩]],[],[],[],[]⟩]⟩
def ad8:L.aJu [97]=(ayM,0):=by kernel_rfl
def apo{g:Nat}{t:ag}(hr:Row w g 51 ⟨[.int .i64 0,.bool true,.string (S t),.string (S []),.string (S []),.slice none 0 0]⟩):L.cv w (λ_=>True) [⟨0,true,t,[],[],[]⟩] (.slice (some ⟨g,0,none⟩) 1 1):=
 ⟨_,_,rfl,aW _,λ_=>⟨_,rfl,trivial,L.oA.of (v:=.slice none 0 0) (λj u hu=>by rw[bR,cE];exact hr.aj hu) (L.cv.nil _ _ _ _),trivial⟩⟩
def apq{g:Nat}(hr:Row w g 51 ⟨[.int .i64 0,.bool true,.string (S [97]),.string (S []),.string (S []),.slice none 0 0]⟩):aH3 tv #[.slice (some ⟨g,0,none⟩) 1 1] w (λe w'=>e=.returned (.string (S [39,97,39]))/\Still w w'):=by
 have h:=L.aa3 (apo hr) (by decide);have e:L.aIy [⟨0,true,[97],[],[],[]⟩]=[39,97,39]:=by kernel_rfl
 rw[e]at h;exact h
def arM(aH9:fN w):aH3 Q0 #[] w (λe w'=>e=.returned (.bool true)/\Still w w'):=by
 refine anH _ _ ?_;refine RY.mono ?_;rintro _ w1 ⟨rfl,hst,s1,_⟩;refine .inl ⟨_,rfl,aB (λh=>by cases h) (λ_=>?_)⟩;obtain⟨s',hex,e1,e2,e3⟩:=avk;refine(ac3 aH9 s1 hst (λx hx=>by cases hx) aeX [] (fuel:=20) (by decide) aqn hex).mono ?_;rintro _ w2 ⟨⟨p1,n1,c1,cw,p2,n2,c2,p3,n3,c3,i1,i2,i3,i4,rfl⟩,_,_,s2,z2⟩;rw[e1,e2,e3];refine .inl ⟨_,_,_,_,_,_,_,_,_,_,_,_,_,_,_,_,_,rfl,aP λw3 r3 s3 z3=>?_⟩;refine aH5 (g:=w2.heap.size) (o:=0) r3 (by simp) (by simp[Value.oneCell']) λw4 r4 m4 z4=>?_;have iL:Still w w4:=(s2.trans s3).box s2.size m4;refine(A.avo (aH9.still iL).env).mono ?_;rintro _ w5 ⟨⟨q,_,_,rfl⟩,s5⟩;have od:=iL.trans s5;refine .inl ⟨_,_,_,_,_,rfl,(arJ (n:=9) (by decide) (by decide)).mono ?_⟩;rintro _ w6 ⟨⟨a6,rfl⟩,s6⟩;have oe:=od.trans s6;refine .inl ⟨_,_,rfl,(L.aa2 [97] (by rw[ad8])).mono ?_⟩;rintro _ w7 ⟨cs,rfl,hn,s7⟩;rw[ad8]at hn⊢;have Wm:=oe.trans s7;obtain⟨pw,cw',pa,ca,pr,cr,po,co,pk,ck,rfl,_⟩:=hn.outs;refine .inl ⟨_,_,_,_,_,_,_,_,_,_,_,_,_,_,_,_,_,_,_,rfl,aP λw8 r8 s8 z8=>?_⟩;refine aH5 (g:=w7.heap.size) (o:=0) r8 (by simp) (by simp[Value.oneCell']) λw9 r9 m9 z9=>?_;have pE:Still w7 w9:=s8.box (aW _) m9;have aKc:=Wm.trans pE;refine aP λaO aIe iN pz=>?_;have hA:aIj aO (some ⟨w9.heap.size,0,none⟩) 1 [[101,99,104,111]]:=⟨by simp,λ_=>⟨_,_,rfl,aIe.lt,λj u hu=>by rw[cE];exact aIe.aj hu⟩⟩;refine(Lf (fn:=Dp) (by decide) (abR (args:=[]) [] (by decide) (by decide)) (aH9.still (aKc.trans iN)) hA).mono ?_;rintro _ aX ⟨rfl,gU⟩;refine .inl ⟨_,_,_,_,rfl,aP λaH4 ey eN z12=>?_⟩;refine aH5 (g:=aX.heap.size) (o:=0) ey (by simp) (by simp[Value.oneCell']) λbl jE m13 vz=>?_;have Nh:Still w9 bl:=((iN.trans gU).trans eN).box (by have:=iN.size;have:=gU.size;omega) m13;have aAQ:Still w4 bl:=(((s5.trans s6).trans s7).trans pE).trans Nh;have q4:=r4.still aAQ;refine⟨_,_,_,q4.aj rfl,q4.aj rfl,q4.aj rfl,aB (λ_=>?_) (λh=>by simp at h)⟩;refine aB (λ_=>aB (λ_=>aB (λ_=>aB (λ_=>aB (λ_=>?_) (λh=>by cases h)) (λh=>by cases h)) (λh=>by cases h)) (λh=>by cases h)) (λh=>by cases h);have q9:=r9.still Nh;refine⟨_,_,_,_,_,_,_,_,_,_,_,_,_,_,_,_,_,_,q9.aj rfl,q9.aj rfl,q9.aj rfl,q9.aj rfl,q9.aj rfl,q9.aj rfl,q9.aj rfl,q9.aj rfl,?_⟩;refine(L.U.arL (wd:=[⟨0,false,[97],[],[],[]⟩]) (hn.still (pE.trans Nh)) (λh=>L.aa3 h (by decide)) (by decide)).mono ?_;rintro _ bH ⟨rfl,jV⟩;have aKn:L.aIy [⟨0,false,[97],[],[],[]⟩]=[97]:=by kernel_rfl
 rw[aKn];refine .inl ⟨_,rfl,aB (λ_=>?_) (λh=>by cases h)⟩;have q13:=jE.still jV;refine⟨_,q13.aj rfl,aB (λ_=>?_) (λh=>by cases h)⟩;refine aP λbQ qK aJM I8=>(apq qK).mono ?_;rintro _ bW ⟨rfl,oh⟩;exact .inl ⟨_,rfl,rfl,(((aKc.trans Nh).trans jV).trans aJM).trans oh⟩
def awN:(nY.all λp=>decide ((uA p).length<=100))=true:=by decide
def adf{p:List ag}(h:p∈nY):(uA p).length<=100:=by simpa using ql.1 awN p h
def ae1{a:Int}(h0:0<=a)(h1:a<256):∃k:Nat,k<10/\Int.tmod (i64.wrap a) 10=(k:Int):=by rw[wrap_i64 (by omega) (by omega)];have:=Int.tmod_nonneg 10 h0;have:=Int.tmod_lt_of_pos a (b:=10) (by decide);exact⟨(Int.tmod a 10).toNat,by omega,by omega⟩
def rZ(w:World)(g k:Nat):Prop:=∃f0 fr p c,(f0::fr)∈nY/\w.cell? ((Addr.mk g 0 none).add (k*1))=some (.slice p (f0::fr).length c)/\aIj w p c (f0::fr)
def rZ.of{g k g1:Nat}{ty:TypeId}{f0:ag}{fr:List ag}{cs:List Value}(hr:Row w g ty ⟨cs⟩)(h1:Row w g1 b6 ⟨bI (f0::fr)⟩)(hm:(f0::fr)∈nY)(hk:cs[k]?=some (.slice (some ⟨g1,0,none⟩) (f0::fr).length (f0::fr).length)):rZ w g k:=by refine⟨f0,fr,_,_,hm,?_,aW _,λ_=>⟨_,_,rfl,h1.lt,λj u hu=>by rw[cE];exact h1.aj hu⟩⟩;rw[bR,cE,eX];exact hr.aj hk
def aoK(aH9:fN w)(s:ag)(a:Int)(ha:0<=a)(ha':a<256)(b:Int)(hb:0<=b)(hb':b<256):aH3 YN #[.string (S s),.int .u8 a,.int .u8 b] w (λe w'=>e=.returned (.bool true)/\Still w w'):=by
 refine amt _ _ _ _ _ ?_;refine(arM aH9).mono ?_;rintro _ w1 ⟨rfl,s1⟩;refine .inl ⟨_,rfl,aB (λh=>by cases h) (λ_=>?_)⟩;refine aP λw2 r2 s2 z2=>?_;refine aP λw3 r3 s3 z3=>?_;refine aP λw4 r4 s4 z4=>?_;refine aP λw5 r5 s5 z5=>?_;refine aP λw6 r6 s6 z6=>?_;refine aP λw7 r7 s7 z7=>?_;refine aP λw8 r8 s8 z8=>?_;refine aP λw9 r9 s9 z9=>?_;refine aP λaO aIe iN pz=>?_;refine aP λaX aIk gU xh=>?_;refine aP λaH4 ey eN z12=>?_;have t11:=eN;have t10:=gU.trans t11;have t9:=iN.trans t10;have t8:=s9.trans t9;have t7:=s8.trans t8;have t6:=s7.trans t7;have t5:=s6.trans t6;have t4:=s5.trans t5;have t3:=s4.trans t4;have t2:=s3.trans t3;have t1:=s2.trans t2;have t0:=s1.trans t1;refine aB (λ_=>⟨rfl,t0⟩) (λahr=>?_);have ahr:=a_ ahr;have hall:∀k:Nat,k<10->rZ aH4 aX.heap.size k:=by
  intro k hk;have hk:k=0\/k=1\/k=2\/k=3\/k=4\/k=5\/k=6\/k=7\/k=8\/k=9:=by omega
  rcases hk with rfl|rfl|rfl|rfl|rfl|rfl|rfl|rfl|rfl|rfl
  .exact rZ.of (f0:=[115,111,114,116]) (fr:=[]) ey (r2.still t2) (by decide) rfl
  .exact rZ.of (f0:=[115,111,114,116]) (fr:=[[45,114]]) ey (r3.still t3) (by decide) rfl
  .exact rZ.of (f0:=[117,110,105,113]) (fr:=[]) ey (r4.still t4) (by decide) rfl
  .exact rZ.of (f0:=[117,110,105,113]) (fr:=[[45,99]]) ey (r5.still t5) (by decide) rfl
  .exact rZ.of (f0:=[104,101,97,100]) (fr:=[[45,110],[50]]) ey (r6.still t6) (by decide) rfl
  .exact rZ.of (f0:=[116,97,105,108]) (fr:=[[45,110],[49]]) ey (r7.still t7) (by decide) rfl
  .exact rZ.of (f0:=[119,99]) (fr:=[]) ey (r8.still t8) (by decide) rfl
  .exact rZ.of (f0:=[116,114]) (fr:=[[97],[98]]) ey (r9.still t9) (by decide) rfl
  .exact rZ.of (f0:=[103,114,101,112]) (fr:=[[97]]) ey (aIe.still t10) (by decide) rfl
  .exact rZ.of (f0:=[99,117,116]) (fr:=[[45,100],[97],[45,102],[49]]) ey (aIk.still t11) (by decide) rfl
 clear r2 r3 r4 r5 r6 r7 r8 r9 aIe aIk ey;obtain⟨ka,hka,ea⟩:=ae1 ha ha';obtain⟨kb,hkb,eb⟩:=ae1 hb hb';obtain⟨f0,fr,pa,ca,hp,cp,ap⟩:=hall ka hka;obtain⟨g0,gr,pb,cb,hq,cq,aq⟩:=hall kb hkb;rw[ea,eb];refine⟨by decide,by omega,by omega,_,_,_,by rw[bT];exact cp,by decide,by omega,by omega,_,_,_,by rw[bT];exact cq,?_⟩;obtain⟨fp,sp,op,mp,F1,l1⟩:=adX hp (aG:=s) (by omega);obtain⟨fq,sq,oq,mq,F2,l2⟩:=adX hq (aG:=op) (by omega);have t0:=t0.trans (L.gV aH4);have ap:=ap.still (L.gV aH4);have aq:=aq.still (L.gV aH4);generalize aH4.drew=v0 at*;refine(Lf mp F1 (aH9.still t0) ap).mono ?_;rintro _ v1 ⟨rfl,u1⟩;refine .inl ⟨_,_,_,_,rfl,wQ rfl (by simp[Value.oneCell']) λv2 q2 u2 y2=>?_⟩;have t2:=t0.trans (u1.trans u2);refine⟨_,q2.aj rfl,(Lf mq F2 (aH9.still t2) (aq.still (u1.trans u2))).mono ?_⟩;rintro _ v3 ⟨rfl,u3⟩;refine .inl ⟨_,_,_,_,rfl,wQ rfl (by simp[Value.oneCell']) λv4 q4 u4 y4=>?_⟩;have WW:=((u1.trans u2).trans u3).trans u4;have P:=DY hp;have Q:=DY hq;refine(ab4 (ap.still WW) (by simp) (by have:=P.sz;omega)).mono ?_;rintro _ _ ⟨rfl,rfl⟩;refine .inl ⟨_,rfl,(ab4 (aq.still WW) (by simp) (by have:=Q.sz;omega)).mono ?_⟩;rintro _ _ ⟨rfl,rfl⟩;have n1:=adf hp;have n2:=adf hq;have e1:=arD _ hp _ hq;have e2:=arE _ hp _ hq;unfold afU at e1;unfold afV at e2;refine .inl ⟨_,rfl,by simp;omega,by simp;omega,?_⟩;have t4:=t0.trans WW;obtain⟨s5,x5,es5,eo5,ee5⟩:=awB hp hq (aG:=s) (by omega) mp mq F1 F2 (by omega) (by omega);obtain⟨s6,x6,es6,eo6,ee6⟩:=awE hp hq (aG:=s) (by omega) mp mq F1 F2 (by omega) (by omega);refine(ac8 (aH9.still t4) e1 x5).mono ?_;rintro _ v5 ⟨a5,g5,_,rfl,⟨p1,m1,c1,cw,p2,m2,c2,p3,m3,c3,i1,i2,i3,i4,rfl⟩,_,_,u5⟩;rw[es5,eo5,ee5];refine .inl ⟨_,_,_,_,_,_,_,_,_,_,_,_,_,_,_,_,_,_,rfl,wQ rfl (by simp[Value.oneCell']) λv6 q6 u6 y6=>?_⟩;refine⟨by simp;omega,by simp;omega,by simp;omega,by simp;omega,?_⟩;have t6:=t4.trans (u5.trans u6);refine(ac8 (aH9.still t6) e2 x6).mono ?_;rintro _ v7 ⟨a7,g7,_,rfl,⟨p1',m1',c1',cw',p2',m2',V7,p3',m3',CM,j1,j2,j3,j4,rfl⟩,_,_,u7⟩;rw[es6,eo6,ee6];refine .inl ⟨_,_,_,_,_,_,_,_,_,_,_,_,_,_,_,_,_,_,rfl,wQ rfl (by simp[Value.oneCell']) λv8 q8 u8 y8=>?_⟩;have u68:=u7.trans u8;have u48:=(u5.trans u6).trans u68;have q6:=q6.still u68;have q4:=q4.still u48;refine aB (λ_=>?_) (λh=>by cases h);refine⟨_,_,_,q6.aj rfl,q6.aj rfl,q6.aj rfl,_,_,_,q4.aj rfl,q4.aj rfl,q4.aj rfl,aB (λ_=>?_) (λh=>by simp at h)⟩;exact⟨_,_,_,q8.aj rfl,q8.aj rfl,q8.aj rfl,_,_,_,q4.aj rfl,q4.aj rfl,q4.aj rfl,by simp,t4.trans u48⟩
end Go.Proofs.YtihaaoehhgmphaaGreatDoor
