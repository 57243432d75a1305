/- Texts of one proof, one behind the other. Conditions: as each theorem names them. -/
import Derived.Test.YtihaaoehhgmphaaGreatDoorQ6
import Derived.Lib.IndexLaws
import Derived.Laws.Pointers
set_option linter.all false
namespace Go.Proofs.YtihaaoehhgmphaaGreatDoor.A
open IntKind Go.RowKit Vc
set_option maxRecDepth 100000
def rd(s:ag):Pr (Tm×ag):=(ps (50*s.length+100) (.expr 1) s).getD (.bad 0)
def U_(s:ag):ps (50*s.length+100) (.expr 1) s=some (rd s):=by obtain⟨r,h,_⟩:=rO (50*s.length+100) (.expr 1) s (λ_ _ _ e=>by cases e) (by simp only[mU];omega);unfold rd;rw[h];rfl
def aKO(s:ag):Cl (.expr 1) s (rd s):=kM _ _ _ _ (U_ s)
def iX(s:ag)(V:List Vr):Pr (Int×List Vr):=if trim s=[]then .ok (0,V)else match rd (trim s)with
 |.bad k=>.bad k
 |.ok p=>if trim p.2=[]then ev p.1 V else .bad 130
def agb(w:World)(V:List Vr)(s:ag)(r:Pr (Int×List Vr))(e:Ending)(w':World):Prop:=(match r with
 |.ok p=>eL p.1/\∃q D,e=.returned (.tuple #[.int .i64 p.1,.slice q p.2.length D,.int .i64 0])/\cK w' q p.2.length D p.2/\kZ p.2/\(∀v∈p.2,v.value.length<=140737488355328)/\p.2.length<=V.length+s.length
 |.bad k=>e=.returned (.tuple #[.int .i64 0,.slice none 0 0,.int .i64 (k:Int)]))/\Still w w'
section
variable{w0 w w':World}{b0 b1 b2 n C:Nat}{x y:Int}{p:Option Addr}
def Bx.CN(h:Bx w0 w b0 b1 b2 x p n C y){k:Nat}{R:Ending->World->Prop}(hR:∀w',Still w0 w'->R (.returned (.tuple #[.int .i64 0,.slice none 0 0,.int .i64 (k:Int)])) w'):
  CallsD aM wE #[.pointer (some ⟨b0,0,none⟩),.pointer (some ⟨b1,0,none⟩),.pointer (some ⟨b2,0,none⟩)] (.panicking (k7 k)) w (λed ux w9=>(∃rv,ed=.returned rv)/\settle ux=.returning/\∃v1:Int,w9.cell? ⟨b0,0,none⟩=some (.int .i64 v1)/\∃(v2:Option Addr) (vL vC:Nat),w9.cell? ⟨b1,0,none⟩=some (.slice v2 vL vC)/\∃v3:Int,w9.cell? ⟨b2,0,none⟩=some (.int .i64 v3)/\R (.returned (.tuple #[.int .i64 v1,.slice v2 vL vC,.int .i64 v3])) w9):=by
 have d0:=h.r0.drew;have d1:=h.r1.drew;have d2:=h.r2.drew;have e1:=d1.far (p:=⟨b0,0,none⟩) h.IQ.symm (.int .i64 0);have e2:=d2.far (p:=⟨b0,0,none⟩) h.IS.symm (.int .i64 0);have e0:=d0.fW 0 (.int .i64 0);have f2:=e2.far (p:=⟨b1,0,none⟩) h.IT.symm (.slice none 0 0);have f0:=e0.far (p:=⟨b1,0,none⟩) h.IQ (.slice none 0 0);have f1:=e1.fW 0 (.slice none 0 0);refine(ao0 ⟨b0,0,none⟩ ⟨b1,0,none⟩ ⟨b2,0,none⟩ k w (d0.wr 0 (by simp)) (e1.wr 0 (by simp)) (f2.wr 0 (by simp))).mono ?_;rintro _ u w1 ⟨rfl,hu,rfl⟩;have g0:=f0.far (p:=⟨b2,0,none⟩) h.IS (.int .i64 (k:Int));have g1:=f1.far (p:=⟨b2,0,none⟩) h.IT (.int .i64 (k:Int));have g2:=f2.fW 0 (.int .i64 (k:Int));refine⟨⟨_,rfl⟩,hu,_,g0.aj rfl,_,_,_,g1.aj rfl,_,g2.aj rfl,hR _ ?_⟩;exact((h.st.drew.setCell (.inr h.l0) _).setCell (.inr h.l1) _).setCell (.inr h.l2) _
end
def aKF{w:World}(he:Env w){p:Option Addr}{n C:Nat}{V:List Vr}{s:ag}(hv:cK w p n C V)(hr:kZ V)(JE:∀v∈V,v.value.length<=140737488355328)(hs:s.length<=800000)(hV:V.length+s.length<900000):
  aq Gq #[.string (S s),.slice p n C] w (agb w V s (iX s V)):=by
 have hn:=hv.1;subst hn;have htl:=aH6 s;apply ana;refine aQ λw1 q1 s1 z1=>aQ λw2 q2 s2 z2=>aQ λw3 q3 s3 z3=>aQ λw4 q4 s4 z4=>?_;have iL:Still w w4:=((s1.trans s2).trans s3).trans s4;have bx4:Bx w w4 w.heap.size w1.heap.size w2.heap.size 0 none 0 0 0:=⟨q1.still ((s2.trans s3).trans s4),q2.still (s3.trans s4),q3.still s4,iL,by omega,by omega,by omega⟩;have JF:w.heap.size≠w3.heap.size:=by omega
 have OJ:w1.heap.size≠w3.heap.size:=by omega
 have OK:w2.heap.size≠w3.heap.size:=by omega
 have JG:w.heap.size<=w3.heap.size:=by omega
 have hp4:cX w4 w3.heap.size s:=q4;generalize w3.heap.size=g at*;generalize w2.heap.size=b2 at*;generalize w1.heap.size=b1 at*;generalize hb0:w.heap.size=b0 at bx4 JF⊢;clear q1 q2 q3 q4 s1 s2 s3 s4;have ee:iX s V=if trim s=[]then .ok (0,V)else match rd (trim s)with
  |.bad k=>.bad k
  |.ok p=>if trim p.2=[]then ev p.1 V else .bad 130:=rfl
 refine(Mp hp4).mono ?_;rintro _ w5 ⟨rfl,aJM,tQ⟩;have nh:=bx4.box JG JF OJ OK tQ;refine .inl ⟨_,rfl,_,aJM.aj rfl,aA (λhx=>?_) (λhx=>?_)⟩
 .have hx:=aR hx
  rw[aL hx]at ee;refine aHb nh.r0 λw6 r6 m6 _=>?_;refine aHb (nh.r1.mod m6 nh.IQ.symm) λw7 r7 m7 _=>?_;refine aHb ((nh.r2.mod m6 nh.IS.symm).mod m7 nh.IT.symm) λw8 r8 m8 _=>?_;have CY:Still w w8:=((nh.st.box nh.l0 m6).box nh.l1 m7).box nh.l2 m8;have bx8:Bx w w8 b0 b1 b2 0 p V.length C 0:=⟨(r6.mod m7 nh.IQ).mod m8 nh.IS,r7.mod m8 nh.IT,r8,CY,nh.l0,nh.l1,nh.l2⟩;refine bx8.done ?_;rw[ee];exact⟨⟨(show eL 0 by decide),p,C,rfl,hv.still CY,hr,JE,BY _ _⟩,CY⟩
 have hx:=aX hx;rw[aG hx]at ee;have CN:∀{w':World} {x y:Int} {pp:Option Addr} {nn CC k:Nat},iX s V=.bad k->Bx w w' b0 b1 b2 x pp nn CC y->CallsD aM wE #[.pointer (some ⟨b0,0,none⟩),.pointer (some ⟨b1,0,none⟩),.pointer (some ⟨b2,0,none⟩)] (.panicking (k7 k)) w' (λed ux w9=>(∃rv,ed=.returned rv)/\settle ux=.returning/\∃v1:Int,w9.cell? ⟨b0,0,none⟩=some (.int .i64 v1)/\∃(v2:Option Addr) (vL vC:Nat),w9.cell? ⟨b1,0,none⟩=some (.slice v2 vL vC)/\∃v3:Int,w9.cell? ⟨b2,0,none⟩=some (.int .i64 v3)/\agb w V s (iX s V) (.returned (.tuple #[.int .i64 v1,.slice v2 vL vC,.int .i64 v3])) w9):=by intro w' x y pp nn CC k hk hb;refine hb.CN λw'' azH=>?_;rw[hk];exact⟨rfl,azH⟩
 have hps:=kK he JG _ _ _ _ (U_ (trim s)) nh.st aJM (by simp only[dep];omega);have hps:Calls _ _ _ _ _:=hps;refine hps.mono ?_;intro e aO h10;have hsz:=λt r=>oJ (50*(trim s).length+100) (.expr 1) (trim s) t r;rw[U_]at hsz;have hcl:=aKO (trim s);generalize rd (trim s)=rq at*;cases rq with
 |bad k=>obtain⟨rfl,xy⟩:=h10;exact .inr ⟨_,rfl,CN ee (nh.box JG JF OJ OK xy)⟩
 |ok pr=>
  obtain⟨t,r⟩:=pr;obtain⟨⟨b,rfl,ag7,VN⟩,xy⟩:=h10;have hsz:=hsz t r rfl;simp only[oI]at hsz;dsimp only at ee VN ag7;have azI:=nh.box JG JF OJ OK xy;refine .inl ⟨_,rfl,(Mp VN).mono ?_⟩;rintro _ bh ⟨rfl,VO,IP⟩;have EZ:=azI.box JG JF OJ OK IP;have VM:=cX.tree VN ag7 IP;refine .inl ⟨_,rfl,_,VO.aj rfl,(j5 _ 130).mono ?_⟩;rintro _ bE ⟨h12,rfl⟩
  by_cases htr:trim r=[]
  rotate_left
  .rw[eX htr,aG (by decide)]at h12
   rw[aG htr]at ee;subst h12;exact .inr ⟨_,rfl,CN ee EZ⟩
  rw[fe htr,aL rfl]at h12;rw[aL htr]at ee;subst h12;refine .inl ⟨rfl,aQ λbw ld iE xT=>?_⟩;have VP:=EZ.still iE;have azJ:WS bw bE.heap.size V:=⟨⟨p,C,ld,hv.still VP.st⟩,hr,JE⟩;have lb:=EZ.st.size;have g0:=EZ.r0.lt;have g1:=EZ.r1.lt;have g2:=EZ.r2.lt;have hok:tD t:=ax9 hcl t r rfl (λ_ _ _ e=>by cases e);refine(wP he lb t VP.st hok (VM.still iE) azJ (by omega)).mono ?_;rintro e bO ⟨mw,IM⟩;have oN:=VP.box lb (by omega) (by omega) (by omega) IM;cases hev:ev t V with
  |bad k=>rw[hev]at mw ee;subst mw;exact .inr ⟨_,rfl,CN ee oN⟩
  |ok z=>
   rw[hev]at mw ee;obtain⟨rfl,azK,hi,aFU⟩:=mw;obtain⟨⟨pp,CC,hrow,hvar⟩,EF,azL⟩:=azK;refine .inl ⟨_,rfl,?_⟩;generalize bE.heap.size=gw at*;refine aHb oN.r0 λb8 ri m15 _=>?_;have ne0:b0≠gw:=by omega
   have afr:=hrow.mod m15 ne0.symm;refine⟨λwq=>wq.cell? ⟨b0,0,none⟩=some (.int .i64 z.1)/\wq.cell? ⟨gw,0,none⟩=some (.slice pp z.2.length CC),⟨ri.drew.aj rfl,afr.drew.aj rfl⟩,z.1,λwq hq=>hq.1,pp,_,CC,λwq hq=>hq.2,?_⟩;refine dO ri.drew (by simp[fh]) (by simp[Value.oneCell']) λaHe r16 m16 _=>⟨⟨r16.aj rfl,(afr.drew.mod m16 ne0.symm).aj rfl⟩,?_⟩;have md:Mod (λk=>k=b0) bO aHe:=fN m15 (Tu m16);have bx1:=oN.IQ;have bx2:=oN.IS;have bx3:=oN.IT;refine aHb (oN.r1.mod md bx1.symm) λcF aIe m17 _=>?_;refine aHb ((oN.r2.mod md bx2.symm).mod m17 bx3.symm) λcL xF m18 _=>?_;have agc:Still w cL:=((oN.st.box oN.l0 md).box oN.l1 m17).box oN.l2 m18;have azM:Bx w cL b0 b1 b2 z.1 pp z.2.length CC 0:=⟨(r16.mod m17 bx1).mod m18 bx2,aIe.mod m18 bx3,xF,agc,oN.l0,oN.l1,oN.l2⟩;refine azM.done ?_;rw[ee];refine⟨⟨hi,pp,CC,rfl,?_,EF,azL,by omega⟩,agc⟩
   -- the variables stand where they stood: no box of the results is one of theirs
   have aIZ:Mod (λk=>k=b0\/k=b1\/k=b2) bO cL:=Mod.trans (Mod.trans md m17 (U:=λk=>k=b0\/k=b1\/k=b2) (λ_ h=>.inl h) (λ_ _ h=>.inr (.inl h))) m18 (λ_ h=>h) (λ_ _ h=>.inr (.inr h));rcases oB z.2.length with e|e
   .exact⟨hvar.1,hvar.2.1,λh=>absurd (show 0<z.2.length from h) (by omega),λh=>absurd (show 0<z.2.length from h) (by omega)⟩
   .refine hvar.mod aIZ λa ha hk=>?_
    obtain⟨a',cs,aJN,Vb⟩:=hvar.2.2.2 e;rw[ha]at aJN;injection aJN with aJN;subst aJN;rcases hk with hk|hk|hk
    .exact Vb.ne oN.r0 (by decide) hk
    .exact Vb.ne oN.r1 (by decide) hk
    .exact Vb.ne oN.r2 (by decide) hk
end Go.Proofs.YtihaaoehhgmphaaGreatDoor.A
namespace Go.Proofs.YtihaaoehhgmphaaGreatDoor
open IntKind Go.RowKit Vc
variable{w:World}
def iY(c:UInt8)(nw s:List UInt8):List UInt8:=s.flatMap λb=>if b=c then nw else[b]
def Ln(c:UInt8)(nw s t:List UInt8):iY c nw (s++t)=iY c nw s++iY c nw t:=by simp[iY]
def GK{c:UInt8}{nw:List UInt8}:∀{s:List UInt8},s.count c=0->iY c nw s=s
 |[],_=>rfl
 |b::s,h=>by
  have hb:b≠c:=by rintro rfl;simp at h
  rw[Ki hb]at h;have:=GK (nw:=nw) h;simp only[iY,pW,aG hb]at this⊢;rw[this];rfl
def Lo{c:UInt8}{nw:List UInt8}:∀s:List UInt8,(iY c nw s).length+s.count c=s.length+nw.length*s.count c
 |[]=>by simp[iY]
 |b::s=>by
  have ih:=Lo (c:=c) (nw:=nw) s;have e:iY c nw (b::s)=(if b=c then nw else[b])++iY c nw s:=rfl
  by_cases hb:b=c
  .subst hb
   rw[e,aL rfl,cB,List.count_cons_self,bf,Nat.mul_add];omega
  .rw[e,aG hb,cB,Ki hb,bf]
   simp only[bf,aHf];omega
def count_le{c:UInt8}(s:List UInt8):s.count c<=s.length:=List.count_le_length
def Tv{c:UInt8}:∀{s:List UInt8},0<s.count c->∃k:Nat,Lib.indexByte s c=(k:Int)/\k<s.length/\(s.take k).count c=0/\s[k]?=some c
 |b::s,h=>by
  by_cases hb:b=c
  .subst hb
   exact⟨0,by simp[Lib.indexByte],by simp,by simp,rfl⟩
  .rw[Ki hb]at h
   obtain⟨k,h1,h2,h3,h4⟩:=Tv h;refine⟨k+1,?_,by simp;omega,by rw[Yr,Ki hb];exact h3,by simpa using h4⟩;simp only[Lib.indexByte,h1];have:(b==c)=false:=by simpa using hb
   rw[this];have h2:(((k:Nat):Int)== -1)=false:=by rw[Qg];omega
   simp[h2]
def GV:nT 86 2 0:=by unfold nT;kernel_rfl
def apd(c:UInt8)(nw s:List UInt8)(hs:s.length<=1000000)(h0:nw≠[])(h1:nw.length<=100)(hne:nw≠[c]):
  aq QW #[.string (S s),.string (S [c]),.string (S nw),.int .i64 (-1)] w (λe w'=>e=.returned (.string (S (iY c nw s)))/\Still w w'):=by
 apply alK;have hcl:=count_le (c:=c) s;have hrl:=Lo (c:=c) (nw:=nw) s;have Dd:0<nw.length:=mK.2 h0;refine aA (λh=>absurd (aR h).symm hne) (λ_=>aA (λh=>by simp at h) (λ_=>?_));refine⟨λm w1=>m=(s.count c:Int)/\0<s.count c/\w1=w,(Tryz.strings_Count_one (S s) c w).mono ?_,?_⟩
 .rintro _ w1 ⟨rfl,rfl⟩
  refine .inl ⟨_,rfl,aA (λh=>?_) (λh=>?_)⟩
  .have h:s.count c=0:=by have:=aR h;exact Int.ofNat_eq_zero.1 this
   exact⟨by rw[GK h],Mod.refl _ _⟩
  .have h:s.count c≠0:=by
    have:=aX h;exact λe=>this (by show((Lib.countByte s c:Nat):Int)=0;unfold Lib.countByte;rw[e];rfl)
   refine⟨λx w2=>x=true/\w2=w1,aA (λ_=>⟨rfl,rfl⟩) (λh=>by simp at h),?_⟩;rintro _ _ w2 ⟨rfl,rfl⟩;exact aA (λ_=>⟨rfl,by omega,rfl⟩) (λh=>by cases h)
 rintro _ _ w1 ⟨rfl,hpos,rfl⟩;have hmul:nw.length*s.count c<=100*1000000:=Nat.mul_le_mul h1 (by omega);have ayq:s.count c*nw.length=nw.length*s.count c:=RA _ _;have aFW:s.count c<=nw.length*s.count c:=Nat.le_mul_of_pos_left _ Dd;have eg:i64.wrap ((s.length:Int)+i64.wrap ((s.count c:Int)*i64.wrap ((nw.length:Int)-(([c]:List UInt8).length:Int))))=((s.length+(nw.length*s.count c-s.count c):Nat):Int):=by
  have e1:i64.wrap ((nw.length:Int)-(([c]:List UInt8).length:Int))=((nw.length-1:Nat):Int):=by simp only[bf,aHf];rw[wrap_i64 (by omega) (by omega)];omega
  have e2:(s.count c:Int)*((nw.length-1:Nat):Int)=((nw.length*s.count c-s.count c:Nat):Int):=by rw[<-Int.natCast_mul,Nat.mul_sub,aHp,ayq]
  have e3:=wrap_i64 (n:=((nw.length*s.count c-s.count c:Nat):Int)) (by omega) (by omega);rw[e1,e2,e3,wrap_i64 (by omega) (by omega)];omega
 rw[eg];show c7 _ _
 unfold c7;have hbk:(w1.alloc (.cells #[(.pointer none),(.slice none 0 0)] 86)).heap[w1.heap.size]?=some (.cells #[(.pointer none),(.slice none 0 0)] 86 (0,0)):=heap_alloc_new w1 _;have hsz:(w1.alloc (.cells #[(.pointer none),(.slice none 0 0)] 86)).heap.size=w1.heap.size+1:=World.size_alloc ..;have aJe:Still w1 (w1.alloc (.cells #[(.pointer none),(.slice none 0 0)] 86)):=(Mod.refl _ _).alloc _;generalize rD:w1.alloc (.cells #[(.pointer none),(.slice none 0 0)] 86)=w2 at*;refine(Tryz.Builder_Grow_fresh w1.heap.size w1.heap.size _ w2 (aV _) hbk (by omega) (by omega)).mono ?_;rintro _ w3 ⟨rfl,W6,qq⟩;refine .inl ⟨rfl,aA (λ_=>?_) (λh=>by simp at h)⟩;obtain⟨_,v3,azN,ayr,azO⟩:=W6;have aIp:Still w1 w3:=aJe.trans' qq (by omega);have hB:rX w3 86 w1.heap.size 0 w1.heap.size [.pointer (some ⟨w1.heap.size,0,none⟩),v3] v3 []:=⟨Row.Wa azN,.inr rfl,rfl,aS.of ayr,azO⟩;have l1:∀a b,nT 86 (([a,b]:List Value).length) 0:=λ_ _=>GV;refine⟨λst i w4=>∃(k n:Nat) (v:Value),st=(k:Int)/\i=(n:Int)/\k<=s.length/\n=(s.take k).count c/\n<=s.count c/\rX w4 86 w1.heap.size 0 w1.heap.size [.pointer (some ⟨w1.heap.size,0,none⟩),v] v (iY c nw (s.take k))/\Still w1 w4,
  λ_ i _=>s.count c-i.toNat,⟨0,0,v3,rfl,rfl,dK _,rfl,dK _,hB,aIp⟩,?_⟩
 rintro _ _ _ w4 ⟨k,n,v,rfl,rfl,hk,hn,hnm,OL,iL⟩;have aFV:(s.take k).count c+(s.drop k).count c=s.count c:=by rw[<-QD,pV]
 have vZ:=Ln c nw (s.take k) (s.drop k);rw[pV]at vZ;have azP:(iY c nw (s.take k)).length+(iY c nw (s.drop k)).length=(iY c nw s).length:=by rw[vZ,cB]
 have hdl:(s.drop k).length=s.length-k:=ig;have hrd:=Lo (c:=c) (nw:=nw) (s.drop k);simp only[b6];refine aA (λhx=>?_) (λhx=>?_)
 .have hx:n<s.count c:=by have:=aR hx;omega
  obtain⟨j,hj1,hj2,hj3,W7⟩:=Tv (c:=c) (s:=s.drop k) (by omega);have hkj:s.drop k=(s.drop k).take j++c::s.drop (k+j+1):=by
   have h:=(iU.1 W7);obtain⟨h,h'⟩:=h
   conv=>lhs;rw[<-pV j (s.drop k)]
   rw[qB h,h',B0];rfl
  have Es:s.take (k+j+1)=s.take k++((s.drop k).take j++[c]):=by have h:=(iU.1 W7);obtain⟨h,h'⟩:=h;rw[Gj,List.take_add,F8,W7];rfl
  have hrt:iY c nw (s.take (k+j+1))=iY c nw (s.take k)++(s.drop k).take j++nw:=by rw[Es,Ln,Ln,GK hj3,aIi];simp[iY]
  have azQ:(iY c nw (s.take (k+j+1))).length<=(iY c nw s).length:=by have:=Ln c nw (s.take (k+j+1)) (s.drop (k+j+1));rw[pV]at this;rw[this,cB];omega
  rw[hrt,cB,cB]at azQ;refine⟨by omega,by omega,(Tryz.strings_Index_one (S (s.drop k)) c w4).mono ?_⟩;rintro _ w5 ⟨rfl,rfl⟩;have e5:Lib.indexByte (S (s.drop k)).data.toList c=(j:Int):=hj1;rw[e5];have ej:i64.wrap ((k:Int)+(j:Int))=((k+j:Nat):Int):=wI;have ej1:i64.wrap (((k+j:Nat):Int)+(([c]:List UInt8).length:Int))=((k+j+1:Nat):Int):=by simp only[bf,aHf];rw[wrap_i64 (by omega) (by omega)];omega
  have en:i64.wrap ((n:Int)+1)=((n+1:Nat):Int):=wI;refine .inl ⟨_,rfl,by omega,by rw[ej];omega,by rw[ej];omega,?_⟩;rw[ej,ej1,en,b6,BM];refine(KO OL (l1 _ _) _ (by have:=iL.size;omega) (by omega)).mono ?_;rintro _ w6 ⟨rfl,v6,Fk,_,jm⟩;have CX:Still w1 w6:=Mod.trans iL jm (λ_ h=>h) (λi hi e=>by
   rcases e with rfl|e
   .omega
   .have:=OL.own.mQ e;omega)
  refine .inl ⟨_,_,rfl,rfl,(KO Fk (l1 _ _) nw (by have:=CX.size;omega) (by rw[cB];omega)).mono ?_⟩;rintro _ w7 ⟨rfl,v7,hB7,_,xR⟩;have azR:Still w1 w7:=Mod.trans CX xR (λ_ h=>h) (λi hi e=>by
   rcases e with rfl|e
   .omega
   .have:=Fk.own.mQ e;omega)
  refine .inl ⟨_,_,rfl,rfl,⟨k+j+1,n+1,v7,rfl,rfl,by omega,?_,hx,?_,azR⟩,by omega⟩
  .rw[Es,QD,QD,hj3,hn]
   simp
  .rw[hrt]
   exact hB7
 .have hx:n=s.count c:=by have:=aX hx;omega
  have hd0:(s.drop k).count c=0:=by omega
  refine⟨by omega,by omega,(KO OL (l1 _ _) _ (by have:=iL.size;omega) (by rw[GK hd0]at azP;omega)).mono ?_⟩;rintro _ w6 ⟨rfl,v6,Fk,_,jm⟩;have CX:Still w1 w6:=Mod.trans iL jm (λ_ h=>h) (λi hi e=>by
   rcases e with rfl|e
   .omega
   .have:=OL.own.mQ e;omega)
  have e:iY c nw (s.take k)++s.drop k=iY c nw s:=by rw[vZ,GK hd0]
  rw[e]at Fk;have hnil:iY c nw s≠[]:=by intro e;rw[e]at hrl;simp only[aHf]at hrl;omega
  refine .inl ⟨_,_,rfl,rfl,(Ab (Fk.roomy hnil) (by omega)).mono ?_⟩;rintro _ w7 ⟨rfl,xR⟩;exact .inl ⟨_,rfl,rfl,Mod.trans CX xR (λ_ h=>h) (λi hi e=>by have:=Fk.own.mQ e;omega)⟩
def Zu(c:UInt8)(nw s:List UInt8)(hs:s.length<=1000000)(h0:nw≠[])(h1:nw.length<=100)(hne:nw≠[c]):
  aq Ks #[.string (S s),.string (S [c]),.string (S nw)] w (λe w'=>e=.returned (.string (S (iY c nw s)))/\Still w w'):=by
 refine akM _ _ _ _ _ ((apd c nw s hs h0 h1 hne).mono ?_);rintro _ w1 ⟨rfl,h⟩;exact .inl ⟨_,rfl,rfl,h⟩
end Go.Proofs.YtihaaoehhgmphaaGreatDoor
namespace Go.Proofs.YtihaaoehhgmphaaGreatDoor.F
open IntKind Go.RowKit Vc
def aI8(s:ag):ag:=iY 92 [92,92] s
def escape(s:ag):ag:=s.flatMap λc=>[92,c]
def D4(s:ag):(aI8 s).length<=2*s.length:=by have h:=Lo (c:=92) (nw:=[92,92]) s;have:=count_le (c:=92) s;simp only[bf,aHf]at h;unfold aI8;omega
def LF(s:ag):(escape s).length=2*s.length:=by
 unfold escape
 induction s with
 |nil=>rfl
 |cons a r ih=>simp only[pW,cB,ih,bf,aHf];omega
structure Sg where
 kind:Nat
 text:ag
structure St where
 out:List ag
 cur:ag
 has:Bool
 aJR:Bool
def St.zero:St:=⟨[],[],false,false⟩
def St.put(x:St)(p:ag):St:=⟨x.out,x.cur++p,true,false⟩
def St.fin(x:St):St:=⟨x.out++[x.cur],[],false,x.aJR⟩
def St.mark(x:St)(g:Bool):St:=⟨x.out,x.cur,x.has,g⟩
def blank(c:UInt8):Bool:=decide (c=32)||decide (c=9)||decide (c=10)
def aIb(ifs:ag)(x:St)(c:UInt8):St:=
 if decide (c∈ifs)=true then
  if blank c=true then(if x.has=true then x.fin.mark true else x)
  else if x.has=true\/x.aJR=false then x.fin.mark false else x.mark false
 else x.put (aI8 [c])
def pE(ifs:ag)(x:St)(s:ag):St:=s.foldl (aIb ifs) x
def k5(ifs:ag)(x:St)(p:Sg):St:=
 if p.kind=0 then(if p.text=[]then x else x.put (aI8 p.text))
 else if p.kind=1 then x.put (escape p.text)
 else if p.kind=2 then pE ifs x p.text
 else if p.kind=3 then(if x.has=true then x.fin.mark false else x.mark false)
 else x
def NZ(x:St):List ag:=if x.has=true then x.fin.out else x.out
def aJI(ifs:ag)(l:List Sg):St:=l.foldl (k5 ifs) St.zero
def aH4(ifs:ag)(l:List Sg):List ag:=NZ (aJI ifs l)
def qO(p:Bool)(x:Sg):ag:=if x.kind=3 then[32]else if p=true then(if x.kind=1 then escape x.text else aI8 x.text)else x.text
def joined(p:Bool)(l:List Sg):ag:=l.flatMap (qO p)
def St.size(x:St):Nat:=(x.out.map (λt=>t.length+1)).sum+x.cur.length
def St.size_put(x:St)(p:ag):(x.put p).size=x.size+p.length:=by simp[St.size,St.put];omega
def St.adx(x:St):x.fin.size=x.size+1:=by simp[St.size,St.fin];omega
def St.acw(x:St)(g:Bool):(x.mark g).size=x.size:=rfl
def arb(ifs:ag)(x:St)(c:UInt8):(aIb ifs x c).size<=x.size+2:=by
 unfold aIb;have h1:=D4 [c];simp only[bf,aHf]at h1
 repeat' split
 all_goals try simp only[St.acw,St.adx,St.size_put]
 all_goals omega
def aKB(ifs:ag):∀(s:ag) (x:St),(pE ifs x s).size<=x.size+2*s.length
 |[],x=>aV _
 |c::s,x=>by have h1:=arb ifs x c;have h2:=aKB ifs s (aIb ifs x c);simp only[pE,zZ,bf]at h2⊢;omega
def arc(ifs:ag)(x:St)(p:Sg):(k5 ifs x p).size<=x.size+2*p.text.length+1:=by
 unfold k5;have h1:=D4 p.text;have h2:=LF p.text;have h3:=aKB ifs p.text x
 repeat' split
 all_goals try simp only[St.acw,St.adx,St.size_put]
 all_goals omega
def awt(x:St):x.out.length<=x.size:=by
 unfold St.size;have:∀l:List ag,l.length<=(l.map (λt=>t.length+1)).sum:=by
  intro l
  induction l with
  |nil=>exact aV _
  |cons a l ih=>simp only[gI,aIO,bf];omega
 have:=this x.out;omega
def Uf(x:St):x.cur.length<=x.size:=Nat.le_add_left _ _
def afs:ag:=[32,9,10]
def G_(c:UInt8):decide (c∈afs)=blank c:=by
 simp only[afs,aHs,uf,uj,blank]
 by_cases h1:c=32<;>by_cases h2:c=9<;>by_cases h3:c=10<;>simp[h1,h2,h3]
end Go.Proofs.YtihaaoehhgmphaaGreatDoor.F
namespace Go.Proofs.YtihaaoehhgmphaaGreatDoor.F
open IntKind Go.RowKit Vc
variable{w:World}
def apU(l:ag)(c:UInt8):escape (l++[c])=escape l++[92,c]:=by simp[escape]
def aax(s:ag)(hs:s.length<1000000):aq KN #[.string (S s)] w (λe w'=>e=.returned (.string (S (escape s)))/\Still w w'):=by
 apply ama;have e1:i64.wrap (2*(s.length:Int))=((2*s.length:Nat):Int):=wI;unfold Y6;rw[e1,b6];have hmk:aS (w.alloc (.cells (madeCells #[(.int .u8 (0:Int))] (2*s.length*1)) 5)) w.heap.size 5 1 (.slice (some ⟨w.heap.size,0,none⟩) 0 (2*s.length)) 0 []:=
  ⟨rfl,.inr ⟨w.heap.size,_,_,rfl,aV _,Row.new w _ _,by omega,by simp only[maxLen];omega,by rw[size_madeCells],rfl⟩⟩
 refine⟨by decide,by omega,by omega,by omega,nS ⟨λp L C x w1=>∃i:Nat,x=(i:Int)/\i<=s.length/\L=2*i/\aS w1 w.heap.size 5 1 (.slice p L C) L (bc (escape (s.take i)))/\Still w w1,λ_ _ _ x _=>s.length-x.toNat,
  ⟨0,rfl,by omega,rfl,hmk,(Mod.refl _ _).alloc _⟩,?_⟩⟩
 rintro p _ C _ _ w1 ⟨i,rfl,hi,rfl,ho,hst⟩;refine aA (λhx=>?_) (λhx=>?_)
 .have hx:i<s.length:=by have:=aR hx;omega
  refine⟨by omega,s[i],by rw[b6];exact getD_some hx,aQ λw2 hr2 hs2 jz=>?_⟩;refine rM (ho.still hs2) (by have:=hst.size;omega) (bc [92,s[i]]) rfl (aKN _) (λ_=>⟨_,rfl,λj u hu=>?_⟩) (by omega) (by omega) λp' c' w3 oS cV _=>?_
  .rw[aHa,cQ]
   exact hr2.aj hu
  .have e2:i64.wrap ((i:Int)+1)=((i+1:Nat):Int):=wI
   rw[e2];refine⟨⟨i+1,rfl,hx,by omega,?_,(hst.trans hs2).own (ho.still hs2) (aV _) cV⟩,by dsimp only;omega⟩;rw[D9 hx,apU,GM];exact oS
 .have hx:i=s.length:=by have:=aX hx;omega
  subst hx;rw[oD]at ho;exact⟨escape s,ho.bytes,rfl,hst⟩
def Si(s:ag)(hs:s.length<=1000000):aq Gi #[.string (S s)] w (λe w'=>e=.returned (.string (S (aI8 s)))/\Still w w'):=by refine amq _ _ _ ((Zu 92 [92,92] s hs (by decide) (by decide) (by decide)).mono ?_);rintro _ w1 ⟨rfl,h⟩;exact .inl ⟨_,rfl,rfl,h⟩
def aKa(x:Sg):List Value:=[.int .i64 (x.kind:Int),.string (S x.text)]
def Dj(l:List Sg):List Value:=l.flatMap aKa
def AM(w:World)(p:Option Addr)(n:Nat)(l:List Sg):Prop:=l.length=n/\At w p n (Dj l)
def AM.get{p:Option Addr}{n:Nat}{l:List Sg}(h:AM w p n l){k:Nat}(hk:k<n):∃a x,p=some a/\l[k]?=some x/\w.cell? (a.add (k*2))=some (.int .i64 (x.kind:Int))/\w.cell? ((a.add (k*2)).add 1)=some (.string (S x.text)):=by obtain⟨h1,h2⟩:=h;obtain⟨a,rfl,h3⟩:=h2 (by omega);have hx:=getD_some (p:=l) (i:=k) (by omega);refine⟨a,_,rfl,hx,h3 _ _ (by have:=Ed (f:=aKa) (sz:=2) (λ_=>rfl) hx 0 (by decide);exact this),?_⟩;rw[aIC];exact h3 _ _ (by have:=Ed (f:=aKa) (sz:=2) (λ_=>rfl) hx 1 (by decide);exact this)
def AM.still{w':World}{p:Option Addr}{n:Nat}{l:List Sg}(h:AM w p n l)(hm:Still w w'):AM w' p n l:=⟨h.1,h.2.still hm⟩
structure ays(w:World)(g:Nat)(ifs:ag)(x:St)(q:Option Addr)(v:Value)(pa:Option Addr)(co:Nat):Prop where
 gS:eE w 407 g 2 (g+1) [.string (S ifs),.slice pa x.out.length co,.pointer q,v,.bool x.has,.bool x.aJR] v x.cur
 own:aS w (g+1) 9 1 (.slice pa x.out.length co) x.out.length (strs x.out)
def jo(w:World)(g:Nat)(ifs:ag)(x:St):Prop:=∃q v pa co,ays w g ifs x q v pa co
def awu:nT 407 6 2:=by unfold nT;kernel_rfl
abbrev Up(g:Nat)(w w':World):Prop:=Mod (λk=>g<=k) w w'
def Up.trans{g:Nat}{a b c:World}(h:Up g a b)(k:Up g b c):Up g a c:=Mod.trans h k (λ_ h=>h) (λ_ _ h=>h)
def Up.refl(g:Nat)(w:World):Up g w w:=Mod.refl _ _
def Up.of{g:Nat}{a b:World}(h:Still a b):Up g a b:=h.weaken (λ_ h=>h.elim)
def jo.still{w':World}{g:Nat}{ifs:ag}{x:St}(h:jo w g ifs x)(hm:Still w w'):jo w' g ifs x:=by obtain⟨q,v,pa,co,h1,h2⟩:=h;exact⟨q,v,pa,co,h1.still hm,h2.still hm⟩
def jo.lt{g:Nat}{ifs:ag}{x:St}(h:jo w g ifs x):g<w.heap.size:=by obtain⟨q,v,pa,co,h1,h2⟩:=h;exact h1.row.lt
def wU{g:Nat}{ifs:ag}{x:St}(h:jo w g ifs x)(p:ag)(hs:x.cur.length+p.length<=1000000000):
  aq FY #[.pointer (some ⟨g,0,none⟩),.string (S p)] w (λe w'=>e=.returned (.tuple #[])/\jo w' g ifs (x.put p)/\Up g w w'):=by
 have hlt:=h.lt;obtain⟨q,v,pa,co,hb,ho⟩:=h;apply akH;show Calls _ _ #[.pointer (some (Addr.add _ 2)),_] _ _
 rw[aHa];refine(B1 hb awu p hlt (by omega)).mono ?_;rintro _ w1 ⟨rfl,v1,hU,bW⟩;have aHL:=ho.mod bW (λk hk e=>by
  rcases e with rfl|e
  .exact ho.aHg hb.row (by decide) hk
  .exact ho.apart hb.own (by decide) hk e)
 have hu1:Up g w w1:=bW.weaken (λk e=>by
  rcases e with rfl|e
  .exact aV _
  .have:=hb.own.mQ e;omega)
 refine .inl ⟨_,_,rfl,rfl,?_⟩;show cJ (Addr.add _ 4) _ _ _ _
 rw[aHa];refine aHb hU.row λw2 hr2 hm2 jz=>?_;show cJ (Addr.add _ 5) _ _ _ _
 rw[aHa];have fS:=hU.other hr2 hm2 rfl rfl;have cc:=aHL.mod hm2 (λk hk e=>by subst e;exact aHL.aHg hU.row (by decide) hk);refine dO hr2 (by simp[fh]) (by simp[Value.oneCell']) λw3 hr3 cV vO=>⟨rfl,?_,?_⟩
 .have qq:=fS.other hr3 cV rfl rfl
  exact⟨_,_,_,_,qq,cc.mod cV (λk hk e=>by subst e;exact cc.aHg hr2 (by decide) hk)⟩
 .exact(hu1.trans (hm2.weaken (λk e=>by omega))).trans (cV.weaken (λk e=>by omega))
def He{g:Nat}{ifs:ag}{x:St}(h:jo w g ifs x)(hs:x.size<=1000000000):
  aq BS #[.pointer (some ⟨g,0,none⟩)] w (λe w'=>e=.returned (.tuple #[])/\jo w' g ifs x.fin/\Up g w w'):=by
 have hlt:=h.lt;have hf1:=awt x;have hf2:=Uf x;obtain⟨q,v,pa,co,hb,ho⟩:=h;apply akC;refine⟨λwq=>Row wq g 407 ⟨[.string (S ifs),.slice pa x.out.length co,.pointer q,v,.bool x.has,.bool x.aJR]⟩,hb.row,_,_,_,λwq hq=>by rw[aHa];exact hq.aj rfl,?_⟩;show Calls _ _ #[.pointer (some (Addr.add _ 2))] _ _
 rw[aHa];have hbd:eE w.drew 407 g 2 (g+1) [.string (S ifs),.slice pa x.out.length co,.pointer q,v,.bool x.has,.bool x.aJR] v x.cur:=hb.still (Still.refl w).cy;refine(Ab hbd (by omega)).mono ?_;rintro _ w1 ⟨rfl,bW⟩;have aHc:=hbd.row.mod bW (λe=>hb.ne e);have Dk:=ho.still (Still.refl w).cy;have aHL:=Dk.mod bW (λk hk e=>ho.apart hb.own (by decide) hk e);have hu1:Up g w w1:=Mod.trans (Still.refl w).cy bW (λ_ h=>h.elim) (λk _ e=>by have:=hb.own.mQ e;omega);refine .inl ⟨_,rfl,aHc,aQ λw2 hr2 hs2 jz=>⟨aHc.still hs2,?_⟩⟩;refine rM (aHL.still hs2) (by have:=aHc.lt;omega) [.string (S x.cur)] rfl (one_one rfl) (λ_=>⟨_,rfl,λj u hu=>?_⟩) (by omega) (by omega) λp' c' w3 oS cV qq=>?_
 .rw[aHa,cQ]
  exact hr2.aj hu
 have cc:=aHL.still hs2;have hr3:=(aHc.still hs2).mod cV (λe=>cc.aHg (aHc.still hs2) (by decide) e);have aJS:Up g w w3:=(hu1.trans (Up.of hs2)).trans (cV.weaken (λk e=>by have:=cc.mQ e;omega));show cJ (Addr.add _ 1) _ _ _ _
 rw[aHa];refine aHb hr3 λw4 hr4 eZ BC=>?_;have qt:=oS.mod eZ (λk hk e=>by subst e;exact oS.aHg hr3 (by decide) hk);show Calls _ _ #[.pointer (some (Addr.add _ 2))] _ _
 rw[aHa];refine(aqS (B:=g+1) (o:=2) hr4 (by simp[fh])).mono ?_;rintro _ w5 ⟨rfl,aJQ,tQ⟩;have rA:=qt.mod tQ (λk hk e=>by subst e;exact qt.aHg hr4 (by decide) hk);refine .inl ⟨rfl,?_⟩;show cJ (Addr.add _ 4) _ _ _ _
 rw[aHa];refine dO aJQ.row (by simp[fh]) (by simp[Value.oneCell']) λw6 aHZ jm Jv=>⟨rfl,?_,?_⟩
 .have aJT:=aJQ.other aHZ jm rfl rfl
  have aJJ:=rA.mod jm (λk hk e=>by subst e;exact rA.aHg aJQ.row (by decide) hk);refine⟨none,.slice none 0 0,p',c',?_,?_⟩
  .have e:x.fin.out.length=x.out.length+1:=by simp[St.fin]
   rw[e];exact aJT
  .have e:x.fin.out.length=x.out.length+1:=by simp[St.fin]
   have e2:strs x.fin.out=strs x.out++[.string (S x.cur)]:=by simp[St.fin,strs]
   rw[e,e2];exact aJJ
 .exact((aJS.trans (eZ.weaken (λk e=>by omega))).trans (tQ.weaken (λk e=>by omega))).trans (jm.weaken (λk e=>by omega))
end Go.Proofs.YtihaaoehhgmphaaGreatDoor.F
namespace Go.Proofs.YtihaaoehhgmphaaGreatDoor.F
open IntKind Go.RowKit Vc
variable{w:World}
def _root_.Go.Proofs.YtihaaoehhgmphaaGreatDoor.Still.up{w w1 w2:World}{g:Nat}(h:Still w w1)(hm:Up g w1 w2)(hg:w.heap.size<=g):Still w w2:=Mod.trans h hm (λ_ h=>h) (λi hi e=>by omega)
section
variable{g:Nat}{ifs:ag}{x:St}
def jo.c0(h:jo w g ifs x):w.cell? ⟨g,0,none⟩=some (.string (S ifs)):=by obtain⟨q,v,pa,co,hb,ho⟩:=h;exact hb.row.aj rfl
def jo.c4(h:jo w g ifs x):w.cell? ((Addr.mk g 0 none).add 4)=some (.bool x.has):=by obtain⟨q,v,pa,co,hb,ho⟩:=h;rw[aHa];exact hb.row.aj rfl
def jo.c5(h:jo w g ifs x):w.cell? ((Addr.mk g 0 none).add 5)=some (.bool x.aJR):=by obtain⟨q,v,pa,co,hb,ho⟩:=h;rw[aHa];exact hb.row.aj rfl
def E0{K:World->Prop}(h:jo w g ifs x)(b:Bool)(hK:∀w',jo w' g ifs (x.mark b)->Up g w w'->K w'):cJ ((Addr.mk g 0 none).add 5) K 0 [.bool b] w:=by obtain⟨q,v,pa,co,hb,ho⟩:=h;rw[aHa];refine aHb hb.row λw3 hr3 cV vO=>hK _ ⟨q,v,pa,co,hb.other hr3 cV rfl rfl,ho.mod cV (λk hk e=>by subst e;exact ho.aHg hb.row (by decide) hk)⟩ (cV.weaken (λk e=>by omega))
def DX(s:ag)(c:UInt8):aq QH #[.string (S s),.string (S [c])] w (λe w'=>e=.returned (.bool (decide (c∈s)))/\w'=w):=by
 refine(Tryz.strings_Contains_one (S s) c w).mono ?_;rintro _ w1 ⟨rfl,rfl⟩;refine⟨?_,rfl⟩;have e:decide (0<=Lib.indexByte (S s).data.toList c)=decide (c∈s):=by
  show decide (0<=Lib.indexByte s c)=_
  by_cases h:c∈s
  .obtain⟨k,hk,_⟩:=Tv (List.count_pos_iff.2 h)
   rw[hk,fe h,fe (by omega)]
  .have h1:=Lib.indexByte_ge s c
   rw[eX h,eX];intro h0;obtain⟨o,ho⟩:=PM h0;exact h (aJk (Lib.indexByte_some ho).1)
 rw[e]
def au2{c:UInt8}(h:decide (c∈ifs)=true):aIb ifs x c=if blank c=true then(if x.has=true then x.fin.mark true else x)else if x.has=true\/x.aJR=false then x.fin.mark false else x.mark false:=by unfold aIb;rw[aL h]
def apV(s:ag)(c:UInt8):pE ifs x (s++[c])=aIb ifs (pE ifs x s) c:=by simp[pE]
def LD(h:jo w g ifs x)(s:ag)(hs:x.size+2*s.length<=1000000)(hi:ifs.length<=1000000):
  aq PW #[.pointer (some ⟨g,0,none⟩),.string (S s)] w (λe w'=>e=.returned (.tuple #[])/\jo w' g ifs (pE ifs x s)/\Up g w w'):=by
 apply akc;refine⟨λi w1=>∃k:Nat,i=(k:Int)/\k<=s.length/\jo w1 g ifs (pE ifs x (s.take k))/\Up g w w1,λi _=>s.length-i.toNat,⟨0,rfl,dK _,h,Up.refl _ _⟩,?_⟩;rintro _ _ w1 ⟨k,rfl,hk,hsp,hu⟩;refine aA (λhx=>?_) (λhx=>?_)
 .have hx:k<s.length:=by have:=aR hx;omega
  have e1:i64.wrap ((k:Int)+1)=((k+1:Nat):Int):=wI;rw[e1];simp only[b6];rw[aqG hx];have hsz:=aKB ifs (s.take k) x;have hstep:pE ifs x (s.take (k+1))=aIb ifs (pE ifs x (s.take k)) s[k]:=by rw[D9 hx,apV]
  rw[aHl,BZ (by omega)]at hsz;generalize pE ifs x (s.take k)=y at*;generalize s[k]=c at*;have next:∀w',jo w' g ifs (aIb ifs y c)->Up g w1 w'->(∃j:Nat,((k+1:Nat):Int)=(j:Int)/\j<=s.length/\jo w' g ifs (pE ifs x (s.take j))/\Up g w w')/\s.length-(k+1)<s.length-k:=
   λw' h1 h2=>⟨⟨k+1,rfl,hx,by rw[hstep];exact h1,hu.trans h2⟩,by omega⟩
  refine⟨by omega,by omega,by omega,_,hsp.c0,(DX ifs c).mono ?_⟩;rintro _ w2 ⟨rfl,rfl⟩;refine .inl ⟨_,rfl,aA (λhin=>?_) (λhin=>?_)⟩
  .have hin:¬decide (c∈ifs)=true:=by simpa using hin
   have he:aIb ifs y c=y.put (aI8 [c]):=by unfold aIb;rw[aG hin]
   rw[he]at next;refine(Si [c] (by simp)).mono ?_;rintro _ w3 ⟨rfl,hs3⟩;have hal:=D4 [c];simp only[bf,aHf]at hal;have W8:=Uf y;refine .inl ⟨_,rfl,(wU (hsp.still hs3) _ (by omega)).mono ?_⟩;rintro _ w4 ⟨rfl,hs4,aJh⟩;exact .inl ⟨rfl,next _ hs4 ((Up.of hs3).trans aJh)⟩
  .have hin:decide (c∈ifs)=true:=by simpa using hin
   have he:=au2 (x:=y) hin;refine(DX [32,9,10] c).mono ?_;rintro _ w3 ⟨rfl,rfl⟩;refine .inl ⟨_,rfl,aA (λhb=>⟨_,hsp.c4,aA (λhh=>?_) (λhh=>?_)⟩) (λhb=>⟨_,hsp.c4,aA (λhh=>?_) (λhh=>⟨_,hsp.c5,aA (λhg=>?_) (λhg=>?_)⟩)⟩)⟩
   .have hb:blank c=true:=by rw[<-G_];exact hb
    rw[aL hb,aL hh]at he;rw[he]at next;refine(He hsp (by omega)).mono ?_;rintro _ w4 ⟨rfl,hs4,aJh⟩;exact .inl ⟨rfl,E0 hs4 true λw5 hs5 aJi=>next _ hs5 (aJh.trans aJi)⟩
   .have hb:blank c=true:=by rw[<-G_];exact hb
    rw[aL hb,aG (by rw[hh];decide)]at he;rw[he]at next;exact next _ hsp (Up.refl _ _)
   .have hb:¬blank c=true:=by rw[<-G_];exact λe=>by rw[show decide (c∈[32,9,10])=true from e]at hb;cases hb
    rw[aG hb,aL (.inl hh)]at he;rw[he]at next;refine aA (λ_=>?_) (λh=>by rw[hh]at h;cases h);refine(He hsp (by omega)).mono ?_;rintro _ w4 ⟨rfl,hs4,aJh⟩;exact .inl ⟨rfl,E0 hs4 false λw5 hs5 aJi=>next _ hs5 (aJh.trans aJi)⟩
   .have hb:¬blank c=true:=by rw[<-G_];exact λe=>by rw[show decide (c∈[32,9,10])=true from e]at hb;cases hb
    have hg:y.aJR=false:=by simpa using hg
    rw[aG hb,aL (.inr hg)]at he;rw[he]at next;refine(He hsp (by omega)).mono ?_;rintro _ w4 ⟨rfl,hs4,aJh⟩;exact .inl ⟨rfl,E0 hs4 false λw5 hs5 aJi=>next _ hs5 (aJh.trans aJi)⟩
   .have hb:¬blank c=true:=by rw[<-G_];exact λe=>by rw[show decide (c∈[32,9,10])=true from e]at hb;cases hb
    have hg:y.aJR=true:=by simpa using hg
    rw[aG hb,aG (by rw[hh,hg];decide)]at he;rw[he]at next;exact E0 hsp false λw5 hs5 aJi=>next _ hs5 aJi
 .have hx:k=s.length:=by have:=aX hx;omega
  subst hx;rw[oD]at hsp;exact⟨rfl,hsp,hu⟩
def wO(h:jo w g ifs x)(p:Sg)(hs:x.size+2*p.text.length<=900000)(hi:ifs.length<=1000000):
  aq P6 #[.pointer (some ⟨g,0,none⟩),.agg #[.int .i64 (p.kind:Int),.string (S p.text)]] w (λe w'=>e=.returned (.tuple #[])/\jo w' g ifs (k5 ifs x p)/\Up g w w'):=by
 apply akk;have W8:=Uf x;refine aQ λw1 aHc hs1 hz1=>⟨_,aHc.aj rfl,?_⟩;have h1:=h.still hs1;have hu1:Up g w w1:=Up.of hs1;have hal:=D4 p.text;have hel:=LF p.text;refine aA (λhk=>⟨_,aHc.aj rfl,aA (λht=>⟨_,aHc.aj rfl,?_⟩) (λht=>?_)⟩) (λhk=>aA (λhk1=>⟨_,aHc.aj rfl,?_⟩) (λhk1=>aA (λhk2=>⟨_,aHc.aj rfl,?_⟩) (λhk2=>aA (λpO=>⟨_,h1.c4,aA (λhh=>?_) (λhh=>?_)⟩) (λpO=>?_))))
 .have hk:p.kind=0:=by have:=aR hk;omega
  have ht:p.text≠[]:=by simpa using ht
  have e:k5 ifs x p=x.put (aI8 p.text):=by unfold k5;rw[aL hk,aG ht]
  rw[e];refine(Si _ (by omega)).mono ?_;rintro _ w2 ⟨rfl,hs2⟩;refine .inl ⟨_,rfl,(wU (h1.still hs2) _ (by omega)).mono ?_⟩;rintro _ w3 ⟨rfl,hs3,aJS⟩;exact .inl ⟨rfl,rfl,hs3,(hu1.trans (Up.of hs2)).trans aJS⟩
 .have hk:p.kind=0:=by have:=aR hk;omega
  have ht:p.text=[]:=by simpa using ht
  have e:k5 ifs x p=x:=by unfold k5;rw[aL hk,aL ht]
  rw[e];exact⟨rfl,h1,hu1⟩
 .have hk:¬p.kind=0:=by have:=aX hk;omega
  have hk1:p.kind=1:=by have:=aR hk1;omega
  have e:k5 ifs x p=x.put (escape p.text):=by unfold k5;rw[aG hk,aL hk1]
  rw[e];refine(aax _ (by omega)).mono ?_;rintro _ w2 ⟨rfl,hs2⟩;refine .inl ⟨_,rfl,(wU (h1.still hs2) _ (by omega)).mono ?_⟩;rintro _ w3 ⟨rfl,hs3,aJS⟩;exact .inl ⟨rfl,rfl,hs3,(hu1.trans (Up.of hs2)).trans aJS⟩
 .have hk:¬p.kind=0:=by have:=aX hk;omega
  have hk1:¬p.kind=1:=by have:=aX hk1;omega
  have hk2:p.kind=2:=by have:=aR hk2;omega
  have e:k5 ifs x p=pE ifs x p.text:=by unfold k5;rw[aG hk,aG hk1,aL hk2]
  rw[e];refine(LD h1 _ (by omega) hi).mono ?_;rintro _ w3 ⟨rfl,hs3,aJS⟩;exact .inl ⟨rfl,rfl,hs3,hu1.trans aJS⟩
 .have hk:¬p.kind=0:=by have:=aX hk;omega
  have hk1:¬p.kind=1:=by have:=aX hk1;omega
  have hk2:¬p.kind=2:=by have:=aX hk2;omega
  have pO:p.kind=3:=by have:=aR pO;omega
  have e:k5 ifs x p=x.fin.mark false:=by unfold k5;rw[aG hk,aG hk1,aG hk2,aL pO,aL hh]
  rw[e];refine(He h1 (by omega)).mono ?_;rintro _ w3 ⟨rfl,hs3,aJS⟩;exact .inl ⟨rfl,E0 hs3 false λw5 hs5 aJi=>⟨rfl,hs5,(hu1.trans aJS).trans aJi⟩⟩
 .have hk:¬p.kind=0:=by have:=aX hk;omega
  have hk1:¬p.kind=1:=by have:=aX hk1;omega
  have hk2:¬p.kind=2:=by have:=aX hk2;omega
  have pO:p.kind=3:=by have:=aR pO;omega
  have e:k5 ifs x p=x.mark false:=by unfold k5;rw[aG hk,aG hk1,aG hk2,aL pO,aG (by rw[hh];decide)]
  rw[e];exact E0 h1 false λw5 hs5 aJi=>⟨rfl,hs5,hu1.trans aJi⟩
 .have hk:¬p.kind=0:=by have:=aX hk;omega
  have hk1:¬p.kind=1:=by have:=aX hk1;omega
  have hk2:¬p.kind=2:=by have:=aX hk2;omega
  have pO:¬p.kind=3:=by have:=aX pO;omega
  have e:k5 ifs x p=x:=by unfold k5;rw[aG hk,aG hk1,aG hk2,aG pO]
  rw[e];exact⟨rfl,h1,hu1⟩
end
def eN(l:List Sg):Nat:=(l.map λp=>2*p.text.length+1).sum
def ard(l m:List Sg):eN (l++m)=eN l+eN m:=by simp[eN]
def as2(ifs:ag)(l:List Sg)(p:Sg):aJI ifs (l++[p])=k5 ifs (aJI ifs l) p:=by simp[aJI]
def as3(ifs:ag)(l:List Sg):(aJI ifs l).size<=eN l:=by
 have:∀(l:List Sg) (x:St),(l.foldl (k5 ifs) x).size<=x.size+eN l:=by
  intro l
  induction l with
  |nil=>intro x;exact aV _
  |cons p l ih=>intro x;have h1:=arc ifs x p;have h2:=ih (k5 ifs x p);simp only[zZ,eN,gI,aIO]at h2⊢;omega
 have:=this l St.zero;simp only[St.size,St.zero,rK,K3,aHf]at this;unfold aJI;exact kJ this (by omega)
def ady{l:List Sg}{k:Nat}(h:k<l.length):eN (l.take k)+2*l[k].text.length+1<=eN l:=by
 have e:l=l.take k++l[k]::l.drop (k+1):=by rw[<-qB h,pV]
 have:eN l=eN (l.take k)+eN (l[k]::l.drop (k+1)):=(gJ eN e).trans (ard _ _);rw[this];simp only[eN,gI,aIO];omega
def Told(w:World)(l:List ag)(e:Ending)(w':World):Prop:=∃q D,e=.returned (.slice q l.length D)/\de w' q l.length l/\Still w w'
def apW{p:Option Addr}{n C:Nat}{l:List Sg}(h:AM w p n l)(ifs:ag)(hn:n<=1000)(hl:eN l<=500000)(hi:ifs.length<=1000000):
  aq Rh #[.slice p n C,.string (S ifs)] w (Told w (aH4 ifs l)):=by
 apply amk;have h1:=h.1;refine aQ λw1 aHc hs1 hz1=>?_;have h0:jo w1 w.heap.size ifs St.zero:=⟨none,.slice none 0 0,none,0,eE.fresh aHc rfl rfl,aS.nil _ _ _ _⟩;refine⟨λi w2=>∃k:Nat,i=(k:Int)/\k<=n/\jo w2 w.heap.size ifs (aJI ifs (l.take k))/\Still w w2,λi _=>n-i.toNat,⟨0,rfl,dK _,h0,hs1⟩,?_⟩;rintro _ _ w2 ⟨k,rfl,hk,hsp,hst⟩;have hsz:=as3 ifs (l.take k);refine aA (λhx=>?_) (λhx=>?_)
 .have hx:k<n:=by have:=aR hx;omega
  have e1:i64.wrap ((k:Int)+1)=((k+1:Nat):Int):=wI;rw[e1];simp only[b6];obtain⟨a,y,rfl,hy,c1,c2⟩:=(h.still hst).get hx;have JH:l[k]'(by omega)=y:=(iU.1 hy).2;have xU:=ady (l:=l) (k:=k) (by omega);rw[JH]at xU;refine⟨by omega,by omega,_,_,c1,c2,xu rfl (by simp[Value.oneCell']) λw3 hr3 hs3 vO=>⟨_,_,hr3.aj rfl,hr3.aj rfl,?_⟩⟩;refine(wO (hsp.still hs3) y (by omega) hi).mono ?_;rintro _ w4 ⟨rfl,hs4,aJh⟩;refine .inl ⟨rfl,⟨k+1,rfl,hx,?_,(hst.trans hs3).up aJh (aV _)⟩,by omega⟩;rw[D9 (by omega),as2,JH];exact hs4
 .have hx:k=n:=by have:=aX hx;omega
  subst hx;rw[wu (by omega)]at hsp hsz;refine⟨_,by have:=hsp.c4;rwa[aHa]at this,aA (λhh=>?_) (λhh=>?_)⟩
  .refine(He hsp (by omega)).mono ?_
   rintro _ w4 ⟨rfl,hs4,aJh⟩;obtain⟨q,v,pa,co,hb,ho⟩:=hs4;have e:aH4 ifs l=(aJI ifs l).fin.out:=by unfold aH4 NZ;rw[aL hh]
   refine .inl ⟨rfl,_,_,_,hb.row.aj rfl,?_⟩
   try dsimp only[zR]
   rw[Told,e];exact⟨_,_,rfl,de.of ho,hst.up aJh (aV _)⟩
  .obtain⟨q,v,pa,co,hb,ho⟩:=hsp
   have e:aH4 ifs l=(aJI ifs l).out:=by unfold aH4 NZ;rw[aG (by rw[hh];decide)]
   refine⟨_,_,_,hb.row.aj rfl,?_⟩
   try dsimp only[zR]
   rw[Told,e];exact⟨_,_,rfl,de.of ho,hst⟩
def aoD(p:Bool)(l m:List Sg):joined p (l++m)=joined p l++joined p m:=by simp[joined]
def aay(p:Bool)(x:Sg):(qO p x).length<=2*x.text.length+1:=by
 have h1:=D4 x.text;have h2:=LF x.text;unfold qO
 repeat' split
 all_goals first|omega|(simp only[bf,aHf];omega)
def abg(p:Bool):∀l:List Sg,(joined p l).length<=eN l
 |[]=>aV _
 |x::l=>by have h1:=aay p x;have h2:=abg p l;simp only[joined,pW,cB,eN,gI,aIO]at h2⊢;omega
def apX{p:Option Addr}{n C:Nat}{l:List Sg}(h:AM w p n l)(b:Bool)(hn:n<=1000)(hl:eN l<=500000):
  aq Ri #[.slice p n C,.bool b] w (λe w'=>e=.returned (.string (S (joined b l)))/\Still w w'):=by
 apply amn;have h1:=h.1;refine aQ λw1 aHc hs1 hz1=>?_;have l1:∀a b,nT 86 (([a,b]:List Value).length) 0:=λ_ _=>GV;refine⟨λi w2=>∃(k:Nat) (q:Option Addr) (v:Value),i=(k:Int)/\k<=n/\eE w2 86 w.heap.size 0 (w.heap.size+1) [.pointer q,v] v (joined b (l.take k))/\Still w w2,λi _=>n-i.toNat,
  ⟨0,none,.slice none 0 0,rfl,dK _,eE.fresh aHc rfl rfl,hs1⟩,?_⟩
 rintro _ _ w2 ⟨k,q,v,rfl,hk,hb,hst⟩;have hjl:=abg b (l.take k);refine aA (λhx=>?_) (λhx=>?_)
 .have hx:k<n:=by have:=aR hx;omega
  have e1:i64.wrap ((k:Int)+1)=((k+1:Nat):Int):=wI;rw[e1];simp only[b6];obtain⟨a,y,rfl,hy,c1,c2⟩:=(h.still hst).get hx;have JH:l[k]'(by omega)=y:=(iU.1 hy).2;have xU:=ady (l:=l) (k:=k) (by omega);rw[JH]at xU;have hjs:joined b (l.take (k+1))=joined b (l.take k)++qO b y:=by rw[D9 (by omega),aoD,JH];simp[joined]
  have hj1:=aay b y;have hal:=D4 y.text;have hel:=LF y.text;have next:∀w3 w4 v',Still w2 w3->(∃q',eE w4 86 w.heap.size 0 (w.heap.size+1) [.pointer q',v'] v' (joined b (l.take k)++qO b y))->Mod (λi=>i=w.heap.size\/v.ownBlock=some i) w3 w4->
    ∃(k':Nat) (q':Option Addr) (v':Value),((k+1:Nat):Int)=(k':Int)/\k'<=n/\eE w4 86 w.heap.size 0 (w.heap.size+1) [.pointer q',v'] v' (joined b (l.take k'))/\Still w w4:=by
   rintro w3 w4 v' hs3 ⟨q',hb'⟩ hm;refine⟨k+1,q',v',rfl,hx,by rw[hjs];exact hb',Mod.trans (hst.trans hs3) hm (λ_ h=>h) (λi hi e=>?_)⟩;rcases e with rfl|e
   .omega
   .have:=hb.own.mQ e;omega
  refine⟨λw5=>∃(k':Nat) (q':Option Addr) (v':Value),((k+1:Nat):Int)=(k':Int)/\k'<=n/\eE w5 86 w.heap.size 0 (w.heap.size+1) [.pointer q',v'] v' (joined b (l.take k'))/\Still w w5,
   ⟨by omega,by omega,_,_,c1,c2,xu rfl (by simp[Value.oneCell']) λw3 hr3 hs3 vO=>⟨_,hr3.aj rfl,?_⟩⟩,λ_ w5 h5=>⟨h5,by omega⟩⟩
  have qq:=hb.still hs3;have W6:=qq.row.lt;refine aA (λh3=>?_) (λh3=>⟨λc w4=>c=(b&&decide (y.kind=1))/\w4=w3,aA (λxU=>⟨_,hr3.aj rfl,?_,rfl⟩) (λFl=>⟨by rw[Fl];rfl,rfl⟩),?_⟩)
  .have h3:y.kind=3:=by have:=aR h3;omega
   have e:qO b y=[32]:=by unfold qO;rw[aL h3]
   rw[e]at next;refine(ZB qq (l1 _ _) 32 W6 (by omega)).mono ?_;rintro _ w4 ⟨rfl,v4,hb4,eZ⟩;exact .inl ⟨_,rfl,rfl,next _ _ _ hs3 ⟨_,hb4⟩ eZ⟩
  .rw[xU]
   simp only[B2]
   by_cases hy1:y.kind=1
   .rw[fe hy1,fe (by omega)]
   .rw[eX hy1,eX (by omega)]
  have h3:¬y.kind=3:=by have:=aX h3;omega
  rintro c _ w4 ⟨rfl,rfl⟩;refine aA (λhc=>⟨_,hr3.aj rfl,?_⟩) (λhc=>aA (λxU=>⟨_,hr3.aj rfl,?_⟩) (λFl=>⟨_,hr3.aj rfl,?_⟩))
  .obtain⟨hc1,hc2⟩:=Bool.and_eq_true_iff.1 hc
   have hc2:=aR hc2;have e:qO b y=escape y.text:=by unfold qO;rw[aG h3,aL hc1,aL hc2]
   rw[e]at next;refine(aax y.text (by omega)).mono ?_;rintro _ w5 ⟨rfl,hs5⟩;refine .inl ⟨_,rfl,(B1 (qq.still hs5) (l1 _ _) _ (qq.still hs5).row.lt (by omega)).mono ?_⟩;rintro _ w6 ⟨rfl,v6,aJT,jm⟩;exact .inl ⟨_,_,rfl,rfl,next _ _ _ (hs3.trans hs5) ⟨_,aJT⟩ jm⟩
  .have hc2:¬y.kind=1:=by rw[xU]at hc;simpa using hc
   have e:qO b y=aI8 y.text:=by unfold qO;rw[aG h3,aL xU,aG hc2]
   rw[e]at next;refine(Si y.text (by omega)).mono ?_;rintro _ w5 ⟨rfl,hs5⟩;refine .inl ⟨_,rfl,(B1 (qq.still hs5) (l1 _ _) _ (qq.still hs5).row.lt (by omega)).mono ?_⟩;rintro _ w6 ⟨rfl,v6,aJT,jm⟩;exact .inl ⟨_,_,rfl,rfl,next _ _ _ (hs3.trans hs5) ⟨_,aJT⟩ jm⟩
  .have e:qO b y=y.text:=by unfold qO;rw[aG h3,aG (by rw[Fl];decide)]
   rw[e]at next;refine(B1 qq (l1 _ _) _ qq.row.lt (by omega)).mono ?_;rintro _ w6 ⟨rfl,v6,aJT,jm⟩;exact .inl ⟨_,_,rfl,rfl,next _ _ _ hs3 ⟨_,aJT⟩ jm⟩
 .have hx:k=n:=by have:=aX hx;omega
  subst hx;rw[wu (by omega)]at hb hjl;refine(Ab hb (by omega)).mono ?_;rintro _ w3 ⟨rfl,cV⟩;exact .inl ⟨_,rfl,rfl,Mod.trans hst cV (λ_ h=>h) (λi hi e=>by have:=hb.own.mQ e;omega)⟩
end Go.Proofs.YtihaaoehhgmphaaGreatDoor.F
namespace Go.Proofs.YtihaaoehhgmphaaGreatDoor
open IntKind Go.RowKit Vc
set_option maxRecDepth 100000
variable{w wb:World}
abbrev Nj:TypeId:=408
abbrev vA:TypeId:=356
abbrev ag8:TypeId:=51
structure gb(wb w:World)(xb:Nat)(V:List A.Vr)(st:Int)(l:List F.Sg):Prop where
 still:Still wb w
 low:wb.heap.size<=xb
 row:∃vp vc op oc,Row w xb vA ⟨[.slice vp V.length vc,.slice none 0 0,.int .i64 st,.slice none 0 0,.slice op l.length oc]⟩/\A.cK w vp V.length vc V/\aS w wb.heap.size Nj 2 (.slice op l.length oc) l.length (F.Dj l)
def iF(xb:Nat)(w:World)(k:Nat):Prop:=k=xb\/∃v,w.cell? ⟨xb,4,none⟩=some v/\v.ownBlock=some k
section
variable{xb:Nat}{V:List A.Vr}{st:Int}{l:List F.Sg}
def gb.k6(h:gb wb w xb V st l){k:Nat}(hk:iF xb w k):wb.heap.size<=k/\k<w.heap.size:=by
 obtain⟨vp,vc,op,oc,hr,hv,ho⟩:=h.row;rcases hk with rfl|⟨v,hv,hk⟩
 .exact⟨h.low,hr.lt⟩
 .have:w.cell? ⟨xb,4,none⟩=some (.slice op l.length oc):=hr.aj rfl
  rw[this]at hv;obtain rfl:=bU hv;exact ho.lt k hk
def gb.gone(h:gb wb w xb V st l){w':World}(hm:Still w w'):cz (iF xb w) w (iF xb w') w':=by
 obtain⟨vp,vc,op,oc,hr,hv,ho⟩:=h.row;refine⟨hm.weaken λ_ h=>h.elim,λk hk=>.inl ?_⟩;rcases hk with hk|⟨v,hv,hk⟩
 .exact .inl hk
 .exact .inr ⟨v,(World.cell?_of_block (hm.block _ hr.lt λh=>h)).symm.trans hv,hk⟩
def gb.on(h:gb wb w xb V st l){w':World}(hm:Still w w'):gb wb w' xb V st l:=by obtain⟨vp,vc,op,oc,h1,h2,h3⟩:=h.row;exact⟨h.still.trans hm,h.low,vp,vc,op,oc,h1.still hm,h2.still hm,h3.still hm⟩
abbrev ptV(k:Int)(q:Bool)(t n o:ag)(p:Option Addr)(m c:Nat):Value:=.agg #[.int .i64 k,.bool q,.string (S t),.string (S n),.string (S o),.slice p m c]
def gb.push(h:gb wb w xb V st l)(hl:l.length<=1000)(x:F.Sg){q:Addr}(hq:∀j u,(F.aKa x)[j]?=some u->w.cell? (q.add j)=some u){vp:Option Addr}{vc:Nat}{op:Option Addr}{oc:Nat}(hr:Row w xb vA ⟨[.slice vp V.length vc,.slice none 0 0,.int .i64 st,.slice none 0 0,.slice op l.length oc]⟩)(hv:A.cK w vp V.length vc V)(ho:aS w wb.heap.size Nj 2 (.slice op l.length oc) l.length (F.Dj l))
  {P:World->Prop}(hK:∀w',gb wb w' xb V st (l++[x])->cz (iF xb w) w (iF xb w') w'->P w'){C:Option Addr->Nat->World->Prop}(hC:∀p c w1,cJ (Addr.mk xb 4 none) P 0 [.slice p (l.length+1) c] w1->C p c w1):dL w Nj 2 24 op l.length oc (some q) 1 C:=by
 have hz:=h.still.size;refine rM ho hz (F.aKa x) rfl (by simp[F.aKa,Value.oneCell']) (λ_=>⟨q,rfl,hq⟩) (by omega) (by omega) λp c w1 o1 m1 bk=>hC p c w1 ?_;have r1:=hr.mod m1 λe=>ho.aHg hr (by decide) e;have v1:A.cK w1 vp V.length vc V:=by
  rcases oB V.length with e|e
  .exact⟨hv.1,hv.2.1,λh=>by omega,λh=>by omega⟩
  .refine hv.mod m1 λa ha hk=>?_
   obtain⟨a',cs,h1,h2⟩:=hv.2.2.2 e;rw[ha]at h1;obtain rfl:=bU h1;exact ho.aHg h2 (by decide) hk
 refine aHb (g:=xb) (o:=4) r1 λw2 r2 m2 z2=>?_;have hf:∀k,(Value.slice op l.length oc).ownBlock=some k->iF xb w k:=λk hk=>.inr ⟨_,hr.aj rfl,hk⟩;refine hK w2 ⟨Mod.trans (Mod.trans h.still m1 (λ_ h=>h) λi hi hk=>by have:=(ho.lt i hk).1;omega) m2 (λ_ h=>h) (λi hi e=>by have:=h.low;omega),h.low,vp,vc,p,c,by rw[cB];exact r2,?_,?_⟩ ⟨Mod.trans m1 m2 hf (λk _ e=>.inl e),λk hk=>?_⟩
 .rcases oB V.length with e|e
  .exact⟨v1.1,v1.2.1,λh=>by omega,λh=>by omega⟩
  .refine v1.mod m2 λa ha hk=>?_
   obtain⟨a',cs,h1,h2⟩:=v1.2.2.2 e;rw[ha]at h1;obtain rfl:=bU h1;exact h2.ne r1 (by decide) hk
 .have e:F.Dj (l++[x])=F.Dj l++F.aKa x:=by simp[F.Dj]
  rw[e,cB];exact o1.mod m2 λk hk e=>o1.aHg r1 (by decide) (by rw[hk,e])
 .rcases hk with hk|⟨v,hv,hk⟩
  .exact .inl (.inl hk)
  .have:w2.cell? ⟨xb,4,none⟩=some (.slice p (l.length+1) c):=r2.aj rfl
   rw[this]at hv;obtain rfl:=bU hv;rcases bk.own (n:=l.length)with e|e
   .exact .inl (hf k (e.symm.trans hk))
   .have hk':(Value.slice p (l.length+1) c).ownBlock=some k:=hk
    rw[hk']at e;exact .inr (by have:=bU e;omega)
def acy(h:gb wb w xb V st l)(hl:l.length<=1000)(k:Int)(q:Bool)(t n o s:ag)(p:Option Addr)(m c:Nat):
  aq Kp #[.pointer (some ⟨xb,0,none⟩),ptV k q t n o p m c,.string (S s)] w (λe w'=>e=.returned (.tuple #[])/\gb wb w' xb V st (l++[⟨if q then 1 else 2,s⟩])/\cz (iF xb w) w (iF xb w') w'):=by
 apply akG;refine aQ λw1 r1 s1 z1=>⟨_,r1.aj rfl,?_⟩;have h1:=h.on s1;obtain⟨vp,vc,op,oc,hr,hv,ho⟩:=h1.row;cases q with
 |true=>refine⟨_,_,_,hr.aj rfl,aQ λw2 r2 s2 z2=>?_⟩;refine(h1.on s2).push hl ⟨1,s⟩ (λj u hu=>?_) (hr.still s2) (hv.still s2) (ho.still s2) (P:=λw'=>_/\_/\_) (λw' h' g'=>⟨rfl,h',((h.gone (s1.trans s2)).trans g')⟩) λ_ _ _ h=>h;rw[aHa,cQ];exact r2.aj hu
 |false=>refine⟨_,_,_,hr.aj rfl,aQ λw2 r2 s2 z2=>?_⟩;refine(h1.on s2).push hl ⟨2,s⟩ (λj u hu=>?_) (hr.still s2) (hv.still s2) (ho.still s2) (P:=λw'=>_/\_/\_) (λw' h' g'=>⟨rfl,h',((h.gone (s1.trans s2)).trans g')⟩) λ_ _ _ h=>h;rw[aHa,cQ];exact r2.aj hu
end
def VQ(k:Nat):List PanicEntry:=[{v:=.iface 28 (.int .i64 (k:Int)),recovered:=false}]
structure pR(V:List A.Vr):Prop where
 IL:A.kZ V
 xO:∀v∈V,v.value.length<=140737488355328
def qb(V:List A.Vr)(p:L.Pt):Option (Pr (F.Sg×List A.Vr)):=
 if p.k=0 then some (.ok (⟨if p.q then 1 else 0,p.t⟩,V))
 else if p.k=3 then(match A.iX p.t V with
  |.ok r=>some (.ok (⟨if p.q then 1 else 2,Lib.itoa r.1⟩,r.2))
  |.bad k=>if k=0 then none else some (.bad k))
 else none
def ayt(wb w:World)(xb:Nat)(st:Int)(l:List F.Sg)(n:Nat)(r:Pr (F.Sg×List A.Vr))(e:Ending)(w':World):Prop:=match r with
 |.ok p=>e=.returned (.tuple #[])/\gb wb w' xb p.2 st (l++[p.1])/\pR p.2/\p.2.length<=n/\cz (iF xb w) w (iF xb w') w'
 |.bad k=>e=.panicked (VQ k)/\Still wb w'/\Mod (iF xb w) w w'
def abh(k:Nat):aq RG #[.int .i64 (k:Int)] w (λe w'=>(e=if k=0 then .returned (.tuple #[])else .panicked (VQ k))/\w'=w):=by
 apply am3;refine aA (λh=>?_) (λh=>?_)
 .have h:k≠0:=by simpa using h
  rw[aG h];exact⟨rfl,rfl⟩
 .have h:k=0:=by simpa using h
  rw[aL h];exact⟨rfl,rfl⟩
section
variable{xb:Nat}{V:List A.Vr}{st:Int}{l:List F.Sg}
def gb.NR(h:gb wb w xb V st l){q:Option Addr}{D:Nat}{V':List A.Vr}(hq:A.cK w q V'.length D V'){P:World->Prop}(hK:∀w',gb wb w' xb V' st l->cz (iF xb w) w (iF xb w') w'->P w'):cJ (Addr.mk xb 0 none) P 0 [.slice q V'.length D] w:=by
 obtain⟨vp,vc,op,oc,hr,hv,ho⟩:=h.row;refine aHb (g:=xb) (o:=0) hr λw2 r2 m2 z2=>hK w2 ⟨Mod.trans h.still m2 (λ_ h=>h) (λi hi e=>by have:=h.low;omega),h.low,q,D,op,oc,r2,?_,ho.mod m2 λk hk e=>ho.aHg hr (by decide) (by rw[hk,e])⟩ ⟨m2.weaken λk e=>.inl e,λk hk=>.inl ?_⟩
 .rcases oB V'.length with e|e
  .exact⟨hq.1,hq.2.1,λh=>by omega,λh=>by omega⟩
  .refine hq.mod m2 λa ha hk=>?_
   obtain⟨a',cs,h1,h2⟩:=hq.2.2.2 e;rw[ha]at h1;obtain rfl:=bU h1;exact h2.ne hr (by decide) hk
 .rcases hk with hk|⟨v,hv,hk⟩
  .exact .inl hk
  .have:w2.cell? ⟨xb,4,none⟩=some (.slice op l.length oc):=r2.aj rfl
   rw[this]at hv;obtain rfl:=bU hv;exact .inr ⟨_,hr.aj rfl,hk⟩
def gb.awv(h:gb wb w xb V st l){k:Nat}(hk:w.heap.size<=k):¬iF xb w k:=λhf=>by have:=(h.k6 hf).2;omega
def gb.same(h:gb wb w xb V st l){w':World}(hm:Still w w'){k:Nat}(hk:iF xb w' k):iF xb w k:=by
 obtain⟨vp,vc,op,oc,hr,hv,ho⟩:=h.row;rcases hk with hk|⟨v,hv,hk⟩
 .exact .inl hk
 .exact .inr ⟨v,(World.cell?_of_block (hm.block _ hr.lt λh=>h)).symm.trans hv,hk⟩
def gb.aww(h:gb wb w xb V st l){w':World}(hm:Still w w'){k:Nat}(hk:w.heap.size<=k):¬iF xb w' k:=λhf=>h.awv hk (h.same hm hf)
def cz.free{F F':Nat->Prop}{w w':World}(h:cz F w F' w'){k:Nat}(hk:k<w.heap.size)(hn:¬F k):¬F' k:=λhf=>(h.new k hf).elim hn λe=>by omega
def as4(he:Env wb)(h:gb wb w xb V st l)(hl:l.length<=1000)(hV:pR V)(k:Int)(q:Bool)(t n o:ag)(p:Option Addr)(m c:Nat)(ht:t.length<=100000)(hn:V.length<=100000){r:Pr (F.Sg×List A.Vr)}
  (hr:(match A.iX t V with
  |.ok r=>some (.ok (⟨if q then 1 else 2,Lib.itoa r.1⟩,r.2))
  |.bad k=>if k=0 then none else some (.bad k))=some r):
  aq Qe #[.pointer (some ⟨xb,0,none⟩),ptV k q t n o p m c] w (ayt wb w xb st l (V.length+t.length) r):=by
 apply akF;refine aQ λw1 r1 s1 z1=>?_;have sD:=s1.cy;have h1:=h.on sD;obtain⟨vp,vc,op,oc,hrow,hv,ho⟩:=h1.row;have vT:=r1.drew;refine⟨λwq=>Row wq w.heap.size ag8 ⟨[.int .i64 k,.bool q,.string (S t),.string (S n),.string (S o),.slice p m c]⟩/\Row wq xb vA ⟨[.slice vp V.length vc,.slice none 0 0,.int .i64 st,.slice none 0 0,.slice op l.length oc]⟩,⟨vT,hrow⟩,_,λwq hq=>hq.1.aj rfl,_,_,_,λwq hq=>hq.2.aj rfl,(A.aKF (he.still h1.still) hv hV.IL hV.xO (by omega) (by omega)).mono ?_⟩;rintro e w2 ⟨h2,s2⟩;cases hev:A.iX t V with
 |bad b=>
  rw[hev]at h2 hr;subst h2;refine .inl ⟨_,_,_,_,_,rfl,(abh b).mono ?_⟩;rintro _ w3 ⟨e3,e4⟩;have e4:w3=w2:=e4;subst e4;dsimp only at hr;split at hr
  .cases hr
  .rename_i hb0
   rw[aG hb0]at e3;subst e3;obtain rfl:=bU hr;exact .inr ⟨_,rfl,rfl,(h1.on s2).still,(sD.trans s2).weaken λ_ h=>h.elim⟩
 |ok z=>rw[hev]at h2 hr;obtain rfl:=bU hr;obtain⟨hi,q',D,rfl,hv',EF,JE,hlen⟩:=h2;refine .inl ⟨_,_,_,_,_,rfl,(abh 0).mono ?_⟩;rintro _ w3 ⟨rfl,rfl⟩;have h2:=h1.on s2;have n2:¬iF xb w3 w.heap.size:=h.aww (sD.trans s2) (aV _);have r2:=vT.still s2;refine .inl ⟨rfl,h2.NR hv' λw4 h4 g4=>?_⟩;have r4:=r2.mod g4.mod n2;have n4:=g4.free r2.lt n2;have sE:Still w4 w4.drew:=(Still.refl _).cy;refine⟨λwq=>Row wq w.heap.size ag8 ⟨[.int .i64 k,.bool q,.string (S t),.string (S n),.string (S o),.slice p m c]⟩,r4.still sE,_,_,_,_,_,_,_,_,λwq hq=>hq.aj rfl,λwq hq=>hq.aj rfl,λwq hq=>hq.aj rfl,λwq hq=>hq.aj rfl,λwq hq=>hq.aj rfl,λwq hq=>hq.aj rfl,?_⟩;have Fm:=h4.on sE;refine(GS (he.still Fm.still) z.1 hi.1 (by have:=hi.2;omega)).mono ?_;rintro _ w5 ⟨rfl,s5⟩;have h5:=Fm.on s5;refine .inl ⟨_,rfl,r4.still (sE.trans s5),(acy h5 hl k q t n o (Lib.itoa z.1) p m c).mono ?_⟩;rintro _ w6 ⟨rfl,h6,g6⟩;refine .inl ⟨rfl,rfl,h6,⟨EF,JE⟩,hlen,?_⟩;exact(((h.gone (sD.trans s2)).trans g4).trans (h4.gone (sE.trans s5))).trans g6
end
end Go.Proofs.YtihaaoehhgmphaaGreatDoor
namespace Go.Proofs.YtihaaoehhgmphaaGreatDoor
open IntKind Go.RowKit Vc
set_option maxRecDepth 100000
variable{w wb:World}
def aIc:List L.Pt->List A.Vr->Option (Pr (List F.Sg×List A.Vr))
 |[],V=>some (.ok ([],V))
 |p::r,V=>match qb V p with
  |none=>none
  |some (.bad k)=>some (.bad k)
  |some (.ok g)=>match aIc r g.2 with
   |none=>none
   |some (.bad k)=>some (.bad k)
   |some (.ok q)=>some (.ok (g.1::q.1,q.2))
def aHW(l:List L.Pt):Nat:=(l.map λp=>p.t.length+1).sum
def axH(wb w:World)(xb:Nat)(st:Int)(l:List F.Sg)(n:Nat)(r:Pr (List F.Sg×List A.Vr))(e:Ending)(w':World):Prop:=match r with
 |.ok p=>e=.returned (.tuple #[])/\gb wb w' xb p.2 st (l++p.1)/\pR p.2/\p.2.length<=n/\cz (iF xb w) w (iF xb w') w'
 |.bad k=>e=.panicked (VQ k)/\Still wb w'/\Mod (iF xb w) w w'
section
variable{xb:Nat}{V:List A.Vr}{st:Int}{l:List F.Sg}
def as5(he:Env wb)(h:gb wb w xb V st []){ps:List L.Pt}{p:Option Addr}{n c:Nat}{D:Nat->Prop}(hs:L.cD wb D ps (.slice p n c))(hV:pR V)(hb:V.length+aHW ps<=50000)(hn:ps.length<=900){r:Pr (List F.Sg×List A.Vr)}(hr:aIc ps V=some r):
  aq Qc #[.pointer (some ⟨xb,0,none⟩),.slice p n c] w (axH wb w xb st [] (V.length+aHW ps) r):=by
 obtain⟨rfl,hc⟩:=hs.len;apply akB;refine⟨λx w1=>∃(i:Nat) (Vi:List A.Vr) (li:List F.Sg),x=(i:Int)/\i<=ps.length/\gb wb w1 xb Vi st li/\pR Vi/\li.length=i/\Vi.length+aHW (ps.drop i)<=V.length+aHW ps/\cz (iF xb w) w (iF xb w1) w1/\
  (match aIc (ps.drop i) Vi with
  |none=>False
  |some (.bad k)=>r=.bad k
  |some (.ok q)=>r=.ok (li++q.1,q.2)),λx _=>(ps.length-x).toNat,⟨0,V,[],rfl,dK _,h,hV,rfl,by simp,cz.refl _,?_⟩,?_⟩
 .rw[KP,hr]
  cases r with
  |ok q=>rfl
  |bad k=>rfl
 rintro x _ w1 ⟨i,Vi,li,rfl,hi,h1,OM,sP,W9,g1,lD⟩;refine aA (λhx=>?_) (λhx=>?_)
 .have hx:i<ps.length:=by have:=aR hx;omega
  have hd:ps.drop i=ps[i]::ps.drop (i+1):=qB hx;have hpz:aHW (ps.drop i)=ps[i].t.length+1+aHW (ps.drop (i+1)):=by rw[hd];simp only[aHW,gI,aIO]
  obtain⟨b,v,rfl,hD,hcell,hsv⟩:=(hs.still h1.still).get (gW hx);obtain⟨wp,wc,rfl⟩:=hsv.form;have cl:∀(j:Nat) (u:Value),(L.gX ps[i] (.slice wp ps[i].w.length wc))[j]?=some u->w1.cell? ((b.add (Int.toNat (i:Int)*6)).add j)=some u:=λj u hu=>by rw[b6];exact hcell j u hu
  have c0:w1.cell? (b.add (Int.toNat (i:Int)*6))=some (.int .i64 ps[i].k):=cl 0 _ rfl;refine⟨by omega,by omega,_,_,_,_,_,_,_,_,c0,cl 1 _ rfl,cl 2 _ rfl,cl 3 _ rfl,cl 4 _ rfl,cl 5 _ rfl,?_⟩;refine aQ λw2 r2 s2 z2=>aHb (g:=w1.heap.size) (o:=0) r2 λw3 r3 m3 z3=>?_;have iE:Still w1 w3:=s2.box (aV _) m3;have h3:=h1.on iE;have g13:=g1.trans (h1.gone iE);rw[hd,aIc]at lD;have step:∀(g:F.Sg×List A.Vr),qb Vi ps[i]=some (.ok g)->g.2.length<=Vi.length+ps[i].t.length->pR g.2->∀w4,gb wb w4 xb g.2 st (li++[g.1])->cz (iF xb w3) w3 (iF xb w4) w4->
    (∃(i':Nat) (Vi:List A.Vr) (li:List F.Sg),i64.wrap ((i:Int)+1)=(i':Int)/\i'<=ps.length/\gb wb w4 xb Vi st li/\pR Vi/\li.length=i'/\Vi.length+aHW (ps.drop i')<=V.length+aHW ps/\cz (iF xb w) w (iF xb w4) w4/\
    (match aIc (ps.drop i') Vi with
    |none=>False
    |some (.bad k)=>r=.bad k
    |some (.ok q)=>r=.ok (li++q.1,q.2)))/\(ps.length-i64.wrap ((i:Int)+1)).toNat<(ps.length-(i:Int)).toNat:=λg hg vP hgV w4 h4 g4=>by
   rw[wrap_i64 (by omega) (by omega)];refine⟨⟨i+1,g.2,li++[g.1],by omega,by omega,h4,hgV,by simp[sP],by omega,g13.trans g4,?_⟩,by omega⟩;rw[hg]at lD;dsimp only at lD;cases hrp:aIc (ps.drop (i+1)) g.2 with
   |none=>rw[hrp]at lD;exact lD.elim
   |some rr=>
    rw[hrp]at lD;cases rr with
    |bad k=>exact lD
    |ok q=>dsimp only at lD⊢;rw[lD];simp
  refine⟨_,r3.aj rfl,aA (λhk=>?_) (λhk1=>aA (λhk=>?_) (λhk2=>aA (λhk=>?_) (λpO=>?_)))⟩
  .have hk:ps[i].k=1:=aR hk
   rw[show qb Vi ps[i]=none by unfold qb;rw[aG (by omega),aG (by omega)]]at lD;exact lD.elim
  .have hk:ps[i].k=2:=aR hk
   rw[show qb Vi ps[i]=none by unfold qb;rw[aG (by omega),aG (by omega)]]at lD;exact lD.elim
  .have hk:ps[i].k=3:=aR hk
   have hp:qb Vi ps[i]=(match A.iX ps[i].t Vi with
     |.ok r=>some (.ok (⟨if ps[i].q then 1 else 2,Lib.itoa r.1⟩,r.2))
     |.bad k=>if k=0 then none else some (.bad k)):=by
    unfold qb;rw[aG (by omega),aL hk];try cases A.iX ps[i].t Vi<;>rfl
   refine⟨_,_,_,_,_,_,_,_,r3.aj rfl,r3.aj rfl,r3.aj rfl,r3.aj rfl,r3.aj rfl,r3.aj rfl,?_⟩;cases ON:qb Vi ps[i]with
   |none=>rw[ON]at lD;exact lD.elim
   |some rr=>
    refine(as4 he h3 (by omega) OM _ _ _ _ _ _ _ _ (by omega) (by omega) (hp.symm.trans ON)).mono ?_;intro e w4 h4;cases rr with
    |bad k=>rw[ON]at lD;obtain⟨rfl,a1,a2⟩:=h4;refine .inr ⟨_,rfl,?_⟩;have e:r=.bad k:=lD;rw[e];exact⟨rfl,a1,Mod.trans g13.mod a2 (λ_ h=>h) λj hj hf=>(g13.new j hf).elim id λhx=>by omega⟩
    |ok g=>obtain⟨rfl,a1,a2,a3,a4⟩:=h4;exact .inl ⟨rfl,step g ON a3 a2 w4 a1 a4⟩
  ·by_cases hk0:ps[i].k=0
   .have hp:qb Vi ps[i]=some (.ok (⟨if ps[i].q then 1 else 0,ps[i].t⟩,Vi)):=by
     unfold qb;rw[aL hk0]
    have ag9:li.length<=1000:=by omega
    refine⟨_,r3.aj rfl,aA (λhq=>?_) (λhq=>?_)⟩
    .refine⟨_,_,_,_,_,_,_,_,r3.aj rfl,r3.aj rfl,r3.aj rfl,r3.aj rfl,r3.aj rfl,r3.aj rfl,_,r3.aj rfl,(acy h3 ag9 _ _ _ _ _ _ _ _ _).mono ?_⟩
     rintro _ w4 ⟨rfl,h4,g4⟩;rw[hq]at h4 hp;exact .inl ⟨rfl,step _ hp (BY _ _) OM w4 h4 g4⟩
    .rw[hq]at hp
     have sD:Still w3 w3.drew:=(Still.refl _).cy;have ng:=h3.on sD;obtain⟨vp,vc,op,oc,hrow,hv,ho⟩:=ng.row;refine⟨λwq=>wq.cell? ⟨xb,4,none⟩=some (.slice op li.length oc)/\wq.cell? ⟨w1.heap.size,2,none⟩=some (.string (S ps[i].t)),⟨hrow.aj rfl,(r3.still sD).aj rfl⟩,_,_,_,λwq hq=>hq.1,_,λwq hq=>hq.2,?_⟩;refine aQ λw4 r4 s4 z4=>⟨⟨(hrow.still s4).aj rfl,((r3.still sD).still s4).aj rfl⟩,?_⟩;refine(ng.on s4).push ag9 ⟨0,ps[i].t⟩ (λj u hu=>?_) (hrow.still s4) (hv.still s4) (ho.still s4) (P:=λw'=>_/\_) (λw5 h5 g5=>?_) λ_ _ _ h=>h
     .rw[aHa,cQ]
      exact r4.aj hu
     .exact step _ hp (BY _ _) OM w5 h5 ((h3.gone (sD.trans s4)).trans g5)
   .have hp:qb Vi ps[i]=none:=by
     unfold qb;rw[aG hk0,aG (aX pO)]
    rw[hp]at lD;exact lD.elim
 .have hx:i=ps.length:=by have:=aX hx;omega
  subst hx;rw[ye]at lD W9;have e:r=.ok (li++[],Vi):=lD;rw[e];have hbz:Vi.length<=V.length+aHW ps:=by simp only[aHW,rK,K3]at W9;simpa[aHW]using W9
  exact⟨rfl,by simpa using h1,OM,hbz,g1⟩
end
def as6(p q r:Addr)(w:World):
  CallsD aM KY #[.pointer (some p),.pointer (some q),.pointer (some r)] .returning w λe u' w'=>e=.returned (.tuple #[])/\u'=.returning/\w'=w:=by
 refine callsD_of_wpS Tryz.func367 rfl λc₀ cs hu=>?_;apply wpS_seq;apply wpS_region;simp[wpOpsS,go_sem,recoverD,hu,Tryz.ntmps367,Exit.thenS];apply wpS_seq;apply wpS_region;simp[wpOpsS,go_sem,Tryz.ntmps367,Exit.thenS];refine wpS_cond (t:=false) (by simp[Act.eval,Array.replicate]) ?_;simp only[kV,iV];refine wpS_of_wp (wp_skip ?_);cases c₀;simp_all [bodyPostS,results,Tryz.results367]
def apY(p q r:Addr)(n:Int)(w:World)(K:World->Prop)
  (h:∃Sw:World->Prop,Sw w.drew/\∃(jv:Option Addr) (js jt:Nat),∃(l9:Option Addr) (lW lX:Nat),∃aHq:Int,(∀wq:World,Sw wq->wq.cell? p=some (.slice jv js jt))/\(∀wq:World,Sw wq->wq.cell? (p.add 1)=some (.slice l9 lW lX))/\(∀wq:World,Sw wq->wq.cell? (p.add 2)=some (.int .i64 aHq))/\(c7 (w.drew.alloc (.cells #[(.slice jv js jt),(.slice l9 lW lX),(.int .i64 aHq),(.slice none 0 0),(.slice none 0 0)] vA)) (λ(w1:World)=>(Sw w1/\cJ q (λ(w2:World)=>cJ r (λ(w3:World)=>K w3) 0 [(.int .i64 n)] w2) 0 [(.pointer (some (Addr.mk w.drew.heap.size 0 none)))] w1)/\(cJ q (λ(w4:World)=>Sw w4/\cJ r (λ(w5:World)=>K w5) 0 [(.int .i64 n)] w4) 0 [(.pointer (some (Addr.mk w.drew.heap.size 0 none)))] w1)))/\(Sw w.drew/\c7 (w.drew.alloc (.cells #[(.slice jv js jt),(.slice l9 lW lX),(.int .i64 aHq),(.slice none 0 0),(.slice none 0 0)] vA)) (λ(w6:World)=>cJ q (λ(w7:World)=>cJ r (λ(w8:World)=>K w8) 0 [(.int .i64 n)] w7) 0 [(.pointer (some (Addr.mk w.drew.heap.size 0 none)))] w6))):
  CallsD aM KY #[.pointer (some p),.pointer (some q),.pointer (some r)] (.panicking [{v:=.iface 28 (.int .i64 n),recovered:=false}]) w λe u' w'=>e=.returned (.tuple #[])/\settle u'=.returning/\K w':=by
 refine callsD_of_wpS Tryz.func367 rfl λc₀ cs hu=>?_;apply wpS_seq;apply wpS_region;simp[wpOpsS,go_sem,recoverD,hu,Tryz.ntmps367,Exit.thenS];apply wpS_seq;apply wpS_region;simp[wpOpsS,go_sem,Tryz.ntmps367,Exit.thenS];refine wpS_cond (t:=true) (by simp[Act.eval,Array.replicate]) ?_;simp only[nu];refine wpS_of_wp ?_;have et:(#[Value.pointer (some p),Value.pointer (some q),Value.pointer (some r)]++((((Array.replicate 9 undef).setIfInBounds 1 (Value.iface 28 (Value.int i64 n))).setIfInBounds 0 (Value.iface 28 (Value.int i64 n))).setIfInBounds 2 (Value.iface 28 (Value.int i64 n))).setIfInBounds 3 (Value.bool true))=
   ⟨[.pointer (some p),.pointer (some q),.pointer (some r),.iface 28 (.int .i64 n),.iface 28 (.int .i64 n),.iface 28 (.int .i64 n),.bool true,undef,undef,undef,undef,undef]⟩:=by rfl
 rw[et];refine D0 (P:=aM) (m:=.held) (ds:=[]) (l:=[.pointer (some p),.pointer (some q),.pointer (some r),.iface 28 (.int .i64 n),.iface 28 (.int .i64 n),.iface 28 (.int .i64 n),.bool true,undef,undef,undef,undef,undef]) (K:=λl' w'=>K w') (E:=λ_ _=>False) (Eq.mp (α:=∃Sw:World->Prop,Sw w.drew/\∃(jv:Option Addr) (js jt:Nat),∃(l9:Option Addr) (lW lX:Nat),∃aHq:Int,(∀wq:World,Sw wq->wq.cell? p=some (.slice jv js jt))/\(∀wq:World,Sw wq->wq.cell? (p.add 1)=some (.slice l9 lW lX))/\(∀wq:World,Sw wq->wq.cell? (p.add 2)=some (.int .i64 aHq))/\(c7 (w.drew.alloc (.cells #[(.slice jv js jt),(.slice l9 lW lX),(.int .i64 aHq),(.slice none 0 0),(.slice none 0 0)] vA)) (λ(w1:World)=>(Sw w1/\cJ q (λ(w2:World)=>cJ r (λ(w3:World)=>K w3) 0 [(.int .i64 n)] w2) 0 [(.pointer (some (Addr.mk w.drew.heap.size 0 none)))] w1)/\(cJ q (λ(w4:World)=>Sw w4/\cJ r (λ(w5:World)=>K w5) 0 [(.int .i64 n)] w4) 0 [(.pointer (some (Addr.mk w.drew.heap.size 0 none)))] w1)))/\(Sw w.drew/\c7 (w.drew.alloc (.cells #[(.slice jv js jt),(.slice l9 lW lX),(.int .i64 aHq),(.slice none 0 0),(.slice none 0 0)] vA)) (λ(w6:World)=>cJ q (λ(w7:World)=>cJ r (λ(w8:World)=>K w8) 0 [(.int .i64 n)] w7) 0 [(.pointer (some (Addr.mk w.drew.heap.size 0 none)))] w6))) (by kernel_rfl) h) ?_ ?_
 .rintro l' w' _ hk
  cases c₀;simp_all [bodyPostS,results,Tryz.results367,act,settle]
 .intro l' c w' _ h
  exact h.elim
def R6{a:Addr}{K K':World->Prop}:∀{vs:List Value} {i:Nat} {w:World},cJ a K i vs w->(∀w,K w->K' w)->cJ a K' i vs w
 |[],_,w,h,hk=>hk w h
 |v::r,i,w,h,hk=>by obtain⟨hv,h1,h2⟩:=dZ h;exact aA (λ_=>⟨h1,R6 h2 hk⟩) (λh=>by rw[hv]at h;cases h)
def axI(w:World)(V:List A.Vr)(st:Int)(n:Nat)(r:Pr (List F.Sg×List A.Vr))(e:Ending)(w':World):Prop:=match r with
 |.ok p=>∃xb,e=.returned (.tuple #[.pointer (some ⟨xb,0,none⟩),.int .i64 0])/\gb w w' xb p.2 st p.1/\pR p.2/\p.2.length<=n
 |.bad k=>∃xb,e=.returned (.tuple #[.pointer (some ⟨xb,0,none⟩),.int .i64 (k:Int)])/\gb w w' xb V st []
def Tw{V:List A.Vr}{st:Int}(he:Env w){vp:Option Addr}{vc:Nat}(hv:A.cK w vp V.length vc V){ps:List L.Pt}{p:Option Addr}{n c:Nat}{D:Nat->Prop}(hs:L.cD w D ps (.slice p n c))(hV:pR V)(hb:V.length+aHW ps<=50000)(hn:ps.length<=900){r:Pr (List F.Sg×List A.Vr)}(hr:aIc ps V=some r):
  aq Le #[.slice p n c,.agg #[.slice vp V.length vc,.slice none 0 0,.int .i64 st],.slice none 0 0] w (axI w V st (V.length+aHW ps) r):=by
 apply ano;refine aQ λw1 r1 s1 z1=>aQ λw2 r2 s2 z2=>aQ λw3 r3 s3 z3=>?_;have q1:=(r1.still s2).still s3;have q2:=r2.still s3;refine⟨_,_,_,_,_,_,_,q1.aj rfl,q1.aj rfl,q1.aj rfl,aQ λw4 r4 s4 z4=>?_⟩;refine dO (g:=w1.heap.size) (o:=0) (q2.still s4) (by simp[fh]) (by simp[Value.oneCell']) λw5 r5 m5 z5=>?_;have lp:Still w w4:=((s1.trans s2).trans s3).trans s4;have aIf:Still w w5:=lp.box (by omega) m5;have h5:gb w w5 w3.heap.size V st []:=⟨aIf,by omega,vp,vc,none,0,r4.mod m5 (by omega),hv.still aIf,aS.nil _ _ _ _⟩;refine⟨_,r5.aj rfl,(as5 he h5 hs hV hb hn hr).mono ?_⟩;have nF:∀k,k<w3.heap.size->w.heap.size<=k->¬iF w3.heap.size w5 k:=λk h1 h2 hf=>by
  rcases hf with e|⟨v,hv,hk⟩
  .omega
  .have:w5.cell? ⟨w3.heap.size,4,none⟩=some (.slice none 0 0):=(r4.mod m5 (by omega)).aj rfl
   rw[this]at hv;obtain rfl:=bU hv;cases hk
 have p5:Row w5 w.heap.size 109 ⟨[.slice vp V.length vc,.slice none 0 0,.int .i64 st]⟩:=(q1.still s4).mod m5 (by omega);have e5:Row w5 w2.heap.size 28 ⟨[.int .i64 0]⟩:=(r3.still s4).mod m5 (by omega);intro e w6 h6;cases r with
 |bad k=>
  obtain⟨rfl,s6,m6⟩:=h6;have p6:=p5.mod m6 (nF _ (by omega) (by omega));have x6:=r5.mod m6 (nF _ (by omega) (by omega));have e6:=e5.mod m6 (nF _ (by omega) (by omega));refine .inr ⟨_,rfl,?_⟩;have sD:Still w6 w6.drew:=(Still.refl _).cy;have Jv:=m6.size;refine(apY ⟨w.heap.size,0,none⟩ ⟨w1.heap.size,0,none⟩ ⟨w2.heap.size,0,none⟩ k w6 (λw9=>Row w9 w1.heap.size 350 ⟨[.pointer (some ⟨w6.heap.size,0,none⟩)]⟩/\Row w9 w2.heap.size 28 ⟨[.int .i64 (k:Int)]⟩/\gb w w9 w6.heap.size V st []) ?_).mono ?_
  .have go:∀{w7:World} {Q:World->Prop},Row w7 w6.heap.size vA ⟨[.slice vp V.length vc,.slice none 0 0,.int .i64 st,.slice none 0 0,.slice none 0 0]⟩->Still w6 w7->(∀w8,Row w8 w.heap.size 109 ⟨[.slice vp V.length vc,.slice none 0 0,.int .i64 st]⟩->Q w8)->cJ ⟨w1.heap.size,0,none⟩ (λw8=>Q w8/\cJ ⟨w2.heap.size,0,none⟩ (λw9=>Row w9 w1.heap.size 350 ⟨[.pointer (some ⟨w6.heap.size,0,none⟩)]⟩/\Row w9 w2.heap.size 28 ⟨[.int .i64 (k:Int)]⟩/\gb w w9 w6.heap.size V st []) 0 [.int .i64 (k:Int)] w8) 0 [.pointer (some ⟨w6.heap.size,0,none⟩)] w7:=by
    intro w7 Q r7 s7 hQ;refine dO (g:=w1.heap.size) (o:=0) (x6.still s7) (by simp[fh]) (by simp[Value.oneCell']) λw8 r8 m8 z8=>⟨hQ w8 ((p6.still s7).mod m8 (by omega)),?_⟩;refine dO (g:=w2.heap.size) (o:=0) ((e6.still s7).mod m8 (by omega)) (by simp[fh]) (by simp[Value.oneCell']) λw9 r9 m9 z9=>⟨r8.mod m9 (by omega),r9,?_⟩;have s9:Still w w9:=((s6.trans s7).box (by omega) m8).box (by omega) m9;exact⟨s9,by have:=s6.size;omega,vp,vc,none,0,(r7.mod m8 (by omega)).mod m9 (by omega),hv.still s9,aS.nil _ _ _ _⟩
   refine⟨λwq=>Row wq w.heap.size 109 ⟨[.slice vp V.length vc,.slice none 0 0,.int .i64 st]⟩,p6.still sD,_,_,_,_,_,_,_,λwq hq=>hq.aj rfl,λwq hq=>hq.aj rfl,λwq hq=>hq.aj rfl,aQ λw7 r7 s7 z7=>⟨⟨(p6.still sD).still s7,?_⟩,?_⟩,p6.still sD,aQ λw7 r7 s7 z7=>?_⟩
   .have:=go (Q:=λ_=>True) r7 (sD.trans s7) λ_ _=>trivial
    exact R6 this λw8 h=>h.2
   .exact go r7 (sD.trans s7) λ_ h=>h
   .have:=go (Q:=λ_=>True) r7 (sD.trans s7) λ_ _=>trivial
    exact R6 this λw8 h=>h.2
  .rintro _ u w9 ⟨rfl,hu,a1,a2,a3⟩
   exact⟨⟨_,rfl⟩,hu,_,a1.aj rfl,_,a2.aj rfl,_,rfl,a3⟩
 |ok q=>
  obtain⟨rfl,h6,hV6,hl6,g6⟩:=h6;have m6:=g6.mod;have x6:=r5.mod m6 (nF _ (by omega) (by omega));have e6:=e5.mod m6 (nF _ (by omega) (by omega));have f6:∀k,k<w3.heap.size->w.heap.size<=k->¬iF w3.heap.size w6 k:=λk h1 h2=>g6.free (by have:=r4.lt;omega) (nF k h1 h2);obtain⟨vp6,vc6,op,oc,hrow,Fo,ho⟩:=h6.row;refine .inl ⟨rfl,_,x6.aj rfl,dO (g:=w1.heap.size) (o:=0) x6 (by simp[fh]) (by simp[Value.oneCell']) λw7 r7 m7 z7=>?_⟩;refine dO (g:=w2.heap.size) (o:=0) (e6.mod m7 (by omega)) (by simp[fh]) (by simp[Value.oneCell']) λw8 r8 m8 z8=>?_;have OO:Mod (λk=>k=w1.heap.size\/k=w2.heap.size) w6 w8:=Mod.trans m7 m8 (λ_ h=>.inl h) (λ_ _ h=>.inr h);refine(as6 _ _ _ w8).mono ?_;rintro _ u w9 ⟨rfl,rfl,rfl⟩;refine⟨⟨_,rfl⟩,rfl,_,(r7.mod m8 (by omega)).aj rfl,_,r8.aj rfl,_,rfl,⟨Mod.trans h6.still OO (λ_ h=>h) (λi hi e=>by omega),h6.low,vp6,vc6,op,oc,hrow.mod OO (λe=>by omega),?_,ho.mod OO λk hk e=>f6 k (by omega) (by omega) (.inr ⟨_,hrow.aj rfl,hk⟩)⟩,hV6,hl6⟩;rcases oB q.2.length with e|e
  .exact⟨Fo.1,Fo.2.1,λh=>by omega,λh=>by omega⟩
  .refine Fo.mod OO λa ha hk=>?_
   obtain⟨a',cs,h1,h2⟩:=Fo.2.2.2 e;rw[ha]at h1;obtain rfl:=bU h1;rcases hk with hk|hk
   .exact h2.ne x6 (by decide) hk
   .exact h2.ne e6 (by decide) hk
end Go.Proofs.YtihaaoehhgmphaaGreatDoor
namespace Go.Proofs.YtihaaoehhgmphaaGreatDoor.P
open IntKind Go.RowKit Vc
variable{w:World}
abbrev Still(w w':World):Prop:=Mod (λ_=>False) w w'
def Still.trans{a b c:World}(h:Still a b)(k:Still b c):Still a c:=Mod.trans h k (λ_ h=>h) (λ_ _ h=>h)
def Still.S6{w w':World}(h:Below w.heap.size w w'):Still w w':=Mod.S6 h
def pF(S:sw):List Value:=(List.range 256).map λi=>.bool (S (UInt8.ofNat i))
@[simp]theorem aFQ(S:sw):(pF S).length=256:=by simp[pF]
def abi{S:sw}{i:Nat}(h:i<256):(pF S)[i]?=some (.bool (S (UInt8.ofNat i))):=by simp[pF,h]
def R7{S T:sw}(h:∀c,S c=T c):pF S=pF T:=by rw[show S=T from funext h]
def are{S:sw}{i:Nat}(h:i<256)(b:Bool):(pF S).set i (.bool b)=pF (λc=>if c.toNat=i then b else S c):=by
 apply aIh;intro j;rw[DN]
 by_cases hj:j<256
 .have hR:=abi (S:=λc=>if c.toNat=i then b else S c) hj
  rw[hR]
  by_cases hij:i=j
  .subst hij
   have:(UInt8.ofNat i).toNat=i:=by simp;omega
   rw[aL rfl,aL (by simpa using h),aL this]
  .have:¬(UInt8.ofNat j).toNat=i:=by simp;omega
   rw[aG hij,abi hj,aG this]
 .rw[t_ (l:=pF _) (i:=j) (by simp;omega),t_ (l:=pF _) (i:=j) (by simp;omega)]
  by_cases hij:i=j
  .omega
  .rw[aG hij]
section
variable{g o:Nat}{t:TypeId}{pre:List Value}{S:sw}
def _root_.Go.Proofs.YtihaaoehhgmphaaGreatDoor.Row.wrO(hr:Row w g t ⟨pre++pF S⟩)(ho:pre.length=o){k:Nat}(hk:k<256):Wr w ((Addr.mk g o none).add (k*1)):=by rw[aHa,aHp];exact hr.wr _ (by simp;omega)
def _root_.Go.Proofs.YtihaaoehhgmphaaGreatDoor.Row.VR(hr:Row w g t ⟨pre++pF S⟩)(ho:pre.length=o){k:Nat}(hk:k<256)(b:Bool):Row (w.setCell ((Addr.mk g o none).add (k*1)) (.bool b)) g t ⟨pre++pF (λc=>if c.toNat=k then b else S c)⟩:=by rw[aHa,aHp];have h:=hr.fW (o+k) (.bool b);rw[Kg _ _ (by omega),<-ho,BM,are hk]at h;rw[<-ho];exact h
def _root_.Go.Proofs.YtihaaoehhgmphaaGreatDoor.Mod.VR{U:Nat->Prop}{a b:World}(h:Mod U a b)(hp:U g\/a.heap.size<=g)(k:Nat)(u:Value):Mod U a (b.setCell ((Addr.mk g o none).add (k*1)) u):=by rw[aHa];exact h.setCell hp _
set_option maxRecDepth 10000 in
def G8(hr:Row w g t ⟨pre++pF S⟩)(ho:pre.length=o)(lo hi:UInt8):aq YH #[.pointer (some ⟨g,o,none⟩),.int .u8 (lo.toNat:Int),.int .u8 (hi.toNat:Int)] w
  (λe w'=>e=.returned (.tuple #[])/\Mod (λi=>i=g) w w'/\Row w' g t ⟨pre++pF (aJF S lo hi)⟩):=by
 apply ali;have hl:=lo.toNat_lt;have hh:=hi.toNat_lt;unfold YI;rw[wrap_i64 (n:=(lo.toNat:Int)) (by omega) (by omega),wrap_i64 (n:=(hi.toNat:Int)) (by omega) (by omega)];refine⟨λx w1=>∃i:Nat,x=(i:Int)/\lo.toNat<=i/\i<=256/\(lo.toNat<=hi.toNat->i<=hi.toNat+1)/\(hi.toNat<lo.toNat->i=lo.toNat)/\Mod (λi=>i=g) w w1/\Row w1 g t ⟨pre++pF (λc=>S c||(decide (lo.toNat<=c.toNat)&&decide (c.toNat<i)))⟩,λx _=>(256-x).toNat,
  ⟨lo.toNat,rfl,aV _,by omega,by omega,by omega,Mod.refl _ _,?_⟩,?_⟩
 .rw[R7 (T:=S) (λc=>by
   by_cases h1:lo.toNat<=c.toNat
   .have h2:¬c.toNat<lo.toNat:=by omega
    rw[eX h2];simp
   .simp[h1])]
  exact hr
 rintro _ _ w1 ⟨i,rfl,hi1,hi2,hi3,hi4,hm,aHc⟩;have e1:i64.wrap ((i:Int)+1)=((i+1:Nat):Int):=wI;refine aA (λhx=>?_) (λhx=>?_)
 .have hx:=aR hx
  have hx':i<256:=by omega
  simp only[e1,b6];refine⟨by omega,by omega,aHc.wrO ho hx',⟨i+1,rfl,by omega,by omega,by omega,by omega,hm.VR (.inl rfl) _ _,?_⟩,by omega⟩;have h:=aHc.VR ho hx' true;rw[R7 (T:=λc=>if c.toNat=i then true else S c||(decide (lo.toNat<=c.toNat)&&decide (c.toNat<i))) (λc=>by
   by_cases h1:c.toNat=i
   .rw[aL h1]
    have h2:lo.toNat<=c.toNat:=by omega
    have h3:c.toNat<i+1:=by omega
    simp[h2,h3]
   .rw[aG h1]
    have h2:(decide (c.toNat<i+1))=decide (c.toNat<i):=by apply sY.2;omega
    rw[h2])]
  exact h
 .have hx:=aX hx
  refine⟨rfl,hm,?_⟩;rw[R7 (S:=aJF S lo hi) (T:=λc=>S c||(decide (lo.toNat<=c.toNat)&&decide (c.toNat<i))) (λc=>by
   unfold aJF;congr 1
   by_cases h1:lo.toNat<=c.toNat
   .have h2:(decide (c.toNat<=hi.toNat))=decide (c.toNat<i):=by
     apply sY.2;constructor<;>intro<;>omega
    rw[h2]
   .simp[h1])]
  exact aHc
end
def aaz{p:List UInt8}(h:p≠[]):aq KM #[.string (S p)] w
  (λe w'=>e=.returned (.tuple #[.int .u8 ((single p).1.toNat:Int),.string (S (single p).2)])/\w'=w.drew):=by
 apply al9
 match p,h with
 |[a],_=>refine aA (λhx=>?_) (λ_=>⟨by decide,a,rfl,by decide,by simp,rfl,rfl⟩);have:=aR hx;simp at this
 |a::b::r,_=>
  refine aA (λ_=>⟨by decide,a,rfl,aA (λha=>?_) (λha=>?_)⟩) (λhx=>?_)
  .have ha:=aR ha
   have ha:a=92:=KH.1 (Int.ofNat_inj.1 ha);refine⟨by decide,b,rfl,by decide,?_,?_,rfl⟩
   .show(2:Int)<=((a::b::r).length:Int)
    simp only[bf];omega
   .simp only[single,aL ha];rfl
  .have ha:=aX ha
   have ha:¬a=92:=λe=>ha (by rw[e];rfl);refine⟨by decide,a,rfl,by decide,?_,?_,rfl⟩
   .show(1:Int)<=((a::b::r).length:Int)
    simp only[bf];omega
   .simp only[single,aG ha];rfl
  .have:=aX hx
   simp at this;omega
def ape(p:List UInt8):aq Q1 #[.string (S p)] w (λe w'=>e=.returned (.bool (aH3 p))/\Still w w'):=by
 apply alR;refine⟨λq w1=>aH3 q=aH3 p/\Still w w1,λq _=>q.length,⟨rfl,Mod.refl _ _⟩,?_⟩;rintro q _ w1 ⟨hq,hm⟩;rw[<-hq];refine aA (λhx=>?_) (λhx=>?_)
 .have hx:q≠[]:=by simpa using hx
  obtain⟨a,r,rfl⟩:=aJj hx;refine⟨by decide,a,rfl,(Tryz.strings_IndexByte (S [42,63,91]) _ _).mono ?_⟩;rintro _ w2 ⟨rfl,rfl⟩;rw[ao1];have hidx:Go.Lib.indexByte (S [42,63,91]).data.toList ((a.toNat:Int)).toNat.toUInt8=Go.Lib.indexByte [42,63,91] a:=by rw[b6];congr 1;simp
  rw[hidx];have hsg:decide ((0:Int)<=Go.Lib.indexByte [42,63,91] a)=AL a:=by
   unfold AL
   by_cases h1:a=42
   .subst h1;decide
   ·by_cases h2:a=63
    .subst h2;decide
    ·by_cases h3:a=91
     .subst h3;decide
     .have g1:¬(42:UInt8)=a:=λe=>h1 e.symm
      have g2:¬(63:UInt8)=a:=λe=>h2 e.symm;have g3:¬(91:UInt8)=a:=λe=>h3 e.symm;simp[Go.Lib.indexByte,h1,h2,h3,g1,g2,g3]
  refine .inl ⟨_,rfl,?_⟩
  try dsimp only[zR]
  rw[hsg];refine aA (λh=>⟨by rw[h];rfl,hm⟩) (λh=>?_);rw[h,yh];refine(aaz hx).mono ?_;rintro _ w3 ⟨rfl,rfl⟩;refine .inl ⟨_,_,rfl,⟨?_,hm.drew⟩,ZL hx⟩;rfl
 .have hx:q=[]:=by simpa using hx
  subst hx;exact⟨rfl,hm⟩
def arf(p:List UInt8)(hp:p.length<1000000):aq Gg #[.string (S p)] w (λe w'=>e=.returned (.string (S (plain p)))/\Still w w'):=by
 apply aml;have hpl:=R4 p;refine aQ λw1 r1 s1 z1=>?_;refine⟨λq w2=>∃l cs v,l++plain q=plain p/\cs.length=2/\eE w2 86 w.heap.size 0 w.heap.size cs v l/\Mod (λ_=>False) w w2,λq _=>q.length,⟨[],_,_,rfl,rfl,eE.fresh r1 rfl rfl,s1⟩,?_⟩;rintro q _ w2 ⟨l,cs,v,hl,hcs,hb,hm⟩;refine aA (λhx=>?_) (λhx=>?_)
 .have hx:q≠[]:=by simpa using hx
  refine(aaz hx).mono ?_;rintro _ w3 ⟨rfl,rfl⟩;have Jr:l.length<=p.length:=by
   have:(l++plain q).length=(plain p).length:=by rw[hl]
   simp at this;omega
  have hbD:=hb.still (Mod.refl (λ_=>False) w2).drew;have hmD:=hm.drew;refine .inl ⟨_,_,rfl,(ZB hbD (by rw[hcs];exact GV) (single q).1 hmD.size (by omega)).mono ?_⟩;rintro _ w4 ⟨rfl,v',hb4,m4⟩;refine .inl ⟨_,rfl,rfl,⟨l++[(single q).1],_,v',?_,?_,hb4,?_⟩,ZL hx⟩
  .rw[<-hl,aqT hx]
   simp
  .simp[hcs]
  .refine Mod.trans hmD m4 (λ_ h=>h) (λi hi h=>?_)
   rcases h with h|h
   .omega
   .have:=(hb.own.lt i h).1;omega
 .have hx:q=[]:=by simpa using hx
  subst hx;have hl:l=plain p:=by simpa[plain]using hl
  subst hl;refine(Ab hb (by omega)).mono ?_;rintro _ w4 ⟨rfl,m4⟩;refine .inl ⟨_,rfl,rfl,Mod.trans hm m4 (λ_ h=>h) (λi hi h=>?_)⟩;have:=(hb.own.lt i h).1;omega
end Go.Proofs.YtihaaoehhgmphaaGreatDoor.P
namespace Go.Proofs.YtihaaoehhgmphaaGreatDoor
open IntKind Go.RowKit Vc
set_option maxRecDepth 100000
variable{w wb w0:World}
def aft{B:Nat}{p:Option Addr}{n c:Nat}{l:List F.Sg}(h:aS w B Nj 2 (.slice p l.length c) l.length (F.Dj l)):F.AM w p l.length l:=⟨rfl,At.own h⟩
def qc:Pr (List F.Sg×List A.Vr)->List A.Vr->List F.Sg×List A.Vr×Nat
 |.ok p,_=>(p.1,p.2,0)
 |.bad k,V=>([],V,k)
def as7{V:List A.Vr}{st:Int}(he:Env w){vp:Option Addr}{vc:Nat}(hv:A.cK w vp V.length vc V){ps:List L.Pt}{p:Option Addr}{n c:Nat}{D:Nat->Prop}(hs:L.cD w D ps (.slice p n c))(hV:pR V)(hb:V.length+aHW ps<=50000)(hn:ps.length<=900){r:Pr (List F.Sg×List A.Vr)}(hr:aIc ps V=some r)(hlen:(qc r V).1.length<=1000)(hbig:F.eN (qc r V).1<=500000)(b:Bool):
  aq RE #[.slice p n c,.agg #[.slice vp V.length vc,.slice none 0 0,.int .i64 st],.slice none 0 0,.bool b] w (λe w'=>∃q D,e=.returned (.tuple #[.string (S (F.joined b (qc r V).1)),.agg #[.slice q (qc r V).2.1.length D,.slice none 0 0,.int .i64 st],.int .i64 ((qc r V).2.2:Int)])/\A.cK w' q (qc r V).2.1.length D (qc r V).2.1/\Still w w'):=by
 apply amZ;refine aQ λw1 r1 s1 z1=>aQ λw2 r2 s2 z2=>?_;have q1:=r1.still s2;have dP:=s1.trans s2;refine⟨_,_,_,_,_,_,_,q1.aj rfl,q1.aj rfl,q1.aj rfl,(Tw (he.still dP) (hv.still dP) (hs.still dP) hV hb hn hr).mono ?_⟩;intro e w3 h3;have:∃xb,e=.returned (.tuple #[.pointer (some ⟨xb,0,none⟩),.int .i64 ((qc r V).2.2:Int)])/\gb w2 w3 xb (qc r V).2.1 st (qc r V).1:=by
  cases r with
  |ok q=>obtain⟨xb,h1,h2,_⟩:=h3;exact⟨xb,h1,h2⟩
  |bad k=>obtain⟨xb,h1,h2⟩:=h3;exact⟨xb,h1,h2⟩
 clear h3;obtain⟨xb,rfl,h3⟩:=this;generalize(qc r V).1=gs at*;generalize(qc r V).2.1=V' at*;generalize(qc r V).2.2=k at*;have sD:Still w3 w3.drew:=(Still.refl _).cy;obtain⟨vX,vY,op,oc,hrow,tR,ho⟩:=(h3.on sD).row;refine .inl ⟨_,_,rfl,λwq=>Row wq xb vA ⟨[.slice vX V'.length vY,.slice none 0 0,.int .i64 st,.slice none 0 0,.slice op gs.length oc]⟩,hrow,_,_,_,λwq hq=>hq.aj rfl,_,_,_,_,_,_,_,λwq hq=>hq.aj rfl,λwq hq=>hq.aj rfl,λwq hq=>hq.aj rfl,?_⟩;refine(F.apX (aft (n:=0) ho) b hlen hbig).mono ?_;rintro _ w4 ⟨rfl,s4⟩;have Ou:Row w4 w1.heap.size 109 ⟨[.slice none 0 0,.slice none 0 0,.int .i64 0]⟩:=((r2.still h3.still).still sD).still s4;refine .inl ⟨_,rfl,hrow.still s4,aHb (g:=w1.heap.size) (o:=0) Ou λw5 r5 m5 z5=>?_⟩;have s25:Still w w5:=(((dP.trans h3.still).trans sD).trans s4).box (by omega) m5;refine⟨_,_,_,_,_,_,_,r5.aj rfl,r5.aj rfl,r5.aj rfl,_,_,rfl,?_,s25⟩;refine cK.aJH (tR.still s4) m5 λh0 a ha hk=>?_;obtain⟨a',cs,h1,h2⟩:=(tR.still s4).2.2.2 h0;rw[ha]at h1;obtain rfl:=bU h1;exact h2.ne Ou (by decide) hk
def agd(T:Tree)(t:ag)(r:List ag):Prop:=∀(w w0:World) (a g pb:Nat),fJ w0->Still w0 w->cU w w0.heap.size a g none 0 T->iM w pb a->aq R2 #[.pointer (some ⟨pb,0,none⟩),.string (S t)] w (λe w'=>∃p c,e=.returned (.slice p r.length c)/\de w' p r.length r/\Still w w')
def It(T:Tree):List ag->List ag->Prop
 |[],r=>r=[]
 |t::ts,r=>∃r1 r2,agd T t r1/\It T ts r2/\r=r1++r2
def arh{T:Tree}{t:ag}(h:P.aH3 t=false)(hl:t.length<1000000):agd T t [P.plain t]:=by intro w w0 a g pb he h0 hst hp;apply anN;refine(P.ape t).mono ?_;rintro _ w1 ⟨rfl,s1⟩;refine .inl ⟨_,rfl,aA (λhb=>by rw[h]at hb;cases hb) (λ_=>(P.arf t hl).mono ?_)⟩;rintro _ w2 ⟨rfl,s2⟩;refine .inl ⟨_,rfl,aQ λw3 r3 s3 z3=>⟨_,_,rfl,de.row r3,(s1.trans s2).trans s3⟩⟩
def aIq(V:List A.Vr):ag:=if(A.get [73,70,83] V).isSome then(A.getD [73,70,83] V).value else[32,9,10]
def au3{xb:Nat}{V:List A.Vr}{st:Int}{l:List F.Sg}(h:gb wb w xb V st l)(hV:pR V)(hn:V.length<1000000):aq Qb #[.pointer (some ⟨xb,0,none⟩)] w (λe w'=>e=.returned (.string (S (aIq V)))/\Still w w'):=by
 apply aky;obtain⟨vp,vc,op,oc,hr,hv,ho⟩:=h.row;refine⟨_,_,_,hr.aj rfl,(A.Tt hv hV.IL hn _).mono ?_⟩;rintro _ w1 ⟨rfl,s1⟩;refine .inl ⟨_,_,_,_,_,rfl,aQ λw2 r2 s2 z2=>aHb (g:=w1.heap.size) (o:=0) r2 λw3 r3 m3 z3=>?_⟩;have s3:Still w w3:=s1.trans (s2.box (aV _) m3);unfold aIq;refine aA (λhb=>⟨_,r3.aj rfl,?_,s3⟩) (λhb=>⟨?_,s3⟩)
 .rw[aL hb]
 .rw[aG (by rw[hb];decide)]
def apZ{V:List A.Vr}{st:Int}(b_:fJ w0)(h0:Still w0 w){a g pb:Nat}{T:Tree}(hst:cU w w0.heap.size a g none 0 T)(BE:iM w pb a){vp:Option Addr}{vc:Nat}(hv:A.cK w vp V.length vc V){ps:List L.Pt}{p:Option Addr}{n c:Nat}{D:Nat->Prop}(hs:L.cD w D ps (.slice p n c))(hV:pR V)(hb:V.length+aHW ps<=50000)(hn:ps.length<=900){gs:List F.Sg}{V':List A.Vr}(hr:aIc ps V=some (.ok (gs,V')))(hlen:gs.length<=1000)(hbig:F.eN gs<=500000)(azS:(aIq V').length<=1000000){out:List ag}(hg:It T (F.aH4 (aIq V') gs) out)(hol:out.length<=100000)(hfl:(F.aH4 (aIq V') gs).length<=100000):
  aq Gf #[.pointer (some ⟨pb,0,none⟩),.slice p n c,.agg #[.slice vp V.length vc,.slice none 0 0,.int .i64 st],.slice none 0 0] w (λe w'=>∃o oc q D,e=.returned (.tuple #[.slice o out.length oc,.agg #[.slice q V'.length D,.slice none 0 0,.int .i64 st],.int .i64 0])/\aS w' w.heap.size cm 1 (.slice o out.length oc) out.length (strs out)/\A.cK w' q V'.length D V'/\pR V'/\V'.length<=V.length+aHW ps/\Still w w'):=by
 apply YM;refine aQ λw1 r1 s1 z1=>aQ λw2 r2 s2 z2=>?_;have q1:=r1.still s2;have dP:=s1.trans s2;refine⟨_,_,_,_,_,_,_,q1.aj rfl,q1.aj rfl,q1.aj rfl,(Tw ((b_.still h0).env.still dP) (hv.still dP) (hs.still dP) hV hb hn hr).mono ?_⟩;rintro e w3 ⟨xb,rfl,h3,hV',hl'⟩;have sD:Still w3 w3.drew:=(Still.refl _).cy;have ng:=h3.on sD;obtain⟨vX,vY,op,oq,hrow,tR,ho⟩:=ng.row;refine .inl ⟨_,_,rfl,aA (λhb=>by simp at hb) (λ_=>?_)⟩;refine⟨λwq=>Row wq xb vA ⟨[.slice vX V'.length vY,.slice none 0 0,.int .i64 st,.slice none 0 0,.slice op gs.length oq]⟩,hrow,_,_,_,λwq hq=>hq.aj rfl,(au3 ng hV' (by omega)).mono ?_⟩;rintro _ w4 ⟨rfl,s4⟩;refine .inl ⟨_,rfl,hrow.still s4,(F.apW (aft (n:=0) (ho.still s4)) _ hlen hbig azS).mono ?_⟩;rintro _ w5 ⟨fq,fD,rfl,hf,s5⟩;have Fp:=(sD.trans s4).trans s5;have aIf:Still w w5:=(dP.trans h3.still).trans Fp;generalize hfs:F.aH4 (aIq V') gs=fs at*;refine .inl ⟨_,_,_,rfl,λo on oc x w6=>∃(i:Nat) (l1 l2:List ag),x=(i:Int)/\i<=fs.length/\on=l1.length/\aS w6 w.heap.size cm 1 (.slice o on oc) on (strs l1)/\It T (fs.drop i) l2/\out=l1++l2/\Still w5 w6,λ_ _ _ x _=>(fs.length-x).toNat,⟨0,[],out,rfl,dK _,rfl,aS.nil _ _ _ _,hg,rfl,Still.refl _⟩,?_⟩;rintro o _ oc x _ w6 ⟨i,l1,l2,rfl,hi,rfl,aJJ,Fq,OP,s6⟩;have sM:=aIf.trans s6;refine aA (λhx=>?_) (λhx=>?_)
 .have hx:i<fs.length:=by have:=aR hx;omega
  rw[qB hx]at Fq;obtain⟨ra,rb,ha,aJT,rfl⟩:=Fq;obtain⟨af,rfl,hcell⟩:=(hf.still s6).get hx;have axJ:w6.cell? (af.add (Int.toNat (i:Int)*1))=some (.string (S fs[i])):=by rw[b6,aHp];exact hcell
  refine⟨by omega,by omega,_,axJ,(ha w6 w0 a g pb b_ (h0.trans sM) (hst.still sM) (BE.still sM)).mono ?_⟩;rintro _ w7 ⟨gp,gc,rfl,hra,s7⟩;refine .inl ⟨_,_,_,rfl,aQ λw8 r8 s8 z8=>?_⟩;have hlo:l1.length+ra.length<=100000:=by rw[OP]at hol;simp only[cB]at hol;omega
  refine(apc r8 (de.of ((aJJ.still s7).still s8)) (hra.still s8) (by omega)).mono ?_;rintro _ w9 ⟨np,nc,rfl,mz,s9⟩;have Jt:=(s7.trans s8).trans s9;have hz:=((sM.trans s7).trans s8).size;refine .inl ⟨_,_,_,rfl,?_⟩;rw[wrap_i64 (by omega) (by omega)];refine⟨⟨i+1,l1++ra,rb,by omega,by omega,rfl,mz.base λk hk=>by have:=(mz.lt k hk).1;omega,aJT,by rw[OP,aIi],s6.trans Jt⟩,by dsimp only;omega⟩
 .have hx:i=fs.length:=by have:=aX hx;omega
  subst hx;rw[ye]at Fq;have Fq:l2=[]:=Fq;subst Fq;rw[ug]at OP;subst OP;have sE:Still w6 w6.drew:=(Still.refl _).cy;have aJK:=(Fp.trans s6).trans sE;have h6:=h3.on aJK;have je:=((s4.trans s5).trans s6).trans sE;have ayu:=hrow.still je;refine⟨λwq=>Row wq xb vA ⟨[.slice vX V'.length vY,.slice none 0 0,.int .i64 st,.slice none 0 0,.slice op gs.length oq]⟩,ayu,_,_,_,_,_,_,_,λwq hq=>hq.aj rfl,λwq hq=>hq.aj rfl,λwq hq=>hq.aj rfl,?_⟩;have Bt:Row w6.drew w1.heap.size 109 ⟨[.slice none 0 0,.slice none 0 0,.int .i64 0]⟩:=(r2.still h3.still).still aJK;refine aHb (g:=w1.heap.size) (o:=0) Bt λw7 r7 m7 z7=>?_;have ag_:=aJJ.still sE;refine⟨_,_,_,_,_,_,_,r7.aj rfl,r7.aj rfl,r7.aj rfl,_,_,_,_,rfl,ag_.mod m7 λk hk e=>ag_.aHg Bt (by decide) (by rw[hk,e]),?_,hV',hl',(sM.trans sE).box (by omega) m7⟩;refine cK.aJH (tR.still je) m7 λh0 a ha hk=>?_;obtain⟨a',cs,h1,h2⟩:=(tR.still je).2.2.2 h0;rw[ha]at h1;obtain rfl:=bU h1;exact h2.ne Bt (by decide) hk
end Go.Proofs.YtihaaoehhgmphaaGreatDoor
namespace Go.Proofs.YtihaaoehhgmphaaGreatDoor
open IntKind Go.RowKit Vc
set_option maxRecDepth 100000
variable{w w0:World}{K:Kx}{s:Sh}
def HC(what:ag)(k:Nat):ag:=what++[58,32,101,114,114,111,114,32]++Lib.itoa k++[10]
def aKY(what:ag)(k:Nat)(hk:k<=255):(HC what k).length<=what.length+30:=by
 have h:(Lib.itoa (k:Int)).length<=20:=by unfold Lib.itoa;rw[aG (by omega)];have:=Hz (n:=k) hk;simpa using this
 simp only[HC,cB,bf,aHf];omega
def as8(b_:fJ w0)(h0:Still w0 w)(h:bB w w0 K s)(what:ag)(k:Nat)(hk:k<=255)(hw:what.length<=1000)(he:s.err.length<=900000):
  aq DJ #[.pointer (some ⟨K.hb,0,none⟩),.string (S what),.int .i64 (k:Int)] w (λe w'=>e=.returned (.tuple #[])/\bB w' w0 K {s with err:=s.err++HC what k,st:=1}/\cz (Ft K w) w (Ft K w') w'):=by
 apply ak9;have sD:Still w w.drew:=(Still.refl _).cy;have hD:=h.still sD;obtain⟨vp,vc,hh,hv⟩:=hD.fX;have hil:(Lib.itoa (k:Int)).length<=20:=by unfold Lib.itoa;rw[aG (by omega)];have:=Hz (n:=k) hk;simpa using this
 refine⟨λwq=>Row wq K.hb fQ ⟨gR K vp vc s⟩,hh,_,λwq hq=>hq.aj rfl,by simp;omega,(GS ((b_.still h0).env.still sD) (k:Int) (by omega) (by omega)).mono ?_⟩;rintro _ w1 ⟨rfl,s1⟩;have h1:=hD.still s1;have el:=aKY what k hk;have g1:=(h.gone (sD.trans s1));have hz:=(h0.trans (sD.trans s1)).size;refine .inl ⟨_,rfl,hh.still s1,by simp;omega,by simp;omega,(h1.adw hz (HC what k) (by omega)).mono ?_⟩;rintro _ w2 ⟨rfl,h2,g2⟩;refine .inl ⟨_,_,rfl,rfl,h2.Is 1 λw3 h3 g3 m3=>⟨rfl,h3,(g1.trans g2).trans g3⟩⟩
def Vd(s:Sh)(k:Nat):Sh:={s with err:=s.err++HC [115,104] k,st:=1,way:=4}
def Tx(w:World)(K:Kx):aq BW #[.pointer (some ⟨K.hb,0,none⟩),.int .i64 0] w (λe w'=>e=.returned (.bool true)/\w'=w):=by apply Yk;exact aA (λh=>by simp at h) (λ_=>⟨rfl,rfl⟩)
def as9(b_:fJ w0)(h0:Still w0 w)(h:bB w w0 K s)(k:Nat)(hk0:k≠0)(hk:k<=255)(he:s.err.length<=900000):
  aq BW #[.pointer (some ⟨K.hb,0,none⟩),.int .i64 (k:Int)] w (λe w'=>e=.returned (.bool false)/\bB w' w0 K (Vd s k)/\cz (Ft K w) w (Ft K w') w'):=by
 apply Yk;refine aA (λ_=>(as8 b_ h0 h [115,104] k hk (by decide) he).mono ?_) (λh=>by simp at h;omega);rintro _ w1 ⟨rfl,h1,g1⟩;refine .inl ⟨rfl,h1.axD 4 λw2 h2 g2 m2=>⟨?_,h2,g1.trans g2⟩⟩;rw[eX (show¬(k:Int)=0 by omega)]
def ari{ps:List L.Pt}{p:Option Addr}{n c:Nat}{D:Nat->Prop}(hs:L.cD w D ps (.slice p n c))(hn:∀x∈ps,x.k≠2)(hl:ps.length<=100000):
  aq QZ #[.slice p n c] w (λe w'=>e=.returned (.slice none 0 0)/\Still w w'):=by
 obtain⟨rfl,hc⟩:=hs.len;apply alP;refine⟨λo on oc x w1=>o=none/\on=0/\oc=0/\(∃i:Nat,x=(i:Int)/\i<=ps.length)/\Still w w1,λ_ _ _ x _=>(ps.length-x).toNat,⟨rfl,rfl,rfl,⟨0,rfl,dK _⟩,Still.refl _⟩,?_⟩;rintro _ _ _ x _ w1 ⟨rfl,rfl,rfl,⟨i,rfl,hi⟩,s1⟩;refine aA (λhx=>?_) (λhx=>⟨rfl,s1⟩);have hx:i<ps.length:=by have:=aR hx;omega
 obtain⟨b,v,rfl,hD,hcell,hsv⟩:=(hs.still s1).get (gW hx);obtain⟨wp,wc,rfl⟩:=hsv.form;have cl:∀(j:Nat) (u:Value),(L.gX ps[i] (.slice wp ps[i].w.length wc))[j]?=some u->w1.cell? ((b.add (Int.toNat (i:Int)*6)).add j)=some u:=λj u hu=>by rw[b6];exact hcell j u hu
 have c0:w1.cell? (b.add (Int.toNat (i:Int)*6))=some (.int .i64 ps[i].k):=cl 0 _ rfl;refine⟨by omega,by omega,_,_,_,_,_,_,_,_,c0,cl 1 _ rfl,cl 2 _ rfl,cl 3 _ rfl,cl 4 _ rfl,cl 5 _ rfl,?_⟩;refine aQ λw2 r2 s2 z2=>aHb (g:=w1.heap.size) (o:=0) r2 λw3 r3 m3 z3=>?_;refine⟨_,r3.aj rfl,aA (λh=>absurd (aR h) (hn _ (kI hx))) (λ_=>?_)⟩;rw[wrap_i64 (by omega) (by omega)];exact⟨⟨rfl,rfl,rfl,⟨i+1,by omega,by omega⟩,s1.trans (s2.box (aV _) m3)⟩,by dsimp only;omega⟩
def ZO(w:World)(K:Kx){ps:List L.Pt}{p:Option Addr}{n c:Nat}{D:Nat->Prop}(hs:L.cD w D ps (.slice p n c))(hn:∀x∈ps,x.k≠2)(hl:ps.length<=100000):
  aq Kc #[.pointer (some ⟨K.hb,0,none⟩),.slice p n c] w (λe w'=>e=.returned (.tuple #[.slice none 0 0,.bool true])/\Still w w'):=by
 apply akb;refine(ari hs hn hl).mono ?_;rintro _ w1 ⟨rfl,s1⟩;refine .inl ⟨_,_,_,rfl,λo on oc x w2=>o=none/\on=0/\oc=0/\x=0/\w2=w1,λ_ _ _ _ _=>0,⟨rfl,rfl,rfl,rfl,rfl⟩,?_⟩;rintro _ _ _ _ _ w2 ⟨rfl,rfl,rfl,rfl,rfl⟩;exact aA (λh=>by simp at h) (λ_=>⟨rfl,s1⟩)
structure Be(V:List A.Vr)(ps:List L.Pt)(r:Pr (List F.Sg×List A.Vr)):Prop where
 W_:pR V
 eN:V.length+aHW ps<=50000
 len:ps.length<=900
 cmd:∀x∈ps,x.k≠2
 run:aIc ps V=some r
 aha:(qc r V).1.length<=1000
 ahb:F.eN (qc r V).1<=500000
def aez(b_:fJ w0)(h0:Still w0 w)(h:bB w w0 K s){ps:List L.Pt}{p:Option Addr}{n c:Nat}{D:Nat->Prop}(hs:L.cD w D ps (.slice p n c))(hD:Kept D (Ft K w) w){gs:List F.Sg}{V':List A.Vr}(ok:Be s.V ps (.ok (gs,V')))(b:Bool)(hl:(F.joined b gs).length<=10000):
  aq F5 #[.pointer (some ⟨K.hb,0,none⟩),.slice p n c,.bool b] w (λe w'=>e=.returned (.tuple #[.string (S (F.joined b gs)),.bool true])/\bB w' w0 K {s with V:=V'}/\cz (Ft K w) w (Ft K w') w'):=by
 apply alg;refine(ZO w K hs ok.cmd (by have:=ok.len;omega)).mono ?_;rintro _ w1 ⟨rfl,s1⟩;have h1:=h.still s1;obtain⟨vp,vc,hh,hv⟩:=h1.fX;refine .inl ⟨_,_,_,_,rfl,aA (λh=>by cases h) (λ_=>?_)⟩;refine⟨_,_,_,_,_,_,_,hh.aj rfl,hh.aj rfl,hh.aj rfl,(as7 ((b_.still h0).env.still s1) hv (hs.still s1) ok.W_ ok.eN ok.len ok.run ok.aha ok.ahb b).mono ?_⟩;rintro _ w2 ⟨q,qD,rfl,Bj,s2⟩;refine .inl ⟨_,_,_,_,_,_,_,_,_,rfl,aQ λw3 r3 s3 z3=>aHb (g:=w2.heap.size) (o:=0) r3 λw4 r4 m4 z4=>?_⟩;have jd:Still w2 w4:=s3.box (aV _) m4;have lp:=(s1.trans s2).trans jd;refine⟨λx wq=>x=0/\wq=w4,⟨λx wq=>x=false/\wq=w4,aA (λ_=>⟨eX (by show¬(10000:Int)<((F.joined b gs).length:Int);omega),rfl⟩) (λ_=>⟨rfl,rfl⟩),?_⟩,?_⟩
 .rintro _ _ w5 ⟨rfl,rfl⟩
  exact aA (λh=>by cases h) (λ_=>⟨rfl,rfl⟩)
 rintro _ _ w5 ⟨rfl,rfl⟩;refine(Tx w5 K).mono ?_;rintro _ w5 ⟨rfl,rfl⟩;refine .inl ⟨_,rfl,aA (λh=>by cases h) (λ_=>?_)⟩;refine⟨_,_,_,_,_,_,_,r4.aj rfl,r4.aj rfl,r4.aj rfl,?_⟩;refine(h.still lp).setState (Bj.still jd) s.st λw6 h6 g6 m6=>⟨rfl,h6,(h.gone lp).trans g6⟩
def yT(T:Tree)(V:List A.Vr)(ps:List L.Pt)(out:List ag)(V':List A.Vr)(k:Nat):Prop:=
 (k=0/\∃gs,Be V ps (.ok (gs,V'))/\(aIq V').length<=1000000/\It T (F.aH4 (aIq V') gs) out/\out.length<=1000/\(F.aH4 (aIq V') gs).length<=1000)\/
 (k≠0/\k<=255/\Be V ps (.bad k)/\out=[]/\V'=V)
def yT.wd{T:Tree}{V V':List A.Vr}{ps:List L.Pt}{out:List ag}{k:Nat}(h:yT T V ps out V' k):ps.length<=900/\(∀x∈ps,x.k≠2)/\k<=255:=by
 rcases h with⟨rfl,gs,h,_⟩|⟨_,hk,h,_⟩
 .exact⟨h.len,h.cmd,by decide⟩
 .exact⟨h.len,h.cmd,hk⟩
def abj{V:List A.Vr}{st:Int}(b_:fJ w0)(h0:Still w0 w){a g pb:Nat}{T:Tree}(hst:cU w w0.heap.size a g none 0 T)(BE:iM w pb a){vp:Option Addr}{vc:Nat}(hv:A.cK w vp V.length vc V){ps:List L.Pt}{p:Option Addr}{n c:Nat}{D:Nat->Prop}(hs:L.cD w D ps (.slice p n c)){out:List ag}{V':List A.Vr}{k:Nat}(hf:yT T V ps out V' k):
  aq Gf #[.pointer (some ⟨pb,0,none⟩),.slice p n c,.agg #[.slice vp V.length vc,.slice none 0 0,.int .i64 st],.slice none 0 0] w (λe w'=>∃o oc q D,e=.returned (.tuple #[.slice o out.length oc,.agg #[.slice q V'.length D,.slice none 0 0,.int .i64 st],.int .i64 (k:Int)])/\aS w' w.heap.size cm 1 (.slice o out.length oc) out.length (strs out)/\A.cK w' q V'.length D V'/\Still w w'):=by
 rcases hf with⟨rfl,gs,ok,h1,h2,h3,h4⟩|⟨hk0,hk,ok,rfl,rfl⟩
 .refine(apZ (st:=st) b_ h0 hst BE hv hs ok.W_ ok.eN ok.len ok.run ok.aha ok.ahb h1 h2 (by omega) (by omega)).mono ?_
  rintro _ w' ⟨o,oc,q,D,rfl,a1,a2,a3,a4,a5⟩;exact⟨o,oc,q,D,rfl,a1,a2,a5⟩
 .apply YM
  refine aQ λw1 r1 s1 z1=>aQ λw2 r2 s2 z2=>?_;have q1:=r1.still s2;have dP:=s1.trans s2;refine⟨_,_,_,_,_,_,_,q1.aj rfl,q1.aj rfl,q1.aj rfl,(Tw ((b_.still h0).env.still dP) (hv.still dP) (hs.still dP) ok.W_ ok.eN ok.len ok.run).mono ?_⟩;rintro e w3 ⟨xb,rfl,h3⟩;have sD:Still w3 w3.drew:=(Still.refl _).cy;have aJU:=h3.still.trans sD;refine .inl ⟨_,_,rfl,aA (λ_=>?_) (λhb=>by simp at hb;omega)⟩;refine⟨λwq=>Row wq w.heap.size 109 ⟨[.slice vp V'.length vc,.slice none 0 0,.int .i64 st]⟩,q1.still aJU,_,_,_,_,_,_,_,λwq hq=>hq.aj rfl,λwq hq=>hq.aj rfl,λwq hq=>hq.aj rfl,?_⟩;have Bt:=r2.still aJU;refine aHb (g:=w1.heap.size) (o:=0) Bt λw7 r7 m7 z7=>?_;refine⟨_,_,_,_,_,_,_,r7.aj rfl,r7.aj rfl,r7.aj rfl,none,0,vp,vc,rfl,aS.nil _ _ _ _,?_,(dP.trans aJU).box (by omega) m7⟩;have hv7:=hv.still (dP.trans aJU);refine cK.aJH hv7 m7 λh0 a ha hk=>?_;obtain⟨a',cs,h1,h2⟩:=hv7.2.2.2 h0;rw[ha]at h1;obtain rfl:=bU h1;exact h2.ne Bt (by decide) hk
def vB(T:Tree):List (List L.Pt)->List A.Vr->List ag->List A.Vr->Nat->Prop
 |[],V,out,V',k=>out=[]/\V'=V/\k=0
 |ps::r,V,out,V',k=>∃V1 o1 k1,yT T V ps o1 V1 k1/\(k1≠0/\out=o1/\V'=V1/\k=k1\/k1=0/\∃o2,vB T r V1 o2 V' k/\out=o1++o2)
def dG(l:List ag):Nat:=(l.map λx=>x.length+1).sum
def Ag(l m:List ag):dG (l++m)=dG l+dG m:=by simp[dG]
def Mq(l:List ag):l.length<=dG l:=by
 induction l with
 |nil=>simp[dG]
 |cons a r ih=>simp only[dG,gI,aIO,bf]at ih⊢;omega
def Z1(b_:fJ w0)(h0:Still w0 w)(h:bB w w0 K s){ws:List (List L.Pt)}{p:Option Addr}{n c:Nat}{D:Nat->Prop}(hs:L.aJx.At w D ws (.slice p n c))(hD:Kept D (Ft K w) w){out:List ag}{V':List A.Vr}{k:Nat}(hf:vB s.T ws s.V out V' k)(hsz:dG out<=10000)(aJL:ws.length<=10000)(he:s.err.length<=900000):
  aq P_ #[.pointer (some ⟨K.hb,0,none⟩),.slice p n c] w (λe w'=>(if k=0 then(∃o oc,e=.returned (.tuple #[.slice o out.length oc,.bool true])/\aS w' w.heap.size cm 1 (.slice o out.length oc) out.length (strs out)/\bB w' w0 K {s with V:=V'})else(e=.returned (.tuple #[.slice none 0 0,.bool false])/\bB w' w0 K (Vd {s with V:=V'} k)))/\cz (Ft K w) w (Ft K w') w'):=by
 obtain⟨rfl,hc⟩:=hs.len;apply akt;refine⟨λo on oc size x w1=>∃(i:Nat) (l1 l2:List ag) (Vi:List A.Vr),x=(i:Int)/\i<=ws.length/\on=l1.length/\aS w1 w.heap.size cm 1 (.slice o on oc) on (strs l1)/\out=l1++l2/\size=(dG l1:Int)/\bB w1 w0 K {s with V:=Vi}/\cz (Ft K w) w (Ft K w1) w1/\vB s.T (ws.drop i) Vi l2 V' k,λ_ _ _ _ x _=>(ws.length-x).toNat,⟨0,[],out,s.V,rfl,dK _,rfl,aS.nil _ _ _ _,rfl,rfl,h,cz.refl _,hf⟩,?_⟩;rintro o _ oc _ x _ w1 ⟨i,l1,l2,Vi,rfl,hi,rfl,aHL,rfl,rfl,h1,g1,hfi⟩;have rB:Still w0 w1:=Mod.trans h0 g1.mod (λ_ h=>h) λj hj hk=>by have:=(h.lt hk).1;omega
 refine aA (λhx=>?_) (λhx=>?_)
 .have hx:i<ws.length:=by have:=aR hx;omega
  rw[qB hx]at hfi;obtain⟨V1,o1,k1,hw1,yU⟩:=hfi;have hs1:=hs.mod g1.mod λj hj hk=>(hD j hj).2 hk;obtain⟨b,cs,rfl,OQ,⟨v,rfl,fM⟩,hcell⟩:=hs1.get (gW hx);obtain⟨wp,wc,rfl⟩:=fM.form;have c0:w1.cell? (b.add (Int.toNat (i:Int)*1))=some (.slice wp ws[i].length wc):=by rw[b6];exact hcell 0 _ rfl
  obtain⟨wl,wcm,wk⟩:=hw1.wd;have hlo:dG l1+dG o1<=10000:=by
   rcases yU with⟨_,rfl,_⟩|⟨_,o2,_,rfl⟩
   .rw[Ag]at hsz;exact hsz
   .rw[Ag,Ag]at hsz;omega
  have hol:=Mq o1;have Jr:=Mq l1;refine⟨λo' on' oc' size' aHe=>k1=0/\on'=(l1++o1).length/\aS aHe w.heap.size cm 1 (.slice o' on' oc') on' (strs (l1++o1))/\size'=(dG (l1++o1):Int)/\bB aHe w0 K {s with V:=V1}/\cz (Ft K w) w (Ft K aHe) aHe,⟨by omega,by omega,_,_,_,c0,(ZO w1 K fM wcm (by omega)).mono ?_⟩,?_⟩
  .rintro _ w2 ⟨rfl,s2⟩
   refine .inl ⟨_,_,_,_,rfl,aA (λh=>by cases h) (λ_=>?_)⟩;have sD:Still w2 w2.drew:=(Still.refl _).cy;have fZ:=s2.trans sD;have h2:=h1.still fZ;obtain⟨vp,vc,hh,hv⟩:=h2.fX;have vU:=rB.trans fZ;refine⟨λf fn fc st ex w9=>∃fb,st=some ⟨fb,0,none⟩/\fn=o1.length/\ex=(k1:Int)/\aS w9 w2.heap.size cm 1 (.slice f fn fc) fn (strs o1)/\Still w2 w9/\∃q qD,Row w9 fb 109 ⟨[.slice q V1.length qD,.slice none 0 0,.int .i64 s.st]⟩/\A.cK w9 q V1.length qD V1,⟨λwq=>Row wq K.hb fQ ⟨gR K vp vc {s with V:=Vi}⟩,hh,_,λwq hq=>hq.aj rfl,_,_,_,_,_,_,_,λwq hq=>hq.aj rfl,λwq hq=>hq.aj rfl,λwq hq=>hq.aj rfl,?_,?_⟩,?_⟩
   .refine(abj (st:=s.st) b_ vU h2.aHh h2.iD hv (fM.still fZ) hw1).mono ?_
    rintro _ w3 ⟨f,fc,q,qD,rfl,v_,OR,s3⟩;refine .inl ⟨_,_,_,_,_,_,_,_,_,_,_,rfl,aQ λw4 r4 s4 z4=>⟨(hh.still s3).still s4,aHb (g:=w3.heap.size) (o:=0) r4 λw5 r5 m5 z5=>?_⟩⟩;have Fp:Still w3 w5:=s4.box (aV _) m5;exact⟨w3.heap.size,rfl,rfl,rfl,v_.still Fp,(sD.trans s3).trans Fp,q,qD,r5,OR.still Fp⟩
   .refine aQ λw6 r6 s6 z6=>⟨hh.still s6,(abj (st:=s.st) b_ (vU.trans s6) (h2.aHh.still s6) (h2.iD.still s6) (hv.still s6) ((fM.still fZ).still s6) hw1).mono ?_⟩
    rintro _ w7 ⟨f,fc,q,qD,rfl,v_,OR,s7⟩;have Jk:=r6.still s7;have hz:=s6.size;refine .inl ⟨_,_,_,_,_,_,_,_,_,_,_,rfl,aHb (g:=w2.drew.heap.size) (o:=0) Jk λw8 r8 m8 z8=>?_⟩;refine⟨w2.heap.size,rfl,rfl,rfl,(v_.base λj hj=>by have:=(v_.lt j hj).1;have e:w2.drew.heap.size=w2.heap.size:=rfl;omega).mod m8 λj hj e=>v_.aHg Jk (by decide) (by rw[hj,e]),((sD.trans s6).trans s7).box (aV _) m8,q,qD,r8,?_⟩;refine cK.aJH OR m8 λh0 a ha hk=>?_;obtain⟨a',cs,h1,h2⟩:=OR.2.2.2 h0;rw[ha]at h1;obtain rfl:=bU h1;exact h2.ne Jk (by decide) hk
   .rintro f _ fc _ _ _ w9 ⟨fb,rfl,rfl,rfl,v_,s9,q,qD,Xa,JI⟩
    have aHI:=s2.trans s9;have h9:=h1.still aHI;have g9:=g1.trans (h1.gone aHI);have Xb:=rB.trans aHI;refine⟨λCG x1 aO=>∃j:Nat,x1=(j:Int)/\j<=o1.length/\CG=(dG l1+dG (o1.take j):Nat)/\aO=w9,λ_ x1 _=>(o1.length-x1).toNat,⟨0,rfl,dK _,by simp[dG],rfl⟩,?_⟩;rintro _ _ _ aO ⟨j,rfl,hj,rfl,rfl⟩;have htk:dG (o1.take j)<=dG o1:=by
     conv=>rhs;rw[<-pV j o1,Ag]
     omega
    refine aA (λhx1=>?_) (λhx1=>?_)
    .have hx1:j<o1.length:=by have:=aR hx1;omega
     obtain⟨gf,rfl,W8⟩:=v_.xO hx1;have hts:dG (o1.take (j+1))=dG (o1.take j)+(o1[j].length+1):=by rw[FO hx1,Ag];simp[dG]
     have aF1:dG (o1.take (j+1))<=dG o1:=by
      conv=>rhs;rw[<-pV (j+1) o1,Ag]
      omega
     refine⟨by omega,by omega,_,W8,?_⟩;have e1:i64.wrap ((o1[j].length:Int)+1)=(o1[j].length:Int)+1:=wrap_i64 (by omega) (by omega)
     try dsimp only[zR]
     rw[e1,wrap_i64 (by omega) (by omega),wrap_i64 (by omega) (by omega)];exact⟨⟨j+1,by omega,by omega,by omega,rfl⟩,by(try dsimp only);omega⟩
    have hx1:j=o1.length:=by have:=aX hx1;omega
    subst hx1;rw[oD]at htk⊢;refine⟨λex wq=>ex=(k1:Int)/\wq=aO,⟨λb wq=>b=false/\wq=aO,aA (λ_=>⟨eX (by omega),rfl⟩) (λ_=>⟨rfl,rfl⟩),?_⟩,?_⟩
    .rintro _ _ bh ⟨rfl,rfl⟩
     exact aA (λh=>by cases h) (λ_=>⟨rfl,rfl⟩)
    rintro _ _ bE ⟨rfl,rfl⟩
    by_cases hk1:k1=0
    .subst hk1
     refine(Tx bE K).mono ?_;rintro _ bw ⟨rfl,rfl⟩;refine .inl ⟨_,rfl,aA (λh=>by cases h) (λ_=>?_)⟩;refine⟨_,_,_,_,_,_,_,Xa.aj rfl,Xa.aj rfl,Xa.aj rfl,?_⟩;refine h9.setState JI s.st λbO mw g14 m14=>?_;have VS:=g9.trans g14;have azT:w.heap.size<=bO.heap.size:=VS.mod.size;have IU:aS bO w.heap.size cm 1 (.slice o l1.length oc) l1.length (strs l1):=(aHL.still aHI).mod g14.mod λj hj hk=>by obtain⟨cur,hr⟩:=(aHL.still aHI).typed hj;exact h9.apart hr (by decide) (by decide) (by decide) (by decide) (by decide) hk
     have ayv:aS bO w2.heap.size cm 1 (.slice f o1.length fc) o1.length (strs o1):=v_.mod g14.mod λj hj hk=>by obtain⟨cur,hr⟩:=v_.typed hj;exact h9.apart hr (by decide) (by decide) (by decide) (by decide) (by decide) hk
     refine rM IU azT (strs o1) (by simp[strs]) (λu hu=>by obtain⟨x,_,rfl⟩:=dY.1 hu;rfl) (λhp=>(de.of ayv).2 hp) (by omega) (by omega) λp' c' b8 OS m15 bk=>?_;refine⟨rfl,by simp,by rw[Ls];exact OS,by rw[Ag],?_,?_⟩
     .refine⟨mw.tovW.mod m15 λj hj _=>?_,mw.aHh.mod m15 λj hj hk=>?_⟩
      .obtain⟨cur,hr⟩:=IU.typed hj
       have hfree:=mw.apart hr (by decide) (by decide) (by decide) (by decide) (by decide);refine⟨λe=>hfree (.inl e),λe=>hfree (.inr (.inr (.inr (.inl e)))),hr.ne mw.iD (by decide),pz mw.fns hr,λt cs hr'=>?_⟩;have e:t=cm:=FT λhne=>hr'.ne hr hne rfl;subst e;exact⟨by decide,by decide,by decide⟩
      .obtain⟨cur,hr⟩:=IU.typed hk
       have hfree:=mw.apart hr (by decide) (by decide) (by decide) (by decide) (by decide);rcases hj with rfl|rfl|⟨t,ht,_⟩
       .exact hfree (.inr (.inl rfl))
       .exact hfree (.inr (.inr (.inl rfl)))
       .cases ht
     .refine⟨Mod.trans VS.mod m15 (λ_ h=>h) λj hj hk=>by have:=(IU.lt j hk).1;omega,λj hj=>?_⟩
      have NY:¬(Value.slice o l1.length oc).ownBlock=some K.sb:=λe=>by obtain⟨cur,hr⟩:=IU.typed e;exact mw.apart hr (by decide) (by decide) (by decide) (by decide) (by decide) (.inr (.inr (.inr (.inl rfl))))
      have:Ft K bO j:=by
       rcases hj with e|e
       .exact .inl e
       .exact .inr ((Fc.same λo=>mw.HB m15 NY o).1 e)
      exact VS.new j this
    .refine(as9 b_ Xb h9 k1 hk1 wk he).mono ?_
     rintro _ bw ⟨rfl,xV,g13⟩;refine .inl ⟨_,rfl,aA (λ_=>?_) (λh=>by cases h)⟩;rcases yU with⟨_,rfl,rfl,rfl⟩|⟨e,_⟩
     .rcases hw1 with⟨e,_⟩|⟨_,_,_,_,rfl⟩
      .exact absurd e hk1
      .refine⟨?_,g9.trans g13⟩
       rw[aG hk1];exact⟨rfl,xV⟩
     .exact absurd e hk1
  .rintro o' _ oc' _ _ aHe ⟨hk1,rfl,IV,rfl,aHH,g16⟩
   rw[wrap_i64 (by omega) (by omega)];rcases yU with⟨e,_⟩|⟨_,o2,hf2,rfl⟩
   .exact absurd hk1 e
   .exact⟨⟨i+1,l1++o1,o2,V1,by omega,by omega,rfl,IV,by rw[aIi],rfl,aHH,g16,hf2⟩,by dsimp only;omega⟩
 .have hx:i=ws.length:=by have:=aX hx;omega
  subst hx;rw[ye]at hfi;obtain⟨rfl,rfl,rfl⟩:=hfi;refine⟨?_,g1⟩;rw[aL rfl,ug];exact⟨o,oc,rfl,aHL,h1⟩
abbrev aJb:TypeId:=244
abbrev xe:TypeId:=101
structure sA where
 bu:ag
 dst:ag
 fr:Bool
 is:Bool
def q_(x:sA):List Value:=[.string (S x.bu),.string (S x.dst),.bool x.fr,.bool x.is]
def xz:List (ag×List L.Pt)->Sh->sA->Sh->sA->Prop
 |[],s,x,s',x'=>s'=s/\x'=x
 |r::l,s,x,s',x'=>∃gs nm,Be s.V r.2 (.ok (gs,s.V))/\sx (F.joined false gs) nm/\0<s.cO/\
  ((r.1=[60]/\∃d,jl s.T (mP nm)=⟨1,6,d⟩/\xz l {s with cO:=s.cO-1} {x with fr:=true,bu:=d} s' x')\/
   (r.1=[62]/\nm≠[46]/\Lib.lastIndexByte (S (47::nm)) 47=0/\xz l {s with T:=lz s.T nm [] false,cO:=s.cO-1} {x with dst:=F.joined false gs,is:=true} s' x'))
def aoj:dD aM Ko=true:=by kernel_rfl
def as_(h:bB w w0 K s)(h0:w0.heap.size<=w.heap.size){b:Nat}(hb:w0.heap.size<=b){t:TypeId}{cs:Array Value}(hr:Row w b t cs)(h1:t≠fQ)(h2:t≠kP)(h3:t≠pq)(h4:t≠5)(h5:t≠jW)(h6:t≠VD)(h7:t≠32):Aside w w0 K λk=>k=b:=by
 have hf:=h.apart hr h1 h2 h3 h4 h5;refine⟨λk hk=>by rw[hk];exact⟨hb,hr.lt⟩,λk hk=>?_,λk hk t' cs' hr'=>?_⟩
 .subst hk
  exact⟨λe=>hf (.inl e),λe=>hf (.inr (.inr (.inr (.inl e)))),hr.ne h.iD h6,pz h.fns hr,λe=>hf (.inr (.inl e)),λe=>hf (.inr (.inr (.inl e)))⟩
 .subst hk
  have e:t'=t:=FT λhne=>hr'.ne hr hne rfl;subst e;exact⟨h3,h4,h7⟩
def ata(b_:fJ w0)(h0:Still w0 w)(h:bB w w0 K s)(hb:0<s.cO){rb pb xb hb':Nat}{op path nm:ag}{wv:Value}{x:sA}(hr:Row w rb 138 ⟨[.string (S op),wv]⟩)(hp:Row w pb cm ⟨[.string (S path)]⟩)(hx:Row w xb aJb ⟨q_ x⟩)(hxb:w0.heap.size<=xb)(hh:Row w hb' xe ⟨[.pointer (some ⟨K.hb,0,none⟩)]⟩)(o:sx path nm){T1:Tree}{x1:sA}
  (hc:(op=[60]/\∃d,jl s.T (mP nm)=⟨1,6,d⟩/\T1=s.T/\x1={x with fr:=true,bu:=d})\/(op=[62]/\nm≠[46]/\Lib.lastIndexByte (S (47::nm)) 47=0/\T1=lz s.T nm [] false/\x1={x with dst:=path,is:=true})):
  aq DM #[.pointer (some ⟨K.hb,0,none⟩),.func (.func Ko) #[] #[.pointer (some ⟨rb,0,none⟩),.pointer (some ⟨pb,0,none⟩),.pointer (some ⟨xb,0,none⟩),.pointer (some ⟨hb',0,none⟩)]] w λe w'=>e=.returned (.int .i64 0)/\bB w' w0 K {s with T:=T1,cO:=s.cO-1}/\cz (λk=>Ft K w k\/k=xb) w (Ft K w') w'/\Row w' xb aJb ⟨q_ x1⟩:=by
 have hz0:=h0.size;obtain⟨vp,vc,Dl,_⟩:=h.fX;have hax:=as_ h hz0 hxb hx (by decide) (by decide) (by decide) (by decide) (by decide) (by decide) (by decide);refine abf b_ h0 h hb (cap:=[.pointer (some ⟨rb,0,none⟩),.pointer (some ⟨pb,0,none⟩),.pointer (some ⟨xb,0,none⟩),.pointer (some ⟨hb',0,none⟩)]) aoj hax (T1:=T1) ?_ (Q:=λw'=>Row w' xb aJb ⟨q_ x1⟩) (λwa wb hq hm=>hq.mod hm λhn=>hn rfl) ?_
 .rcases hc with⟨_,d,_,rfl,_⟩|⟨_,_,_,rfl,_⟩
  .exact h.rE
  .exact h.rE.put _ _
 intro w1 t m1 aIo low;have na:∀{b:Nat} {ty:TypeId} {cs:Array Value},Row w b ty cs->ty≠jW->b≠K.a:=λhr hne=>hr.ne h.aHh.top hne;have aHc:=hr.mod m1 (na hr (by decide));have hp1:=hp.mod m1 (na hp (by decide));have hx1:=hx.mod m1 (na hx (by decide));have OT:=hh.mod m1 (na hh (by decide));have hs1:=Dl.mod m1 (na Dl (by decide));have N0:iM w1 K.pb K.a:=h.iD.mod m1 (na h.iD (by decide));have rB:Still w0 w1:=Mod.trans h0 m1 (λ_ h=>h) λj hj e=>by have:=h.aHh.low.1;omega
 have Fs:∀{b:Nat} {ty:TypeId} {cs:Array Value},Row w b ty cs->ty≠jW->¬SF K.a K.g (some t) b:=λhr hne hk=>by
  rcases low _ hk with e|e|e
  .exact na hr hne e
  .exact pz h.aHh.now hr e
  .have:=hr.lt;omega
 have OU:¬RF (some t) K.pb:=λhk=>Fs h.iD (by decide) (RF.sf hk);apply akv;refine⟨_,aHc.aj rfl,aA (λhop=>?_) (λhop=>?_)⟩
 .rcases hc with⟨rfl,_⟩|⟨rfl,hnm,sP,rfl,rfl⟩
  .simp at hop
  refine⟨_,hp1.aj rfl,dO (g:=xb) (o:=1) hx1 (by simp[q_]) (by simp[Value.oneCell']) λw2 r2 m2 z2=>?_⟩;refine dO (g:=xb) (o:=3) r2 (by simp[q_,fh]) (by simp[Value.oneCell']) λw3 r3 m3 z3=>?_;have m13:Mod (λk=>k=xb) w1 w3:=Mod.trans m2 m3 (λ_ h=>h) (λ_ _ h=>h);have sD:Still w3 w3.drew:=(Still.refl _).cy;have nx:∀{b:Nat} {ty:TypeId} {cs:Array Value},Row w b ty cs->ty≠aJb->b≠xb:=λhr hne=>hr.ne hx hne;have hr3:=(aHc.mod m13 (nx hr (by decide))).still sD;have ry:=(hp1.mod m13 (nx hp (by decide))).still sD;have mu:=(OT.mod m13 (nx hh (by decide))).still sD;have hs3:=(hs1.mod m13 (nx Dl (by decide))).still sD;have VT:iM w3.drew K.pb K.a:=(N0.mod m13 (nx h.iD (by decide))).still sD;have aIp:=(aIo.mod m13 λk hk e=>Fs hx (by decide) (by rw[<-e];exact hk)).still sD;have aJO:Still w0 w3.drew:=Still.trans (Mod.trans rB m13 (λ_ h=>h) λj hj e=>by omega) sD;refine⟨λwq=>Row wq rb 138 ⟨[.string (S [62]),wv]⟩/\Row wq pb cm ⟨[.string (S path)]⟩/\Row wq hb' xe ⟨[.pointer (some ⟨K.hb,0,none⟩)]⟩/\Row wq K.hb fQ ⟨gR K vp vc s⟩,⟨hr3,ry,mu,hs3⟩,_,λwq hq=>hq.2.2.1.aj rfl,_,λwq hq=>hq.2.2.2.aj rfl,_,λwq hq=>hq.2.1.aj rfl,_,λwq hq=>hq.1.aj rfl,?_⟩;refine(abd b_ aJO aIp VT OU o hnm sP h.rE [] false (by simp)).mono ?_;rintro _ w4 ⟨rfl,iL,m4⟩;have nwf:¬WF K.g (some t) xb:=λhk=>Fs hx (by decide) (WF.sf hk);refine .inl ⟨_,rfl,rfl,⟨5,by decide,iL⟩,Mod.trans (Mod.trans m13 sD (λ_ h=>h) (λ_ _ h=>h.elim)) m4 (λ_ h=>.inr h) (λ_ _ h=>.inl (WF.sf h)),?_⟩;exact(r3.still sD).mod m4 nwf
 .rcases hc with⟨rfl,d,hd,rfl,rfl⟩|⟨rfl,_⟩
  .refine dO (g:=xb) (o:=2) hx1 (by simp[q_]) (by simp[Value.oneCell']) λw3 r3 m13 z3=>?_
   have sD:Still w3 w3.drew:=(Still.refl _).cy;have nx:∀{b:Nat} {ty:TypeId} {cs:Array Value},Row w b ty cs->ty≠aJb->b≠xb:=λhr hne=>hr.ne hx hne;have ry:=(hp1.mod m13 (nx hp (by decide))).still sD;have mu:=(OT.mod m13 (nx hh (by decide))).still sD;have hs3:=(hs1.mod m13 (nx Dl (by decide))).still sD;have VT:iM w3.drew K.pb K.a:=(N0.mod m13 (nx h.iD (by decide))).still sD;have aIp:=(aIo.mod m13 λk hk e=>Fs hx (by decide) (by rw[<-e];exact hk)).still sD;have aJO:Still w0 w3.drew:=Still.trans (Mod.trans rB m13 (λ_ h=>h) λj hj e=>by omega) sD;refine⟨λwq=>Row wq pb cm ⟨[.string (S path)]⟩/\Row wq hb' xe ⟨[.pointer (some ⟨K.hb,0,none⟩)]⟩/\Row wq K.hb fQ ⟨gR K vp vc s⟩,⟨ry,mu,hs3⟩,_,λwq hq=>hq.2.1.aj rfl,_,λwq hq=>hq.2.2.aj rfl,_,λwq hq=>hq.1.aj rfl,?_⟩;refine(acr b_ aJO aIp VT OU o hd).mono ?_;rintro _ w4 ⟨rfl,iL,m4⟩;have JJ:¬RF (some t) xb:=λhk=>Fs hx (by decide) (RF.sf hk);have r4:=(r3.still sD).mod m4 JJ;refine .inl ⟨_,_,rfl,dO (g:=xb) (o:=0) r4 (by simp[q_,fh]) (by simp[Value.oneCell']) λw5 r5 m5 z5=>?_⟩;refine⟨rfl,⟨3,by decide,iL.mod m5 λk hk e=>Fs hx (by decide) (by rw[<-e];exact hk)⟩,Mod.trans (Mod.trans (Mod.trans m13 sD (λ_ h=>h) (λ_ _ h=>h.elim)) m4 (U:=λk=>SF K.a K.g (some t) k\/k=xb) (λ_ h=>.inr h) (λ_ _ h=>.inl (RF.sf h))) m5 (λ_ h=>h) (λ_ _ h=>.inr h),r5⟩
  .simp at hop
def bB.other(h:bB w w0 K s){b:Nat}{t:TypeId}{cs:Array Value}(hr:Row w b t cs)(h1:t≠fQ)(h2:t≠kP)(h3:t≠pq)(h4:t≠5)(h5:t≠jW)(h6:t≠VD)(h7:t≠32){w':World}(hm:Mod (λk=>k=b) w w'):bB w' w0 K s/\∀k,Ft K w' k->Ft K w k:=by
 have hf:=h.apart hr h1 h2 h3 h4 h5;refine⟨⟨h.tovW.mod hm λj hj _=>?_,h.aHh.mod hm λj hj hk=>?_⟩,λk hk=>?_⟩
 .subst hj
  refine⟨λe=>hf (.inl e),λe=>hf (.inr (.inr (.inr (.inl e)))),hr.ne h.iD h6,pz h.fns hr,λt' cs' hr'=>?_⟩;have e:t'=t:=FT λhne=>hr'.ne hr hne rfl;subst e;exact⟨h3,h4,h7⟩
 .subst hk
  rcases hj with e|e|⟨t,ht,_⟩
  .exact hf (.inr (.inl e))
  .exact hf (.inr (.inr (.inl e)))
  .cases ht
 .rcases hk with e|e
  .exact .inl e
  .exact .inr ((Fc.same λo=>h.HB hm (λe=>hf (.inr (.inr (.inr (.inl e.symm))))) o).1 e)
def atb(b_:fJ w0)(h0:Still w0 w)(h:bB w w0 K s){rs:List (ag×List L.Pt)}{p:Option Addr}{n c:Nat}{D:Nat->Prop}(hs:L.aHO.At w D rs (.slice p n c))(hD:Kept D (Ft K w) w){s':Sh}{x':sA}(hf:xz rs s ⟨s.bu,[],false,false⟩ s' x')(aJL:rs.length<=10000):
  aq Qw #[.pointer (some ⟨K.hb,0,none⟩),.slice p n c] w (λe w'=>e=.returned (.tuple #[.agg #[.string (S x'.bu),.string (S x'.dst),.bool x'.fr,.bool x'.is],.bool true])/\bB w' w0 K s'/\cz (Ft K w) w (Ft K w') w'):=by
 obtain⟨rfl,hc⟩:=hs.len;have hz0:=h0.size;apply alc;refine aQ λw1 r1 s1 z1=>aQ λw2 r2 s2 z2=>?_;have q1:=r1.still s2;have dP:=s1.trans s2;have h2:=h.still dP;refine⟨_,q1.aj rfl,_,h2.cell λ_ _=>rfl,aHb (g:=w1.heap.size) (o:=0) r2 λw3 r3 m3 z3=>?_⟩;have aHY:Still w w3:=dP.box (by omega) m3;have h3:=h.still aHY;have q3:=q1.mod m3 (by omega);refine⟨λx w4=>∃(i:Nat) (si:Sh) (xi:sA),x=(i:Int)/\i<=rs.length/\bB w4 w0 K si/\cz (Ft K w) w (Ft K w4) w4/\Row w4 w.heap.size xe ⟨[.pointer (some ⟨K.hb,0,none⟩)]⟩/\Row w4 w1.heap.size aJb ⟨q_ xi⟩/\xz (rs.drop i) si xi s' x',λx _=>(rs.length-x).toNat,⟨0,s,⟨s.bu,[],false,false⟩,rfl,dK _,h3,h.gone aHY,q3,r3,hf⟩,?_⟩;rintro x _ w4 ⟨i,si,xi,rfl,hi,h4,g4,q4,r4,hfi⟩;have JK:Still w0 w4:=Mod.trans h0 g4.mod (λ_ h=>h) λj hj hk=>by have:=(h.lt hk).1;omega
 have BC:=g4.mod.size;refine aA (λhx=>?_) (λhx=>?_)
 .have hx:i<rs.length:=by have:=aR hx;omega
  rw[qB hx]at hfi;obtain⟨gs,nm,ok,o,hb,hcase⟩:=hfi;have hs4:=hs.mod g4.mod λj hj hk=>(hD j hj).2 hk;have hD4:=hD.gone g4;obtain⟨b,cs,rfl,OQ,⟨v,rfl,fM⟩,hcell⟩:=hs4.get (gW hx);obtain⟨wp,wc,rfl⟩:=fM.form;have cl:∀(j:Nat) (u:Value),([Value.string (S rs[i].1),.slice wp rs[i].2.length wc]:List Value)[j]?=some u->w4.cell? ((b.add (Int.toNat (i:Int)*2)).add j)=some u:=λj u hu=>by rw[b6];exact hcell j u hu
  have c0:w4.cell? (b.add (Int.toNat (i:Int)*2))=some (.string (S rs[i].1)):=cl 0 _ rfl;refine⟨by omega,by omega,_,_,_,_,c0,cl 1 _ rfl,aQ λw5 r5 s5 z5=>aHb (g:=w4.heap.size) (o:=0) r5 λw6 r6 m6 z6=>?_⟩;have je:Still w4 w6:=s5.box (aV _) m6;have h6:=h4.still je;have q6:=q4.still je;have OV:=h4.gone je;have hpl:=o.len;refine⟨_,q6.aj rfl,_,_,_,r6.aj rfl,(aez b_ (JK.trans je) h6 (fM.still je) (hD4.gone OV) ok false (by omega)).mono ?_⟩;rintro _ w7 ⟨rfl,h7,g7⟩;have n6:∀{k:Nat} {ty:TypeId} {cs:Array Value},Row w6 k ty cs->ty≠fQ->ty≠kP->ty≠pq->ty≠5->ty≠jW->¬Ft K w6 k:=λhr a b c d e=>h6.apart hr a b c d e;have r7:=r6.mod g7.mod (n6 r6 (by decide) (by decide) (by decide) (by decide) (by decide));have q7:=q6.mod g7.mod (n6 q6 (by decide) (by decide) (by decide) (by decide) (by decide));have x7:=(r4.still je).mod g7.mod (n6 (r4.still je) (by decide) (by decide) (by decide) (by decide) (by decide));refine .inl ⟨_,_,rfl,aQ λw8 r8 s8 z8=>aHb (g:=w7.heap.size) (o:=0) r8 λw9 r9 m9 z9=>?_⟩;have aIg:Still w7 w9:=s8.box (aV _) m9;have h9:=h7.still aIg;have g49:=(OV.trans g7).trans (h7.gone aIg);have g09:=g4.trans g49;have Xb:Still w0 w9:=Mod.trans h0 g09.mod (λ_ h=>h) λj hj hk=>by have:=(h.lt hk).1;omega
  refine aA (λh=>by cases h) (λ_=>⟨_,(q7.still aIg).aj rfl,?_⟩);have ox:w0.heap.size<=w1.heap.size:=by omega
  have q9:=q7.still aIg;have x9:=x7.still aIg;obtain⟨T1,x1,hc,hr⟩:∃T1 x1,((rs[i].1=[60]/\∃d,jl si.T (mP nm)=⟨1,6,d⟩/\T1=si.T/\x1={xi with fr:=true,bu:=d})\/(rs[i].1=[62]/\nm≠[46]/\Lib.lastIndexByte (S (47::nm)) 47=0/\T1=lz si.T nm [] false/\x1={xi with dst:=F.joined false gs,is:=true}))/\xz (rs.drop (i+1)) {si with T:=T1,cO:=si.cO-1} x1 s' x':=by
   rcases hcase with⟨a1,d,a2,a3⟩|⟨a1,a2,a3,a4⟩
   .exact⟨_,_,.inl ⟨a1,d,a2,rfl,rfl⟩,a3⟩
   .exact⟨_,_,.inr ⟨a1,a2,a3,rfl,rfl⟩,a4⟩
  refine(ata b_ Xb h9 hb (r7.still aIg) r9 x9 ox q9 o hc).mono ?_;rintro _ bh ⟨rfl,h11,g11,iA⟩;refine .inl ⟨_,rfl,aA (λh=>by simp at h) (λ_=>?_)⟩;rw[wrap_i64 (by omega) (by omega)];have nq:¬(Ft K w9 w.heap.size\/w.heap.size=w1.heap.size):=λhk=>hk.elim (h9.apart q9 (by decide) (by decide) (by decide) (by decide) (by decide)) λe=>by omega
  refine⟨⟨i+1,{si with T:=T1,cO:=si.cO-1},x1,by omega,by omega,h11,g09.trans' g11 λk hk hG=>hG.elim .inl λe=>by omega,q9.mod g11.mod nq,iA,hr⟩,by dsimp only;omega⟩
 .have hx:i=rs.length:=by have:=aX hx;omega
  subst hx;rw[ye]at hfi;obtain⟨rfl,rfl⟩:=hfi;refine⟨_,_,_,_,r4.aj rfl,r4.aj rfl,r4.aj rfl,r4.aj rfl,dO (g:=w1.heap.size) (o:=0) r4 (by simp[q_]) (by simp[Value.oneCell']) λw5 r5 m5 z5=>?_⟩;obtain⟨h5,f5⟩:=h4.other r4 (by decide) (by decide) (by decide) (by decide) (by decide) (by decide) (by decide) m5;refine⟨_,_,_,_,r5.aj rfl,r5.aj rfl,r5.aj rfl,r5.aj rfl,rfl,h5,Mod.trans g4.mod m5 (λ_ h=>h) (λj hj e=>by omega),λk hk=>g4.new k (f5 k hk)⟩
def anB:dD aM Kb=true:=by kernel_rfl
def arj(b_:fJ w0)(h0:Still w0 w)(h:bB w w0 K s)(hb:0<s.cO){hb' xb sb':Nat}{nm t:ag}{x:sA}(hh:Row w hb' xe ⟨[.pointer (some ⟨K.hb,0,none⟩)]⟩)(hx:Row w xb aJb ⟨q_ x⟩)(ht:Row w sb' cm ⟨[.string (S t)]⟩)(o:sx x.dst nm)(hnm:nm≠[46])(hi:Lib.lastIndexByte (S (47::nm)) 47=0)(hl:((gi s.T (47::nm)).d++t).length<=50000):
  aq DM #[.pointer (some ⟨K.hb,0,none⟩),.func (.func Kb) #[] #[.pointer (some ⟨hb',0,none⟩),.pointer (some ⟨xb,0,none⟩),.pointer (some ⟨sb',0,none⟩)]] w λe w'=>e=.returned (.int .i64 0)/\bB w' w0 K {s with T:=lz s.T nm t true,cO:=s.cO-1}/\cz (Ft K w) w (Ft K w') w':=by
 obtain⟨vp,vc,Dl,_⟩:=h.fX;refine(abf b_ h0 h hb (cap:=[.pointer (some ⟨hb',0,none⟩),.pointer (some ⟨xb,0,none⟩),.pointer (some ⟨sb',0,none⟩)]) anB (X:=λ_=>False) ⟨λ_ h=>h.elim,λ_ h=>h.elim,λ_ h=>h.elim⟩ (T1:=lz s.T nm t true) (h.rE.put _ _) (Q:=λ_=>True) (λ_ _ _ _=>trivial) ?_).mono ?_
 .intro w1 u m1 aIo low
  have na:∀{b:Nat} {ty:TypeId} {cs:Array Value},Row w b ty cs->ty≠jW->b≠K.a:=λhr hne=>hr.ne h.aHh.top hne;have sD:Still w1 w1.drew:=(Still.refl _).cy;have OT:=(hh.mod m1 (na hh (by decide))).still sD;have hx1:=(hx.mod m1 (na hx (by decide))).still sD;have ht1:=(ht.mod m1 (na ht (by decide))).still sD;have hs1:=(Dl.mod m1 (na Dl (by decide))).still sD;have N0:iM w1.drew K.pb K.a:=(h.iD.mod m1 (na h.iD (by decide))).still sD;have rB:Still w0 w1.drew:=Still.trans (Mod.trans h0 m1 (λ_ h=>h) λj hj e=>by have:=h.aHh.low.1;omega) sD;have OU:¬RF (some u) K.pb:=λhk=>by
   rcases low _ (RF.sf hk)with e|e|e
   .exact na h.iD (by decide) e
   .exact pz h.aHh.now h.iD e
   .have:=h.iD.lt;omega
  apply aj_;refine⟨λwq=>Row wq hb' xe ⟨[.pointer (some ⟨K.hb,0,none⟩)]⟩/\Row wq xb aJb ⟨q_ x⟩/\Row wq sb' cm ⟨[.string (S t)]⟩/\Row wq K.hb fQ ⟨gR K vp vc s⟩,⟨OT,hx1,ht1,hs1⟩,_,λwq hq=>hq.1.aj rfl,_,λwq hq=>hq.2.2.2.aj rfl,_,λwq hq=>hq.2.1.aj rfl,_,λwq hq=>hq.2.2.1.aj rfl,?_⟩;refine(abd b_ rB (aIo.still sD) N0 OU o hnm hi h.rE t true (by rw[aL rfl];exact hl)).mono ?_;rintro _ w4 ⟨rfl,iL,m4⟩;exact .inl ⟨_,rfl,rfl,⟨5,by decide,iL⟩,Mod.trans sD m4 (λ_ h=>h.elim) (λ_ _ h=>.inl (WF.sf h)),trivial⟩
 .rintro _ w' ⟨rfl,h1,g1,_⟩
  exact⟨rfl,h1,⟨g1.mod.weaken λk hk=>hk.elim id λh=>h.elim,λk hk=>(g1.new k hk).imp (λh=>h.elim id λh=>h.elim) id⟩⟩
def CO(x1:sA)(s1 s3:Sh)(nm:ag):Sh:=
 if x1.is then{s3 with bu:=if x1.fr then s1.bu else s3.bu,out:=s1.out,T:=lz s3.T nm s3.out true,cO:=s3.cO-1}else{s3 with bu:=if x1.fr then s1.bu else s3.bu}
def ap1(b_:fJ w0)(h0:Still w0 w)(h:bB w w0 K s){rs:List (ag×List L.Pt)}{p:Option Addr}{n c:Nat}{D:Nat->Prop}(hs:L.aHO.At w D rs (.slice p n c))(hD:Kept D (Ft K w) w){s1 s3:Sh}{x1:sA}{nm:ag}(hf:xz rs s ⟨s.bu,[],false,false⟩ s1 x1)(aJL:rs.length<=10000)
  (hx:x1.is=true->0<s3.cO/\sx x1.dst nm/\nm≠[46]/\Lib.lastIndexByte (S (47::nm)) 47=0/\((gi s3.T (47::nm)).d++s3.out).length<=50000)
  {f:FuncId}{cap:List Value}(hc:dD aM f=true)
  (Jy:∀w7,bB w7 w0 K {s1 with bu:=x1.bu,out:=if x1.is then[]else s1.out}->cz (Ft K w) w (Ft K w7) w7->aq f ⟨cap⟩ w7 λe w8=>e=.returned (.tuple #[])/\bB w8 w0 K s3/\cz (Ft K w7) w7 (Ft K w8) w8):
  aq Km #[.pointer (some ⟨K.hb,0,none⟩),.slice p n c,.func (.func f) #[] ⟨cap⟩] w (λe w'=>e=.returned (.tuple #[])/\bB w' w0 K (CO x1 s1 s3 nm)/\cz (Ft K w) w (Ft K w') w'):=by
 apply akp;refine aQ λw1 r1 q1 z1=>⟨_,r1.aj rfl,(atb b_ (h0.trans q1) (h.still q1) (hs.still q1) (hD.gone (h.gone q1)) hf aJL).mono ?_⟩;rintro _ w2 ⟨rfl,h2,g2⟩;have ap:∀{w:World} {s:Sh} {k:Nat} {ty:TypeId} {cs:Array Value},bB w w0 K s->Row w k ty cs->ty≠fQ->ty≠kP->ty≠pq->ty≠5->ty≠jW->¬Ft K w k:=λh hr a b c d e=>h.apart hr a b c d e;have p2:=r1.mod g2.mod (ap (h.still q1) r1 (by decide) (by decide) (by decide) (by decide) (by decide));have aJV:=(h.gone q1).trans g2;refine .inl ⟨_,_,_,_,_,rfl,aQ λw3 r3 s3' z3=>aHb (g:=w2.heap.size) (o:=0) r3 λw4 r4 m4 z4=>?_⟩;have jd:Still w2 w4:=s3'.box (aV _) m4;have h4:=h2.still jd;have Xc:=aJV.trans (h2.gone jd);have p4:=p2.still jd;have r4:Row w4 w2.heap.size aJb ⟨q_ x1⟩:=r4;have sD:Still w4 w4.drew:=(Still.refl _).cy;have Fm:=h4.still sD;have azU:=Xc.trans (h4.gone sD);have Xd:=p4.still sD;have Xe:=r4.still sD;refine aA (λh=>by cases h) (λ_=>⟨_,p4.aj rfl,_,h4.cell λ_ _=>rfl,_,p4.aj rfl,_,h4.cell λ_ _=>rfl,_,Xd.aj rfl,_,Xe.aj rfl,?_⟩);refine Fm.af7 x1.bu λw5 h5 g5 m5=>?_;have r5:=Xe.mod g5.mod (ap Fm Xe (by decide) (by decide) (by decide) (by decide) (by decide));have p5:=Xd.mod g5.mod (ap Fm Xd (by decide) (by decide) (by decide) (by decide) (by decide));have OW:=azU.trans g5;refine⟨λw7=>bB w7 w0 K {s1 with bu:=x1.bu,out:=if x1.is then[]else s1.out}/\cz (Ft K w) w (Ft K w7) w7/\Row w7 w2.heap.size aJb ⟨q_ x1⟩/\Row w7 w.heap.size xe ⟨[.pointer (some ⟨K.hb,0,none⟩)]⟩,⟨_,r5.aj rfl,aA (λhb=>?_) (λhb=>?_)⟩,?_⟩
 .refine⟨_,p5.aj rfl,h5.MS [] λw6 h6 g6 m6=>?_⟩
  rw[aL hb];exact⟨h6,OW.trans g6,r5.mod g6.mod (ap h5 r5 (by decide) (by decide) (by decide) (by decide) (by decide)),p5.mod g6.mod (ap h5 p5 (by decide) (by decide) (by decide) (by decide) (by decide))⟩
 .rw[aG (by rw[hb];decide)]
  exact⟨h5,OW,r5,p5⟩
 rintro _ w7 ⟨h7,aKi,r7,p7⟩;refine Af (aA (λ_=>?_) (λh=>by rw[hc]at h;cases h));refine(Jy w7 h7 aKi).mono ?_;rintro _ w8 ⟨rfl,h8,g8⟩;have r8:=r7.mod g8.mod (ap h7 r7 (by decide) (by decide) (by decide) (by decide) (by decide));have p8:=p7.mod g8.mod (ap h7 p7 (by decide) (by decide) (by decide) (by decide) (by decide));have g08:=aKi.trans g8;refine .inl ⟨rfl,λaO=>bB aO w0 K {s3 with bu:=if x1.fr then s1.bu else s3.bu}/\cz (Ft K w) w (Ft K aO) aO/\Row aO w2.heap.size aJb ⟨q_ x1⟩/\Row aO w.heap.size xe ⟨[.pointer (some ⟨K.hb,0,none⟩)]⟩,⟨_,r8.aj rfl,aA (λhb=>?_) (λhb=>?_)⟩,?_⟩
 .refine⟨_,p8.aj rfl,h8.af7 s1.bu λw9 h9 g9 m9=>?_⟩
  rw[aL hb];exact⟨h9,g08.trans g9,r8.mod g9.mod (ap h8 r8 (by decide) (by decide) (by decide) (by decide) (by decide)),p8.mod g9.mod (ap h8 p8 (by decide) (by decide) (by decide) (by decide) (by decide))⟩
 .rw[aG (by rw[hb];decide)]
  exact⟨h8,g08,r8,p8⟩
 rintro _ aO ⟨h10,g10,eB,xW⟩;refine⟨_,eB.aj rfl,aA (λhb=>?_) (λhb=>?_)⟩
 .have hb:x1.is=false:=by simpa using hb
  rw[CO,aG (by rw[hb];decide)];exact⟨rfl,h10,g10⟩
 .have hb:x1.is=true:=by simpa using hb
  obtain⟨b1,b2,b3,b4,b5⟩:=hx hb;rw[CO,aL hb];refine⟨_,xW.aj rfl,_,h10.cell λ_ _=>rfl,aQ λbh aHz pP zG=>aHb (g:=aO.heap.size) (o:=0) aHz λbE gP m12 z12=>?_⟩;have Nk:Still aO bE:=pP.box (aV _) m12;have h12:=h10.still Nk;have g12:=g10.trans (h10.gone Nk);have Xf:=xW.still Nk;have iB:=eB.still Nk;refine⟨_,Xf.aj rfl,h12.MS s1.out λbw xV g13 m13=>?_⟩;have OX:=Xf.mod g13.mod (ap h12 Xf (by decide) (by decide) (by decide) (by decide) (by decide));have iN:=iB.mod g13.mod (ap h12 iB (by decide) (by decide) (by decide) (by decide) (by decide));have t13:=gP.mod g13.mod (ap h12 gP (by decide) (by decide) (by decide) (by decide) (by decide));have ahc:=g12.trans g13;have azV:Still w0 bw:=Mod.trans h0 ahc.mod (λ_ h=>h) λj hj hk=>by have:=(h.lt hk).1;omega
  refine⟨_,OX.aj rfl,(arj b_ azV xV b1 OX iN t13 b2 b3 b4 b5).mono ?_⟩;rintro _ bO ⟨rfl,mw,g14⟩;exact .inl ⟨_,rfl,aA (λh=>by simp at h) (λ_=>⟨rfl,mw,ahc.trans g14⟩)⟩
def apf{p:Option Addr}{n c:Nat}{V:List A.Vr}(hv:A.cK w p n c V)(hn:n<900000)(he:∀v∈V,v.exp=false):aq Ru #[.slice p n c] w (λe w'=>e=.returned (.slice none 0 0)/\Still w w'):=by
 obtain⟨rfl,hc,_⟩:=id hv;apply amK;refine⟨λo on oc x w1=>o=none/\on=0/\oc=0/\(∃i:Nat,x=(i:Int)/\i<=V.length)/\Still w w1,λ_ _ _ x _=>(V.length-x).toNat,⟨rfl,rfl,rfl,⟨0,rfl,dK _⟩,Still.refl _⟩,?_⟩;rintro _ _ _ x _ w1 ⟨rfl,rfl,rfl,⟨i,rfl,hi⟩,s1⟩;refine aA (λhx=>?_) (λhx=>⟨rfl,s1⟩);have hx:i<V.length:=by have:=aR hx;omega
 obtain⟨a,rfl,c0,c1,c2,c3⟩:=(hv.still s1).get (gW hx);refine⟨by omega,by omega,_,_,_,_,by rw[b6];exact c0,by rw[b6];exact c1,by rw[b6];exact c2,by rw[b6];exact c3,?_⟩;refine aQ λw2 r2 s2 z2=>aHb (g:=w1.heap.size) (o:=0) r2 λw3 r3 m3 z3=>?_;refine⟨_,r3.aj rfl,aA (λh=>by rw[he _ (kI hx)]at h;cases h) (λ_=>?_)⟩;rw[wrap_i64 (by omega) (by omega)];exact⟨⟨rfl,rfl,rfl,⟨i+1,by omega,by omega⟩,s1.trans (s2.box (aV _) m3)⟩,by dsimp only;omega⟩
def SW(l:List ag):total l=dG l:=rfl
def Ug{l:List ag}{x:ag}(h:x∈l):x.length<=dG l:=by
 induction l with
 |nil=>cases h
 |cons a r ih=>
  simp only[dG,gI,aIO]at ih⊢;rcases aHs.1 h with rfl|h
  .omega
  .have:=ih h;omega
def atc(he:Env w){p:Option Addr}{c:Nat}{f:List ag}(hf:de w p f.length f)(hl:dG f<=3000){bu:ag}(hi:bu.length<=50000):
  aq Sa #[.slice p f.length c,.slice none 0 0,.string (S []),.int .i64 0,.string (S bu)] w (λe w'=>(∃x:ag,e=.returned (.string (S x)))/\Still w w'):=by
 apply an_;refine(Lw he hf (by rw[SW];omega)).mono ?_;rintro _ w1 ⟨rfl,s1⟩;refine .inl ⟨_,rfl,(Lw (he.still s1) (de.nil w1) (by decide)).mono ?_⟩;rintro _ w2 ⟨rfl,s2⟩;have dP:=s1.trans s2;refine .inl ⟨_,rfl,(aKJ (he.still dP) (n:=0) (by decide) (by decide)).mono ?_⟩;rintro _ w3 ⟨rfl,s3⟩;have aHY:=dP.trans s3;have h1:(encode f).length<=33000:=by have:=LA (l:=f) λx hx=>LZ (n:=x.length) (by have:=Ug hx;omega);rw[SW]at this;omega
 have h2:(encode []).length=0:=rfl;have h3:(dec (0:Int).toNat).length<=20:=Hz (by decide);have hin:total [encode f,encode [],[],dec (0:Int).toNat,bu]<=90000:=by simp only[total,gI,rK,aIO,K3,aHf];omega
 refine .inl ⟨_,rfl,aQ λw4 r4 s4 z4=>?_⟩;have lp:=aHY.trans s4;have ra:de w4 (some ⟨w3.heap.size,0,none⟩) 5 [encode f,encode [],[],dec (0:Int).toNat,bu]:=de.row r4;refine(Lw (he.still lp) ra (by omega)).mono ?_;rintro _ w5 ⟨rfl,s5⟩;have hle:(encode [encode f,encode [],[],dec (0:Int).toNat,bu]).length<1000000:=by have:=LA (l:=[encode f,encode [],[],dec (0:Int).toNat,bu]) λx hx=>LZ (n:=x.length) (by have:=Ug hx;rw[SW]at hin;omega);omega
 refine .inl ⟨_,rfl,(auF _ hle).mono ?_⟩;rintro _ w6 ⟨⟨y6,rfl⟩,s6⟩;exact .inl ⟨_,rfl,⟨_,rfl⟩,(lp.trans s5).trans s6⟩
def au4(h:bB w w0 K s)(x:ag):aq QK #[.pointer (some ⟨K.hb,0,none⟩),.string (S x)] w (λe w'=>e=.returned (.bool false)/\w'=w):=by apply alx;obtain⟨y,hy⟩:=h.ia;exact⟨_,h.cell λ_ _=>rfl,_,hy.row.aj rfl,aA (λh=>by cases h) (λ_=>aA (λ_=>⟨rfl,rfl⟩) (λh=>by simp at h))⟩
def ap2(h0:Still w0 w)(h:bB w w0 K s)(st:Int)(out err:ag)(ho:s.out.length+out.length<=1000000000)(he:s.err.length+err.length<=1000000):
  aq DC #[.pointer (some ⟨K.hb,0,none⟩),.agg #[.int .i64 st,.string (S out),.string (S err)]] w (λe w'=>e=.returned (.tuple #[])/\bB w' w0 K {s with st:=st,out:=s.out++out,err:=s.err++err}/\cz (Ft K w) w (Ft K w') w'):=by
 apply akz;refine aQ λw1 r1 s1 z1=>?_;have h1:=h.still s1;refine⟨_,r1.aj rfl,h1.Is st λw2 h2 g2 m2=>?_⟩;have sD:Still w2 w2.drew:=(Still.refl _).cy;have ap:∀{w:World} {s:Sh} {k:Nat} {ty:TypeId} {cs:Array Value},bB w w0 K s->Row w k ty cs->ty≠fQ->ty≠kP->ty≠pq->ty≠5->ty≠jW->¬Ft K w k:=λh hr a b c d e=>h.apart hr a b c d e;have r2:=(r1.mod g2.mod (ap h1 r1 (by decide) (by decide) (by decide) (by decide) (by decide))).still sD;have Xg:=h2.still sD;obtain⟨vp,vc,hh2,_⟩:=Xg.fX;have aJV:=((h.gone s1).trans g2).trans (h2.gone sD);refine⟨λwq=>Row wq K.hb fQ ⟨gR K vp vc {s with st:=st}⟩/\Row wq w.heap.size 35 ⟨[.int .i64 st,.string (S out),.string (S err)]⟩,⟨hh2,r2⟩,_,λwq hq=>hq.1.aj rfl,_,λwq hq=>hq.2.aj rfl,by dsimp only;omega,Xg.MS (s.out++out) λw3 h3 g3 m3=>?_⟩;have sE:Still w3 w3.drew:=(Still.refl _).cy;have r3:=(r2.mod g3.mod (ap Xg r2 (by decide) (by decide) (by decide) (by decide) (by decide))).still sE;have ng:=h3.still sE;obtain⟨vX,vY,mu,_⟩:=ng.fX;have jB:=(aJV.trans g3).trans (h3.gone sE);have hz:w0.heap.size<=w3.drew.heap.size:=kJ h0.size jB.mod.size;refine⟨λwq=>Row wq K.hb fQ ⟨gR K vX vY {s with st:=st,out:=s.out++out}⟩/\Row wq w.heap.size 35 ⟨[.int .i64 st,.string (S out),.string (S err)]⟩,⟨mu,r3⟩,_,λwq hq=>hq.1.aj rfl,_,λwq hq=>hq.2.aj rfl,(ng.adw hz err he).mono ?_⟩;rintro _ w4 ⟨rfl,h4,g4⟩;exact .inl ⟨_,_,rfl,rfl,rfl,h4,jB.trans g4⟩
def atd(b_:fJ w0)(h0:Still w0 w)(h:bB w w0 K s){T1:Tree}(hT:k4 T1){t:Tb}{w2:World}(xP:Mod (λk=>k=K.a\/k=K.g) w w2){n:Nat}(hn:n<=12)(h2:cU w2 w0.heap.size K.a K.g (some t) n T1):
  vW w2 w0 K s/\aq Ga #[.pointer (some ⟨K.a,0,none⟩)] w2 (λe w3=>(∃p1 n1 c1 p2 n2 c2,e=.returned (.tuple #[.slice p1 n1 c1,.slice p2 n2 c2]))/\bB w3 w0 K {s with T:=T1}/\cz (Ft K w) w (Ft K w3) w3/\Mod (λk=>k=K.a) w2 w3):=by
 obtain⟨t1,t2,t3,t4,t5,t6,t7,t8,t9,t10,t11,t12,t13⟩:=h.tys;obtain⟨x0,hx0⟩:=h.ia;have ap:∀k,(k=K.a\/k=K.g)->k<w.heap.size->k≠K.hb/\k≠K.sb/\k≠K.pb/\k≠K.fm/\∀t cs,Row w k t cs->t≠pq/\t≠5/\t≠32:=λk hk _=>by
  rcases hk with rfl|rfl
  .refine⟨λe=>t2 e.symm,λe=>t6 e.symm,t10,t11,λt cs hr=>?_⟩
   have e:t=jW:=FT λhne=>hr.ne h.aHh.top hne rfl;subst e;exact⟨by decide,by decide,by decide⟩
  .exact⟨λe=>t3 e.symm,λe=>t7 e.symm,t12,t13,λt cs hr=>absurd rfl (h.aHh.now.aHg hr)⟩
 have vU:Still w0 w2:=Mod.trans h0 xP (λ_ h=>h) λk hk hS=>by
  rcases hS with e|e
  .have:=h.aHh.low.1;omega
  .have:=h.aHh.low.2;omega
 refine⟨h.tovW.mod xP ap,(adp b_.env vU h2 hn).mono ?_⟩;rintro _ w3 ⟨⟨p1,n1,c1,p2,n2,c2',rfl⟩,h3,m3⟩;have BD:Mod (λk=>k=K.a\/k=K.g) w w3:=Mod.trans xP m3 (λ_ h=>h) (λ_ _ h=>.inl h);have sO:vW w3 w0 K s:=h.tovW.mod BD ap;refine⟨⟨_,_,_,_,_,_,rfl⟩,⟨⟨hT,sO.iD,sO.fns,sO.fX,by obtain⟨x,hx⟩:=sO.ia;exact⟨x,hx.gS,hx.aHM,hx.eS⟩,sO.low,sO.Dg⟩,h3.top,h3.now,h3.eS,h3.low,λt ht=>by cases ht⟩,⟨BD.weaken λk hk=>?_,λk hk=>.inl ?_⟩,m3⟩
 .rcases hk with e|e
  .exact .inr (.inl e)
  .exact .inr (.inr (.inl e))
 .rcases hk with hk|hk
  .exact .inl hk
  .refine .inr ((Fc.same λo=>World.cell?_of_block (BD.block _ hx0.row.lt λhs=>?_)).1 hk)
   rcases hs with e|e
   .exact t6 e
   .exact t7 e
def aJc(T:Tree)(f:List ag)(bu:ag)(st:Int)(out err:ag)(T':Tree):Prop:=∀(w w0:World) (a g pb:Nat) (t:Tb) (p:Option Addr) (c B:Nat),fJ w0->Still w0 w->cU w w0.heap.size a g (some t) 0 T->iM w pb a->¬RF (some t) pb->aS w B cm 1 (.slice p f.length c) f.length (strs f)->
 aq Gt #[.pointer (some ⟨pb,0,none⟩),.slice p f.length c,.string (S bu)] w (λe w'=>e=.returned (.tuple #[.agg #[.int .i64 st,.string (S out),.string (S err)],.bool true])/\(∃n,n<=12/\cU w' w0.heap.size a g (some t) n T')/\Mod (SF a g (some t)) w w')
abbrev ayw:TypeId:=35
def Ran(w w0:World)(K:Kx)(t:Tb)(st:Int)(out err:ag)(T':Tree)(r:Option Addr)(ok:Bool)(w':World):Prop:=∃rb,r=some ⟨rb,0,none⟩/\ok=true/\w.heap.size<=rb/\Row w' rb ayw ⟨[.int .i64 st,.string (S out),.string (S err)]⟩/\(∃n,n<=12/\cU w' w0.heap.size K.a K.g (some t) n T')/\Mod (SF K.a K.g (some t)) w w'
def apg(b_:fJ w0)(h0:Still w0 w)(h:bB w w0 K s){p:Option Addr}{c B:Nat}{f:List ag}(hf:aS w B cm 1 (.slice p f.length c) f.length (strs f))(hfl:dG f<=3000)(hin:s.bu.length<=50000){vp:Option Addr}{vn vc:Nat}{V:List A.Vr}(hv:A.cK w vp vn vc V)(Xh:vn<900000)(Xi:∀v∈V,v.exp=false)
  {st:Int}{out err:ag}{T':Tree}(ht:aJc s.T f s.bu st out err T')(hT:k4 T')(hb:0<s.cO)(ho:s.out.length+out.length<=1000000000)(he:s.err.length+err.length<=1000000):
  aq P4 #[.pointer (some ⟨K.hb,0,none⟩),.slice p f.length c,.slice vp vn vc] w (λe w'=>e=.returned (.tuple #[])/\bB w' w0 K {s with T:=T',cO:=s.cO-1,st:=st,out:=s.out++out,err:=s.err++err}/\cz (Ft K w) w (Ft K w') w'):=by
 apply aki;have sD:Still w w.drew:=(Still.refl _).cy;have hD:=h.still sD;obtain⟨vpD,zk,hhD,_⟩:=hD.fX;obtain⟨xD,hxD⟩:=hD.ia;refine⟨λwq=>Row wq K.hb fQ ⟨gR K vpD zk s⟩/\Row wq K.sb kP ⟨oT K xD s⟩,⟨hhD,hxD.row⟩,_,λwq hq=>hq.1.aj rfl,_,λwq hq=>hq.1.aj rfl,_,λwq hq=>hq.2.aj rfl,_,λwq hq=>hq.1.aj rfl,(apf (hv.still sD) Xh Xi).mono ?_⟩;rintro _ w1 ⟨rfl,s1⟩;have Xj:=sD.trans s1;refine .inl ⟨_,_,_,rfl,⟨hhD.still s1,hxD.row.still s1⟩,(atc ((b_.still h0).env.still Xj) (de.of (hf.still Xj)) hfl hin).mono ?_⟩;rintro _ w2 ⟨⟨key,rfl⟩,s2⟩;have dP:=Xj.trans s2;have h2:=h.still dP;refine .inl ⟨_,rfl,(au4 h2 key).mono ?_⟩;rintro _ w3 ⟨rfl,rfl⟩;refine .inl ⟨_,rfl,aA (λh=>by cases h) (λ_=>?_)⟩;obtain⟨x3,hx3⟩:=h2.ia;have aJO:=h0.trans dP;refine⟨_,h2.cell λ_ _=>rfl,_,hx3.row.aj rfl,(aa9 h2.aHh aJO).mono ?_⟩;rintro _ w4 ⟨rfl,t,iL,m4,g1,g2,g3,g4⟩;have low:∀k,SF K.a K.g (some t) k->k=K.a\/k=K.g\/w3.heap.size<=k:=λk hk=>by
  rcases hk with e|e|⟨t',ht',hk⟩
  .exact .inl e
  .exact .inr (.inl e)
  .obtain rfl:=bU ht'
   rcases hk with rfl|rfl|rfl|rfl<;>exact .inr (.inr (by assumption))
 have na:∀{b:Nat} {ty:TypeId} {cs:Array Value},Row w3 b ty cs->ty≠jW->b≠K.a:=λhr hne=>hr.ne h2.aHh.top hne;obtain⟨vX,vY,mu,_⟩:=h2.fX;have sE:Still w4 w4.drew:=(Still.refl _).cy;have Fu:=(mu.mod m4 (na mu (by decide))).still sE;have hs4:=(hx3.row.mod m4 (na hx3.row (by decide))).still sE;have Xk:aS w4.drew B cm 1 (.slice p f.length c) f.length (strs f):=(((hf.still dP).mod m4 λk hk e=>by obtain⟨cur,hr⟩:=(hf.still dP).typed hk;exact na hr (by decide) e)).still sE;have JK:Still w0 w4.drew:=Still.trans (Mod.trans aJO m4 (λ_ h=>h) λj hj e=>by have:=h2.aHh.low.1;omega) sE;have VU:=iL.still sE;have JJ:∀k,w4.heap.size<=k->¬RF (some t) k:=λk hk hr=>by have:=(iL.k6 (RF.sf (a:=K.a) (g:=K.g) hr)).2;omega
 have JL:∀k,w4.heap.size<=k->¬SF K.a K.g (some t) k:=λk hk hr=>by have:=(iL.k6 hr).2;omega
 refine .inl ⟨rfl,Ran w4 w0 K t st out err T',⟨λwq=>Row wq K.hb fQ ⟨gR K vX vY s⟩/\Row wq K.sb kP ⟨oT K x3 s⟩,⟨Fu,hs4⟩,_,λwq hq=>hq.1.aj rfl,_,λwq hq=>hq.2.aj rfl,_,λwq hq=>hq.1.aj rfl,_,λwq hq=>hq.1.aj rfl,_,λwq hq=>hq.2.aj rfl,_,λwq hq=>hq.1.aj rfl,?_,?_⟩,?_⟩
 .refine(Ak rfl).mono ?_
  rintro _ w5 ⟨rfl,p5,s5,z5⟩;have ez:w4.drew.heap.size=w4.heap.size:=rfl;refine .inl ⟨_,rfl,⟨Fu.still s5,hs4.still s5⟩,?_,?_⟩
  .refine(ht w5 w0 K.a K.g _ t p c B b_ (JK.trans s5) (VU.still s5) p5 (JJ _ (RB ez)) (Xk.still s5)).mono ?_
   rintro _ w6 ⟨rfl,⟨n,hn,h6⟩,m6⟩;refine .inl ⟨_,_,_,_,rfl,aQ λw7 r7 s7 z7=>?_⟩;have kk:∀{b:Nat} {ty:TypeId} {cs:Array Value},Row w3 b ty cs->ty≠jW->¬SF K.a K.g (some t) b:=λhr hne hk=>by
    rcases low _ hk with e|e|e
    .exact na hr hne e
    .exact pz h2.aHh.now hr e
    .have:=hr.lt;omega
   refine⟨⟨((Fu.still s5).mod m6 (kk mu (by decide))).still s7,((hs4.still s5).mod m6 (kk hx3.row (by decide))).still s7⟩,aHb (g:=w6.heap.size) (o:=0) r7 λw8 r8 m8 z8=>?_⟩;have Jv:=m6.size;have OA:=s5.size;refine⟨w6.heap.size,rfl,rfl,by omega,r8,⟨n,hn,(h6.still s7).mod m8 λk hk e=>JL _ (by omega) hk⟩,Mod.trans (Mod.trans (sE.trans s5) m6 (λ_ h=>h.elim) (λ_ _ h=>h)) (s7.box (aV _) m8) (λ_ h=>h) (λ_ _ h=>h.elim)⟩
  .refine aQ λw9 r9 s9 z9=>⟨⟨(Fu.still s5).still s9,(hs4.still s5).still s9⟩,?_⟩
   refine(ht w9 w0 K.a K.g _ t p c B b_ ((JK.trans s5).trans s9) ((VU.still s5).still s9) (p5.still s9) (JJ _ (RB ez)) ((Xk.still s5).still s9)).mono ?_;rintro _ aO ⟨rfl,⟨n,hn,h10⟩,m10⟩;have OA:=s5.size;have eB:=r9.mod m10 (JL _ (by omega));refine .inl ⟨_,_,_,_,rfl,aHb (g:=w5.heap.size) (o:=0) eB λbh aHz m11 zG=>?_⟩;exact⟨w5.heap.size,rfl,rfl,by omega,aHz,⟨n,hn,h10.mod m11 λk hk e=>JL _ (by omega) hk⟩,Mod.trans (Mod.trans ((sE.trans s5).trans s9) m10 (λ_ h=>h.elim) (λ_ _ h=>h)) m11 (λ_ h=>h) (λj hj e=>by omega)⟩
 .refine aQ λbE gP fZ z12=>⟨⟨Fu.still fZ,hs4.still fZ⟩,(Ak rfl).mono ?_⟩
  have ez:w4.drew.heap.size=w4.heap.size:=rfl;rintro _ bw ⟨rfl,OX,iE,xT⟩;refine .inl ⟨_,rfl,⟨(Fu.still fZ).still iE,(hs4.still fZ).still iE⟩,?_⟩;refine(ht bw w0 K.a K.g _ t p c B b_ ((JK.trans fZ).trans iE) ((VU.still fZ).still iE) OX (JJ _ (by omega)) ((Xk.still fZ).still iE)).mono ?_;rintro _ bO ⟨rfl,⟨n,hn,mw⟩,m14⟩;have sJ:=(gP.still iE).mod m14 (JL _ (by omega));refine .inl ⟨_,_,_,_,rfl,aHb (g:=w4.drew.heap.size) (o:=0) sJ λb8 ri m15 JM=>?_⟩;exact⟨w4.heap.size,rfl,rfl,aV _,ri,⟨n,hn,mw.mod m15 λk hk e=>JL _ (by omega) hk⟩,Mod.trans (Mod.trans ((sE.trans fZ).trans iE) m14 (λ_ h=>h.elim) (λ_ _ h=>h)) m15 (λ_ h=>h) (λj hj e=>by omega)⟩
 rintro _ _ _ aHe ⟨rb,rfl,rfl,hrb,r16,⟨n,hn,aHH⟩,m16⟩;have m36:Mod (λk=>k=K.a\/k=K.g) w3 aHe:=Mod.trans m4 m16 (λ_ h=>.inl h) λk hk hS=>by
  rcases low k hS with e|e|e
  .exact .inl e
  .exact .inr e
  .omega
 obtain⟨ahd,hend⟩:=atd b_ aJO h2 hT m36 hn aHH;obtain⟨aF2,aF3,azW,_⟩:=ahd.fX;obtain⟨jb,azX⟩:=ahd.ia;refine⟨_,azW.aj rfl,_,azX.row.aj rfl,hend.mono ?_⟩;rintro _ cF ⟨⟨p1,n1,c1,p2,n2,c2,rfl⟩,Fv,g17,m17⟩;have aIe:=r16.mod m17 (r16.ne aHH.top (by decide));refine .inl ⟨_,_,_,_,_,_,rfl,aA (λh=>by cases h) (λ_=>?_)⟩;have aJV:=h.gone dP;have azY:=aJV.trans g17;obtain⟨k8,azZ⟩:=Fv.ia;have ap:∀{w:World} {s:Sh} {k:Nat} {ty:TypeId} {cs:Array Value},bB w w0 K s->Row w k ty cs->ty≠fQ->ty≠kP->ty≠pq->ty≠5->ty≠jW->¬Ft K w k:=λh hr a b c d e=>h.apart hr a b c d e;refine⟨_,Fv.cell λ_ _=>rfl,_,azZ.row.aj rfl,Fv.axE _ λdV h19 g19=>?_⟩;have tL:=aIe.mod g19.mod (ap Fv aIe (by decide) (by decide) (by decide) (by decide) (by decide));have az0:=azY.trans g19;have sF:Still dV dV.drew:=(Still.refl _).cy;have VV:=h19.still sF;obtain⟨x19,IW⟩:=VV.ia;obtain⟨az1,az2,N1,_⟩:=VV.fX;refine⟨λwq=>Row wq K.hb fQ ⟨gR K az1 az2 {s with T:=T'}⟩/\Row wq K.sb kP ⟨oT K x19 {s with T:=T'}⟩,⟨N1,IW.row⟩,_,λwq hq=>hq.1.aj rfl,_,λwq hq=>hq.1.aj rfl,_,_,_,λwq hq=>hq.2.aj rfl,?_⟩;refine aQ λeu aIr ni z20=>⟨⟨N1.still ni,IW.row.still ni⟩,?_⟩;have qs:=VV.still ni;have N2:aHV eu w0 K x19 {s with T:=T'}:=by obtain⟨xs,hs⟩:=IW.aHM;exact⟨IW.gS.still ni,⟨xs,hs.still ni⟩,IW.eS⟩
 have ahe:=az0.trans (h19.gone (sF.trans ni));have az3:w0.heap.size<=eu.heap.size:=kJ h0.size ahe.mod.size;have ahf:=(tL.still sF).still ni;refine qs.aeu az3 N2 (q:=⟨dV.drew.heap.size,0,none⟩) (u:=.slice p1 n1 c1) (v:=.slice p2 n2 c2) rfl rfl (aIr.aj rfl) (aIr.aj rfl) hb λp' c' eM m21 hst=>⟨?_,hst _ λeO Dm g22=>?_⟩
 .obtain⟨xs,hs⟩:=N2.aHM
  exact⟨(N1.still ni).mod m21 λe=>hs.aHg (N1.still ni) (by decide) e,N2.row.mod m21 λe=>hs.aHg N2.row (by decide) e⟩
 obtain⟨x22,az4⟩:=Dm.ia;have ahg:=ahe.trans g22;have zq:=ahf.mod g22.mod (ap qs ahf (by decide) (by decide) (by decide) (by decide) (by decide));have az5:Still w0 eO:=Mod.trans h0 ahg.mod (λ_ h=>h) λj hj hk=>by have:=(h.lt hk).1;omega
 refine⟨_,Dm.cell λ_ _=>rfl,_,az4.row.aj rfl,aA (λh=>by cases h) (λ_=>?_)⟩;refine⟨_,_,_,zq.aj rfl,zq.aj rfl,zq.aj rfl,(ap2 az5 Dm st out err ho he).mono ?_⟩;rintro _ pM ⟨rfl,h27,g27⟩;exact .inl ⟨rfl,rfl,h27,ahg.trans g27⟩
def ate{P:Program}{f:FuncId}{fn:Func}{c:Code}{args:List Value}{u:FrameMode}{w:World}{R:Ending->World->Prop}(pl:nX)(hf:P.funcs[f]?=some fn)(hb:fn.body=some c)
  (h:vc P pl c 1 (kL P fn.results.toList R) (nI fn.ntmps args) w):CallsD P f ⟨args⟩ u w λe u' w'=>u'=u/\R e w':=by
 refine callsD_of_wp hf hb ?_;have e:(Array.mk args)++Array.replicate (fn.ntmps-(Array.mk args).size) undef=⟨nI fn.ntmps args⟩:=by apply jF;simp[Cb]
 rw[e];refine ny (ds:=[]) c 1 _ _ w _ h (λl' w' _ hk=>?_) (λi l' w' _ hk=>hk.elim) (λl' w' hk=>?_) (λl' ch w' _ hk=>⟨rfl,hk⟩)
 .obtain⟨vs,h1,h2⟩:=o7 (ds:=[]) hk
  exact⟨rfl,_,h1,h2⟩
 .obtain⟨vs,h1,h2⟩:=o7 (ds:=[]) hk
  exact⟨rfl,_,h1,h2⟩
def ark(old:Option Addr)(IG II:Nat)(cap:Option Addr)(u:FrameMode)(w:World)(R:Ending->World->Prop)(aC:Yl old IG II cap w R):CallsD aM Kf #[.slice old IG II,.pointer cap] u w λe u' w'=>u'=u/\R e w':=
 ate {live:=[],lY:=[]} Tryz.func303 rfl (Eq.mp (α:=Yl old IG II cap w R) (by kernel_rfl) aC)
def IX:List (ag×List L.Pt)->List A.Vr->List A.Vr->Prop
 |[],V,V'=>V'=V
 |a::r,V,V'=>∃gs V1,Be V a.2 (.ok (gs,V1))/\(F.joined false gs).length<=10000/\A.kZ V1/\V1.length<900000/\a.1.length<=10000/\(A.i_ V1 a.1 (F.joined false gs)).2=0/\IX r (A.i_ V1 a.1 (F.joined false gs)).1 V'
def nj(h:bB w w0 K s){k:Nat}{ty:TypeId}{cs:Array Value}(hr:Row w k ty cs)(a:ty≠fQ:=by decide)(b:ty≠kP:=by decide)(c:ty≠pq:=by decide)(d:ty≠5:=by decide)(e:ty≠jW:=by decide):¬Ft K w k:=h.apart hr a b c d e
def ap3(b_:fJ w0)(h0:Still w0 w)(h:bB w w0 K s){l:List (ag×List L.Pt)}{p:Option Addr}{n c:Nat}{D:Nat->Prop}(hs:L.aHO.At w D l (.slice p n c))(hD:Kept D (Ft K w) w){V':List A.Vr}(hf:IX l s.V V')(hl:l.length<=10000):
  aq DB #[.pointer (some ⟨K.hb,0,none⟩),.slice p n c,.bool false] w (λe w'=>(∃q qD,e=.returned (.tuple #[.slice q V'.length qD,.bool true]))/\bB w' w0 K {s with V:=V'}/\cz (Ft K w) w (Ft K w') w'):=by
 obtain⟨rfl,hc⟩:=hs.len;apply Yd;refine aQ λw1 r1 s1 z1=>aA (λh=>by cases h) (λ_=>?_);have h1:=h.still s1;refine⟨λx w2=>∃(i:Nat) (Vi:List A.Vr),x=(i:Int)/\i<=l.length/\bB w2 w0 K {s with V:=Vi}/\cz (Ft K w) w (Ft K w2) w2/\Row w2 w.heap.size xe ⟨[.pointer (some ⟨K.hb,0,none⟩)]⟩/\IX (l.drop i) Vi V',λx _=>(l.length-x).toNat,⟨0,s.V,rfl,dK _,h1,h.gone s1,r1,hf⟩,?_⟩;rintro x _ w2 ⟨i,Vi,rfl,hi,h2,g2,r2,hfi⟩;have vU:Still w0 w2:=Mod.trans h0 g2.mod (λ_ h=>h) λj hj hk=>by have:=(h.lt hk).1;omega
 have jz:=g2.mod.size;refine aA (λhx=>?_) (λhx=>?_)
 .have hx:i<l.length:=by have:=aR hx;omega
  rw[qB hx]at hfi;obtain⟨gs,V1,ok,hjl,aHc,hV1,hnl,hse,yU⟩:=hfi;have hs2:=hs.mod g2.mod λj hj hk=>(hD j hj).2 hk;have hD2:=hD.gone g2;obtain⟨b,cs,rfl,OQ,⟨v,rfl,fM⟩,hcell⟩:=hs2.get (gW hx);obtain⟨wp,wc,rfl⟩:=fM.form;have cl:∀(j:Nat) (u:Value),([Value.string (S l[i].1),.slice wp l[i].2.length wc]:List Value)[j]?=some u->w2.cell? ((b.add (Int.toNat (i:Int)*2)).add j)=some u:=λj u hu=>by rw[b6];exact hcell j u hu
  have c0:w2.cell? (b.add (Int.toNat (i:Int)*2))=some (.string (S l[i].1)):=cl 0 _ rfl;refine⟨by omega,by omega,_,_,_,_,c0,cl 1 _ rfl,aQ λw3 r3 s3 z3=>aHb (g:=w2.heap.size) (o:=0) r3 λw4 r4 m4 z4=>?_⟩;have jd:Still w2 w4:=s3.box (aV _) m4;have h4:=h2.still jd;have g24:=h2.gone jd;have q4:=r2.still jd;refine⟨_,q4.aj rfl,_,_,_,r4.aj rfl,(aez b_ (vU.trans jd) h4 (fM.still jd) (hD2.gone g24) ok false hjl).mono ?_⟩;rintro _ w5 ⟨rfl,h5,g5⟩;have q5:=q4.mod g5.mod (nj h4 q4);have r5:=r4.mod g5.mod (nj h4 r4);have sD:Still w5 w5.drew:=(Still.refl _).cy;have h5D:=h5.still sD;obtain⟨vp,vc,hh5,hv5⟩:=h5D.fX;have OW:=(g2.trans g24).trans g5;refine .inl ⟨_,_,rfl,aA (λh=>by cases h) (λ_=>?_)⟩;refine⟨λwq=>Row wq w.heap.size xe ⟨[.pointer (some ⟨K.hb,0,none⟩)]⟩/\Row wq K.hb fQ ⟨gR K vp vc {s with V:=V1}⟩/\Row wq w2.heap.size 208 ⟨[.string (S l[i].1),.slice wp l[i].2.length wc]⟩,⟨q5.still sD,hh5,r5.still sD⟩,_,λwq hq=>hq.1.aj rfl,_,_,_,λwq hq=>hq.2.1.aj rfl,_,λwq hq=>hq.2.2.aj rfl,?_⟩;refine(A.adu hv5 aHc hV1 l[i].1 (F.joined false gs) (by omega)).mono ?_;rintro _ w6 ⟨q,qD,rfl,Fo,s6⟩;rw[hse];refine .inl ⟨_,_,_,_,rfl,λod vL vC ex eu=>od=q/\vL=(A.i_ V1 l[i].1 (F.joined false gs)).1.length/\vC=qD/\ex=0/\eu=w6,⟨λb wq=>b=false/\wq=w6,aA (λ_=>⟨rfl,rfl⟩) (λ_=>⟨rfl,rfl⟩),?_⟩,?_⟩
  .rintro _ _ w7 ⟨rfl,rfl⟩
   exact aA (λh=>by cases h) (λ_=>⟨rfl,rfl,rfl,rfl,rfl⟩)
  rintro _ _ _ _ _ w7 ⟨rfl,rfl,rfl,rfl,rfl⟩;have h7:=h5D.still s6;have q7:=(q5.still sD).still s6;refine⟨_,q7.aj rfl,(Tx w7 K).mono ?_⟩;rintro _ w8 ⟨rfl,rfl⟩;refine .inl ⟨_,rfl,aA (λh=>by cases h) (λ_=>⟨_,q7.aj rfl,h7.NR Fo λw9 h9 g9 m9=>?_⟩)⟩;rw[wrap_i64 (by omega) (by omega)];have q9:=q7.mod g9.mod (nj h7 q7);exact⟨⟨i+1,_,by omega,by omega,h9,(OW.trans (h5.gone (sD.trans s6))).trans g9,q9,yU⟩,by dsimp only;omega⟩
 .have hx:i=l.length:=by have:=aX hx;omega
  subst hx;rw[ye]at hfi;have hfi:V'=Vi:=hfi;subst hfi;obtain⟨vp,vc,hh,hv⟩:=h2.fX;exact⟨_,r2.aj rfl,_,_,_,hh.aj rfl,⟨_,_,rfl⟩,h2,g2⟩
def ap4(h:bB w w0 K s){p:Option Addr}{c:Nat}:
  aq DB #[.pointer (some ⟨K.hb,0,none⟩),.slice p 0 c,.bool true] w (λe w'=>(∃q qD,e=.returned (.tuple #[.slice q s.V.length qD,.bool true])/\A.cK w' q s.V.length qD s.V)/\bB w' w0 K s/\cz (Ft K w) w (Ft K w') w'):=by
 apply Yd;refine aQ λw1 r1 s1 z1=>aA (λ_=>?_) (λh=>by cases h);have h1:=h.still s1;obtain⟨vp,vc,hh,hv⟩:=h1.fX;refine⟨_,r1.aj rfl,_,_,_,hh.aj rfl,λx w2=>x=0/\w2=w1,λ_ _=>0,⟨rfl,rfl⟩,?_⟩;rintro _ _ w2 ⟨rfl,rfl⟩;refine aA (λhx=>by simp at hx) (λ_=>⟨_,r1.aj rfl,_,_,_,hh.aj rfl,?_⟩);refine(ark vp s.V.length vc (some ⟨w.heap.size,0,none⟩) .returning w2 (λe w'=>e=.returned (.tuple #[])/\bB w' w0 K s/\cz (Ft K w) w (Ft K w') w'/\A.cK w' vp s.V.length vc s.V) ?_).mono ?_
 .refine⟨_,r1.aj rfl,h1.NR hv λw3 h3 g3 m3=>⟨rfl,h3,(h.gone s1).trans g3,?_⟩⟩
  exact cK.aJH hv g3.mod λh0 a ha=>h1.Ue hv h0 a ha
 .rintro _ u w3 ⟨rfl,rfl,h3,g3,tR⟩
  exact⟨⟨_,rfl⟩,rfl,⟨_,_,rfl,tR⟩,h3,g3⟩
def aH8:Tryz.prog.underlying 294=some (.map cm 292):=rfl
def au5(w:World):(zeroValue 292).run aM w=.ok .nilFunc w:=rfl
def CZ:List ag:=[[58],[98,114,101,97,107],[99,111,110,116,105,110,117,101],[114,101,116,117,114,110],[101,120,105,116],[101,120,112,111,114,116],[114,101,97,100,111,110,108,121],[117,110,115,101,116],[115,104,105,102,116],[115,101,116],[99,100],[112,119,100],[101,118,97,108],[114,101,97,100]]
def au6:aq RR #[] w (λe w'=>e=.returned (.map (some w.heap.size))/\(∃l,oM w' w.heap.size l/\l.map Prod.fst=CZ)/\Still w w'):=by apply ann;refine nS ?_;have s1:Still w (w.alloc (.map #[] 0)):=(Mod.refl _ _).alloc _;have f1:=oM.new w;generalize w.alloc (.map #[] 0)=w1 at*;refine dF aH8 f1 (by decide) rfl λw2 f2 m2 z2=>?_;refine dF aH8 f2 (by decide) rfl λw3 f3 m3 z3=>?_;refine dF aH8 f3 (by decide) rfl λw4 f4 m4 z4=>?_;refine dF aH8 f4 (by decide) rfl λw5 f5 m5 z5=>?_;refine dF aH8 f5 (by decide) rfl λw6 f6 m6 z6=>?_;refine dF aH8 f6 (by decide) rfl λw7 f7 m7 z7=>?_;refine dF aH8 f7 (by decide) rfl λw8 f8 m8 z8=>?_;refine dF aH8 f8 (by decide) rfl λw9 f9 m9 z9=>?_;refine dF aH8 f9 (by decide) rfl λaO f10 m10 aIs=>?_;refine dF aH8 f10 (by decide) rfl λbh f11 m11 zG=>?_;refine dF aH8 f11 (by decide) rfl λbE f12 m12 z12=>?_;refine dF aH8 f12 (by decide) rfl λbw f13 m13 xT=>?_;refine dF aH8 f13 (by decide) rfl λbO f14 m14 OY=>?_;refine dF aH8 f14 (by decide) rfl λb8 f15 m15 JM=>?_;have s:=(((((((((((((s1.box (aV _) m2).box (aV _) m3).box (aV _) m4).box (aV _) m5).box (aV _) m6).box (aV _) m7).box (aV _) m8).box (aV _) m9).box (aV _) m10).box (aV _) m11).box (aV _) m12).box (aV _) m13).box (aV _) m14).box (aV _) m15;exact⟨rfl,⟨_,f15,rfl⟩,s⟩
def Ve(l:List (ag×List L.Pt))(f:List ag)(s s':Sh):Prop:=∀(w w0:World) (K:Kx) (D:Nat->Prop) (p:Option Addr) (n c:Nat) (fp:Option Addr) (fc B:Nat),fJ w0->Still w0 w->bB w w0 K s->L.aHO.At w D l (.slice p n c)->Kept D (Ft K w) w->aS w B cm 1 (.slice fp f.length fc) f.length (strs f)->
 aq Qv #[.pointer (some ⟨K.hb,0,none⟩),.slice p n c,.slice fp f.length fc] w (λe w'=>e=.returned (.tuple #[])/\bB w' w0 K s'/\cz (Ft K w) w (Ft K w') w')
def ap5{l:List (ag×List L.Pt)}{V':List A.Vr}(hf:IX l s.V V')(hl:l.length<=10000):Ve l [] s {s with V:=V',st:=if 0>s.last then 0 else s.last}:=by intro w w0 K D p n c fp fc B b_ h0 h hs hD _;apply Yo;refine aA (λ_=>(ap3 b_ h0 h hs hD hf hl).mono ?_) (λh=>by simp at h);rintro _ w1 ⟨⟨q,qD,rfl⟩,h1,g1⟩;refine .inl ⟨_,_,_,_,rfl,aA (λ_=>?_) (λh=>by cases h)⟩;exact⟨_,h1.cell λ_ _=>rfl,h1.Is _ λw2 h2 g2 m2=>⟨rfl,h2,g1.trans g2⟩⟩
def atf(w:World):(zeroValue Sb).run aM w=.ok (.agg #[.int .i64 0,.bool false,.string (S []),.slice none 0 0,.slice none 0 0,.slice none 0 0,.slice none 0 0,.slice none 0 0]) w:=rfl
def awx:Tryz.prog.underlying 107=some (.map cm Sb):=rfl
def acz{f0:ag}{fr:List ag}(hn:f0∉CZ)(hlen:f0.length<=1000){st:Int}{out err:ag}{T':Tree}(ht:aJc s.T (f0::fr) s.bu st out err T')(hT:k4 T')(hb:0<s.cO)(hfl:dG (f0::fr)<=3000)(hin:s.bu.length<=50000)(Xh:s.V.length<900000)(Xi:∀v∈s.V,v.exp=false)(ho:s.out.length+out.length<=1000000000)(he:s.err.length+err.length<=1000000):
  Ve [] (f0::fr) s {s with T:=T',cO:=s.cO-1,st:=st,out:=s.out++out,err:=s.err++err}:=by
 intro w w0 K D p n c fp fc B b_ h0 h hs hD hf;obtain⟨rfl,hc⟩:=hs.len;obtain⟨gf,rfl,hcell⟩:=hf.xO (j:=0) (by simp);have hcell:w.cell? ((Addr.mk gf 0 none).add (0*1))=some (.string (S f0)):=hcell;have hn':∀l:List (ag×Value),l.map Prod.fst=CZ->(l.all λx=>!decide (x.1=f0))=true:=λl hl=>by
  rw[pY];intro x hx;have:x.1∈CZ:=by rw[<-hl];exact dY.2 ⟨x,hx,rfl⟩
  simp only[F6,aJZ];rintro rfl;exact hn this
 apply Yo;refine aA (λh=>absurd (aR h) (by simp;omega)) (λ_=>?_);have sD:Still w w.drew:=(Still.refl _).cy;refine⟨λwq=>wq.cell? ((Addr.mk gf 0 none).add (0*1))=some (.string (S f0)),sD.cell hcell,by decide,by simp,_,λwq hq=>hq,au6.mono ?_⟩;rintro _ w3 ⟨rfl,⟨l,fl,hl⟩,s3⟩;have aHY:=sD.trans s3;have c3:w3.cell? ((Addr.mk gf 0 none).add (0*1))=some (.string (S f0)):=aHY.cell hcell;refine .inl ⟨_,rfl,rfl,c3,aen aH8 au5 fl hlen (hn' l hl) ?_⟩;have sE:Still w3 w3.drew:=(Still.refl _).cy;have h3:=h.still (aHY.trans sE);obtain⟨vp,vc,mu,_⟩:=h3.fX;have look:∀{w9:World},Still w3.drew w9->(Instr.lookup 107 (.map (some K.fm)) (.string (S f0)) true).run aM w9=.ok (.tuple #[.agg #[.int .i64 0,.bool false,.string (S []),.slice none 0 0,.slice none 0 0,.slice none 0 0,.slice none 0 0,.slice none 0 0],.bool false]) w9:=λhst=>by
  rcases Ee wX awx (atf _) ((h3.fns).still hst) (rR rfl (qJ hlen)) (by simp) true with⟨v,h1,_⟩|⟨_,h2⟩
  .cases h1
  .exact h2
 refine⟨λbody isF w8=>isF=false/\Still w3 w8,⟨λwq=>Row wq K.hb fQ ⟨gR K vp vc s⟩/\wq.cell? ((Addr.mk gf 0 none).add (0*1))=some (.string (S f0)),⟨mu,sE.cell c3⟩,_,rfl,λwq hq=>hq.1.aj rfl,by decide,by simp,_,λwq hq=>hq.2,?_,?_⟩,?_⟩
 .refine⟨_,_,_,_,_,_,_,_,_,_,_,_,_,_,_,_,_,_,_,look (Still.refl _),aQ λw4 r4 s4 z4=>⟨⟨mu.still s4,s4.cell (sE.cell c3)⟩,aHb (g:=w3.drew.heap.size) (o:=0) r4 λw5 r5 m5 z5=>⟨rfl,(sE.trans s4).box (aV _) m5⟩⟩⟩
 .refine aQ λw4 r4 s4 z4=>⟨⟨mu.still s4,s4.cell (sE.cell c3)⟩,_,_,_,_,_,_,_,_,_,_,_,_,_,_,_,_,_,_,_,look s4,aHb (g:=w3.drew.heap.size) (o:=0) r4 λw5 r5 m5 z5=>⟨rfl,(sE.trans s4).box (aV _) m5⟩⟩
 rintro body _ _ w8 ⟨rfl,s8⟩;have Fw:=aHY.trans s8;have h8:=h.still Fw;refine⟨λq qn qD b bh=>b=true/\qn=s.V.length/\A.cK bh q qn qD s.V/\bB bh w0 K s/\cz (Ft K w8) w8 (Ft K bh) bh,aA (λ_=>(ap4 h8).mono ?_) (λh=>by cases h),?_⟩
 .rintro _ w9 ⟨⟨q,qD,rfl,JI⟩,h9,g9⟩
  exact .inl ⟨_,_,_,_,rfl,rfl,rfl,JI,h9,g9⟩
 rintro q _ qD _ _ bh ⟨rfl,rfl,JI,h11,g11⟩;have ahh:=(h.gone Fw).trans g11;have az6:Still w0 bh:=Mod.trans h0 ahh.mod (λ_ h=>h) λj hj hk=>by have:=(h.lt hk).1;omega
 have hf8:=hf.still Fw;have VW:aS bh B cm 1 (.slice (some ⟨gf,0,none⟩) (f0::fr).length fc) (f0::fr).length (strs (f0::fr)):=hf8.mod g11.mod λk hk hF=>by obtain⟨cur,hr⟩:=hf8.typed hk;exact (nj h8 hr) hF
 refine aA (λh=>by cases h) (λ_=>aA (λh=>by cases h) (λ_=>aA (λh=>by cases h) (λ_=>?_)));refine(apg b_ az6 h11 VW hfl hin JI Xh Xi ht hT hb ho he).mono ?_;rintro _ bw ⟨rfl,xV,g13⟩;exact .inl ⟨rfl,rfl,xV,ahh.trans g13⟩
def Fx(fn:FuncId)(n:L.Nd)(s s':Sh):Prop:=∀(w w0:World) (K:Kx) (D:Nat->Prop) (cs:List Value),fJ w0->Still w0 w->bB w w0 K s->L.ey w D n cs->Kept D (Ft K w) w->
 aq fn #[.pointer (some ⟨K.hb,0,none⟩),.agg ⟨cs⟩] w (λe w'=>e=.returned (.tuple #[])/\bB w' w0 K s'/\cz (Ft K w) w (Ft K w') w')
abbrev aHN(n:L.Nd)(s s':Sh):Prop:=Fx DI n s s'
def anC:dD aM PU=true:=by kernel_rfl
def yp(h:bB w w0 K s)(h0:Still w0 w){w':World}(g:cz (Ft K w) w (Ft K w') w'):Still w0 w':=Mod.trans h0 g.mod (λ_ h=>h) λj hj hk=>by have:=(h.lt hk).1;omega
def SX{n:L.Nd}{f:List ag}{V1:List A.Vr}{s2 s3:Sh}{x1:sA}{nm:ag}(hf:vB s.T n.ws s.V f V1 0)(hsz:dG f<=10000)(aJL:n.ws.length<=10000)(hrl:n.rs.length<=10000)(he:s.err.length<=900000)
  (hr:xz n.rs {s with last:=-1,V:=V1} ⟨s.bu,[],false,false⟩ s2 x1)(hc:Ve n.gA f {s2 with bu:=x1.bu,out:=if x1.is then[]else s2.out} s3)
  (hx:x1.is=true->0<s3.cO/\sx x1.dst nm/\nm≠[46]/\Lib.lastIndexByte (S (47::nm)) 47=0/\((gi s3.T (47::nm)).d++s3.out).length<=50000):
  Fx BP n s (CO x1 s2 s3 nm):=by
 intro w w0 K D cs b_ h0 h hn hD;obtain⟨pw,cw,pa,ca,pr,cr,po,co,pk,ck,rfl,hw,ha,hrd,ho,hk⟩:=hn.outs;apply Yc;refine aQ λw1 r1 s1 z1=>aQ λw2 r2 s2' z2=>?_;have q1:=r1.still s2';have dP:=s1.trans s2';have h2:=h.still dP;have aJV:=h.gone dP;refine⟨_,q1.aj rfl,h2.setLast (-1) λw3 h3 g3 m3=>?_⟩;have q3:=q1.mod g3.mod (nj h2 q1);have n3:=r2.mod g3.mod (nj h2 r2);have jB:=aJV.trans g3;have D3:=hD.gone jB;have dk:∀{w':World},cz (Ft K w) w (Ft K w') w'->∀k,D k->¬Ft K w k:=λg k hk=>(hD k hk).2;refine⟨_,q3.aj rfl,_,_,_,n3.aj rfl,?_⟩;refine(Z1 b_ (yp h h0 jB) h3 (hw.mod jB.mod λk hk=>(hD k hk).2) D3 hf hsz aJL he).mono ?_;rintro _ w4 ⟨h4,g4⟩;rw[aL rfl]at h4;obtain⟨o,oc,rfl,v_,h4⟩:=h4;have Xc:=jB.trans g4;have q4:=q3.mod g4.mod (nj h3 q3);have n4:=n3.mod g4.mod (nj h3 n3);refine .inl ⟨_,_,_,_,rfl,aQ λw5 r5 s5 z5=>aHb (g:=w4.heap.size) (o:=0) r5 λw6 r6 m6 z6=>?_⟩;have je:Still w4 w6:=s5.box (aV _) m6;have h6:=h4.still je;have OV:=h4.gone je;have aJW:=Xc.trans OV;have q6:=q4.still je;have n6:=n4.still je;have of6:=v_.still je;refine aA (λ_=>?_) (λh=>by cases h);refine⟨_,q6.aj rfl,_,_,_,n6.aj rfl,?_⟩;refine(ap1 b_ (yp h h0 aJW) h6 (hrd.mod aJW.mod λk hk=>(hD k hk).2) (hD.gone aJW) hr hrl hx (cap:=[.pointer (some ⟨w.heap.size,0,none⟩),.pointer (some ⟨w1.heap.size,0,none⟩),.pointer (some ⟨w4.heap.size,0,none⟩)]) anC ?_).mono ?_
 .intro w7 h7 g7
  have aKi:=aJW.trans g7;have q7:=q6.mod g7.mod (nj h6 q6);have n7:=n6.mod g7.mod (nj h6 n6);have f7:=r6.mod g7.mod (nj h6 r6);have of7:=of6.mod g7.mod λk hk hF=>by obtain⟨cur,hr⟩:=of6.typed hk;exact (nj h6 hr) hF
  apply aj9;refine⟨_,q7.aj rfl,_,_,_,n7.aj rfl,_,_,_,f7.aj rfl,?_⟩;refine(hc w7 w0 K D pa n.gA.length ca o oc _ b_ (yp h h0 aKi) h7 (ha.mod aKi.mod λk hk=>(hD k hk).2) (hD.gone aKi) of7).mono ?_;rintro _ w8 ⟨rfl,h8,g8⟩;exact .inl ⟨rfl,rfl,h8,g8⟩
 .rintro _ w8 ⟨rfl,h8,g8⟩
  exact .inl ⟨rfl,rfl,h8,aJW.trans g8⟩
def arl{n:L.Nd}{f:List ag}{V1:List A.Vr}{k:Nat}(hf:vB s.T n.ws s.V f V1 k)(hk0:k≠0)(hsz:dG f<=10000)(aJL:n.ws.length<=10000)(he:s.err.length<=900000):
  Fx BP n s (Vd {s with last:=-1,V:=V1} k):=by
 intro w w0 K D cs b_ h0 h hn hD;obtain⟨pw,cw,pa,ca,pr,cr,po,co,pk,ck,rfl,hw,ha,hrd,ho,hk⟩:=hn.outs;apply Yc;refine aQ λw1 r1 s1 z1=>aQ λw2 r2 s2' z2=>?_;have q1:=r1.still s2';have dP:=s1.trans s2';have h2:=h.still dP;have aJV:=h.gone dP;refine⟨_,q1.aj rfl,h2.setLast (-1) λw3 h3 g3 m3=>?_⟩;have q3:=q1.mod g3.mod (nj h2 q1);have n3:=r2.mod g3.mod (nj h2 r2);have jB:=aJV.trans g3;refine⟨_,q3.aj rfl,_,_,_,n3.aj rfl,?_⟩;refine(Z1 b_ (yp h h0 jB) h3 (hw.mod jB.mod λk hk=>(hD k hk).2) (hD.gone jB) hf hsz aJL he).mono ?_;rintro _ w4 ⟨h4,g4⟩;rw[aG hk0]at h4;obtain⟨rfl,h4⟩:=h4;refine .inl ⟨_,_,_,_,rfl,aQ λw5 r5 s5 z5=>aHb (g:=w4.heap.size) (o:=0) r5 λw6 r6 m6 z6=>?_⟩;have je:Still w4 w6:=s5.box (aV _) m6;exact aA (λh=>by cases h) (λ_=>⟨rfl,h4.still je,(jB.trans g4).trans (h4.gone je)⟩)
def E1(k:Int):FuncId:=if k=3 then F3 else if k=2 then Qm else if k=1 then F4 else BP
def EI{n:L.Nd}{s':Sh}(hk:n.k=3\/n.k=2\/n.k=1\/n.k=0)(hw:s.way=0)(hf:0<s.fuel)(h:Fx (E1 n.k) n {s with fuel:=s.fuel-1} s'):aHN n s s':=by
 intro w w0 K D cs b_ h0 hs hn hD;have hn0:=hn;obtain⟨pw,cw,pa,ca,pr,cr,po,co,pk,ck,rfl,sN,ha,hrd,ho,hks⟩:=hn.outs;apply ak8;refine aQ λw1 r1 s1 z1=>aQ λw2 r2 s2' z2=>?_;have dP:=s1.trans s2';have h2:=hs.still dP;have q2:=r1.still s2';obtain⟨x,hx⟩:=h2.ia;have hfl:=hx.eS.2.2;refine⟨_,q2.aj rfl,_,h2.cell λ_ _=>rfl,aA (λhb=>absurd hw (by simpa using hb)) (λ_=>?_)⟩;refine⟨_,q2.aj rfl,_,h2.cell λ_ _=>rfl,_,hx.row.aj rfl,aA (λhb=>by have:=aR hb;omega) (λ_=>?_)⟩;refine⟨_,q2.aj rfl,_,h2.cell λ_ _=>rfl,_,hx.row.aj rfl,?_⟩;have ew:i64.wrap ((s.fuel:Int)-1)=((s.fuel-1:Nat):Int):=wI
 try dsimp only[zR]
 rw[ew];refine h2.awm (s.fuel-1) (by omega) λw3 h3 g3=>?_;have q3:=q2.mod g3.mod (nj h2 q2);have n3:=r2.mod g3.mod (nj h2 r2);have jB:=(hs.gone dP).trans g3;have hn3:=hn0.mod jB.mod λk hk=>(hD k hk).2;have run:=h w3 w0 K D _ b_ (yp hs h0 jB) h3 hn3 (hD.gone jB);refine⟨_,n3.aj rfl,?_⟩;rcases hk with hk|hk|hk|hk
 .refine aA (λ_=>?_) (λhb=>absurd hk (aX hb))
  refine⟨_,q3.aj rfl,_,_,_,_,_,_,_,_,_,_,_,_,_,_,_,_,_,_,n3.aj rfl,n3.aj rfl,n3.aj rfl,n3.aj rfl,n3.aj rfl,n3.aj rfl,n3.aj rfl,n3.aj rfl,?_⟩;rw[show E1 n.k=F3 by rw[hk];rfl]at run;refine run.mono ?_;rintro _ w4 ⟨rfl,h4,g4⟩;exact .inl ⟨rfl,rfl,h4,jB.trans g4⟩
 .refine aA (λhb=>by have:=aR hb;omega) (λ_=>aA (λ_=>?_) (λhb=>absurd hk (aX hb)))
  refine⟨_,q3.aj rfl,_,_,_,_,_,_,_,_,_,_,_,_,_,_,_,_,_,_,n3.aj rfl,n3.aj rfl,n3.aj rfl,n3.aj rfl,n3.aj rfl,n3.aj rfl,n3.aj rfl,n3.aj rfl,?_⟩;rw[show E1 n.k=Qm by rw[hk];rfl]at run;refine run.mono ?_;rintro _ w4 ⟨rfl,h4,g4⟩;exact .inl ⟨rfl,rfl,h4,jB.trans g4⟩
 .refine aA (λhb=>by have:=aR hb;omega) (λ_=>aA (λhb=>by have:=aR hb;omega) (λ_=>aA (λ_=>?_) (λhb=>absurd hk (aX hb))))
  refine⟨_,q3.aj rfl,_,_,_,_,_,_,_,_,_,_,_,_,_,_,_,_,_,_,n3.aj rfl,n3.aj rfl,n3.aj rfl,n3.aj rfl,n3.aj rfl,n3.aj rfl,n3.aj rfl,n3.aj rfl,?_⟩;rw[show E1 n.k=F4 by rw[hk];rfl]at run;refine run.mono ?_;rintro _ w4 ⟨rfl,h4,g4⟩;exact .inl ⟨rfl,rfl,h4,jB.trans g4⟩
 .refine aA (λhb=>by have:=aR hb;omega) (λ_=>aA (λhb=>by have:=aR hb;omega) (λ_=>aA (λhb=>by have:=aR hb;omega) (λ_=>aA (λhb=>by have:=aR hb;omega) (λ_=>aA (λ_=>?_) (λhb=>absurd hk (aX hb))))))
  refine⟨_,q3.aj rfl,_,_,_,_,_,_,_,_,_,_,_,_,_,_,_,_,_,_,n3.aj rfl,n3.aj rfl,n3.aj rfl,n3.aj rfl,n3.aj rfl,n3.aj rfl,n3.aj rfl,n3.aj rfl,?_⟩;rw[show E1 n.k=BP by rw[hk];rfl]at run;refine run.mono ?_;rintro _ w4 ⟨rfl,h4,g4⟩;exact .inl ⟨rfl,rfl,h4,jB.trans g4⟩
def Dn:List L.Nd->Sh->Sh->Prop
 |[],s,s'=>s'=s
 |n::r,s,s'=>∃s1,aHN n s s1/\Dn r s1 s'
def Dn.append{l m:List L.Nd}{s s1 s2:Sh}(h:Dn l s s1)(h2:Dn m s1 s2):Dn (l++m) s s2:=by
 induction l generalizing s with
 |nil=>obtain rfl:=h;exact h2
 |cons n r ih=>obtain⟨t,h1,h3⟩:=h;exact⟨t,h1,ih h3⟩
def adz{D:Nat->Prop}{l:List L.Nd}{p:Option Addr}{n c i:Nat}(h:L.vR.At w D l (.slice p n c))(hi:i<l.length):∃b pw cw pa ca pr cr po co pk ck,p=some b/\D b.block/\L.ey w D l[i] (L.aHJ l[i] (.slice pw l[i].ws.length cw) (.slice pa l[i].gA.length ca) (.slice pr l[i].rs.length cr) (.slice po l[i].os.length co) (.slice pk l[i].ks.length ck))/\L.aH7 w (b.add (i*8)) (L.aHJ l[i] (.slice pw l[i].ws.length cw) (.slice pa l[i].gA.length ca) (.slice pr l[i].rs.length cr) (.slice po l[i].os.length co) (.slice pk l[i].ks.length ck)):=by obtain⟨b,cs,h1,h2,h3,h4⟩:=h.get (gW hi);have h3':=h3;obtain⟨pw,cw,pa,ca,pr,cr,po,co,pk,ck,rfl,_⟩:=h3'.outs;exact⟨b,pw,cw,pa,ca,pr,cr,po,co,pk,ck,h1,h2,h3,h4⟩
def awy{n:L.Nd}{s':Sh}(h:Dn n.ks (if n.ks.length=0 then{s with st:=0}else s) s')(hl:n.ks.length<=100000):Fx F3 n s s':=by
 intro w w0 K D cs b_ h0 hs hn hD;have hn0:=hn;obtain⟨pw,cw,pa,ca,pr,cr,po,co,pk,ck,rfl,sN,ha,hrd,ho,hks⟩:=hn.outs;apply ak_;refine aQ λw1 r1 s1 z1=>?_;have h1:=hs.still s1;refine⟨λw3=>bB w3 w0 K (if n.ks.length=0 then{s with st:=0}else s)/\cz (Ft K w) w (Ft K w3) w3/\Row w3 w.heap.size Sb ⟨L.aHJ n (.slice pw n.ws.length cw) (.slice pa n.gA.length ca) (.slice pr n.rs.length cr) (.slice po n.os.length co) (.slice pk n.ks.length ck)⟩,⟨_,_,_,r1.aj rfl,aA (λhb=>?_) (λhb=>?_)⟩,?_⟩
 .have hb:n.ks.length=0:=by have:=aR hb;omega
  refine h1.Is 0 λw2 h2 g2 m2=>?_;rw[aL hb];exact⟨h2,(hs.gone s1).trans g2,r1.mod g2.mod (nj h1 r1)⟩
 .have hb:¬n.ks.length=0:=by have:=aX hb;omega
  rw[aG hb];exact⟨h1,hs.gone s1,r1⟩
 rintro _ w3 ⟨h3,g3,r3⟩;refine⟨_,_,_,r3.aj rfl,λx w4=>∃(i:Nat) (si:Sh),x=(i:Int)/\i<=n.ks.length/\bB w4 w0 K si/\cz (Ft K w) w (Ft K w4) w4/\Dn (n.ks.drop i) si s',λx _=>(n.ks.length-x).toNat,⟨0,_,rfl,dK _,h3,g3,h⟩,?_⟩;rintro x _ w4 ⟨i,si,rfl,hi,h4,g4,aJP⟩;refine aA (λhx=>?_) (λhx=>?_)
 .have hx:i<n.ks.length:=by have:=aR hx;omega
  rw[qB hx]at aJP;obtain⟨s1',hex,yU⟩:=aJP;obtain⟨b,qw,dw,qa,da,qr,dr,qo,dq,qk,dk,rfl,OQ,hnd,hcell⟩:=adz (hks.mod g4.mod λk hk=>(hD k hk).2) hx;have cl:∀(j:Nat) (u:Value),(L.aHJ n.ks[i] (.slice qw n.ks[i].ws.length dw) (.slice qa n.ks[i].gA.length da) (.slice qr n.ks[i].rs.length dr) (.slice qo n.ks[i].os.length dq) (.slice qk n.ks[i].ks.length dk))[j]?=some u->w4.cell? ((b.add (Int.toNat (i:Int)*8)).add j)=some u:=λj u hu=>by rw[b6];exact hcell j u hu
  have c0:w4.cell? (b.add (Int.toNat (i:Int)*8))=some (.int .i64 n.ks[i].k):=cl 0 _ rfl;refine⟨by omega,by omega,_,_,_,_,_,_,_,_,_,_,_,_,_,_,_,_,_,_,c0,cl 1 _ rfl,cl 2 _ rfl,cl 3 _ rfl,cl 4 _ rfl,cl 5 _ rfl,cl 6 _ rfl,cl 7 _ rfl,?_⟩;refine aQ λw5 r5 s5 z5=>aHb (g:=w4.heap.size) (o:=0) r5 λw6 r6 m6 z6=>?_;have je:Still w4 w6:=s5.box (aV _) m6;have aJW:=g4.trans (h4.gone je);refine⟨_,_,_,_,_,_,_,_,_,_,_,_,_,_,_,_,_,_,r6.aj rfl,r6.aj rfl,r6.aj rfl,r6.aj rfl,r6.aj rfl,r6.aj rfl,r6.aj rfl,r6.aj rfl,?_⟩;refine(hex w6 w0 K D _ b_ (yp hs h0 aJW) (h4.still je) (hnd.still je) (hD.gone aJW)).mono ?_;rintro _ w7 ⟨rfl,h7,g7⟩;rw[wrap_i64 (by omega) (by omega)];exact .inl ⟨rfl,⟨i+1,s1',by omega,by omega,h7,aJW.trans g7,yU⟩,by dsimp only;omega⟩
 .have hx:i=n.ks.length:=by have:=aX hx;omega
  subst hx;rw[ye]at aJP;obtain rfl:s'=si:=aJP;exact⟨rfl,h4,g4⟩
def AN(s t:Sh):Sh:={s with T:=t.T,fuel:=t.fuel,tu:=t.tu,err:=t.err,cO:=t.cO}
def Kx.sub(K:Kx)(hb pb fm:Nat):Kx:={K with hb:=hb,pb:=pb,fm:=fm}
def afu{hb pb fm k:Nat}:Fc (K.sub hb pb fm) w k↔Fc K w k:=Iff.rfl
def bB.beside{t:Sh}{hb pb fm:Nat}(h:bB w w0 (K.sub hb pb fm) t){vp:Option Addr}{vc:Nat}(hh:Row w K.hb fQ ⟨gR K vp vc s⟩)(hv:A.cK w vp s.V.length vc s.V)(hp:iM w K.pb K.a)(hf:dM w K.fm [])(hl:w0.heap.size<=K.hb)(hg:K.g≠K.fm):bB w w0 K (AN s t):=by obtain⟨x,hx⟩:=h.ia;exact⟨⟨h.rE,hp,hf,⟨vp,vc,hh,hv⟩,⟨x,hx.gS,hx.aHM,hx.eS⟩,⟨hl,h.low.2⟩,hg⟩,h.aHh⟩
def oU(sb pb:Nat)(vp:Option Addr)(n vc:Nat)(st:Int)(fm:Nat)(i o:ag)(way loops last:Int):List Value:=
 [.pointer (some ⟨sb,0,none⟩),.pointer (some ⟨pb,0,none⟩),.string (S []),.slice vp n vc,.slice none 0 0,.int .i64 st,.map (some fm),.string (S i),.string (S o),.int .i64 way,.int .i64 0,.int .i64 loops,.int .i64 0,.int .i64 last]
set_option maxHeartbeats 2000000 in
def atg(b_:fJ w0)(h0:Still w0 w)(h:bB w w0 K s)(aHD:ag){t:Sh}{f:FuncId}{cap:List Value}(hc:dD aM f=true)(he:t.tu≠220)
  (Jy:∀w1 hb pb fm,Still w w1->w.heap.size<=hb->bB w1 w0 (K.sub hb pb fm) {s with bu:=aHD,out:=[],way:=0,loops:=0}->(∀k,Ft (K.sub hb pb fm) w1 k->k=hb\/Fc K w k)->aq f ⟨.pointer (some ⟨hb,0,none⟩)::cap⟩ w1 λe w2=>e=.returned (.tuple #[])/\bB w2 w0 (K.sub hb pb fm) t/\cz (Ft (K.sub hb pb fm) w1) w1 (Ft (K.sub hb pb fm) w2) w2):
  aq Qx #[.pointer (some ⟨K.hb,0,none⟩),.string (S aHD),.func (.func f) #[] ⟨cap⟩] w (λe w'=>∃hb pb fm,e=.returned (.pointer (some ⟨hb,0,none⟩))/\w.heap.size<=hb/\bB w' w0 (K.sub hb pb fm) t/\bB w' w0 K (AN s t)/\cz (Ft K w) w (Ft K w') w'):=by
 obtain⟨vp,vc,hh,hv⟩:=h.fX;obtain⟨x,hx⟩:=h.ia;have hz0:=h0.size;apply ale;refine⟨_,_,_,_,_,_,_,_,_,_,_,rfl,_,_,_,_,_,_,_,hh.aj rfl,hh.aj rfl,hh.aj rfl,hh.aj rfl,hh.aj rfl,hh.aj rfl,hh.aj rfl,hh.aj rfl,hh.aj rfl,hh.aj rfl,hh.aj rfl,hh.aj rfl,hh.aj rfl,hh.aj rfl,?_⟩;refine aQ λw1 r1 s1 z1=>aHb (g:=w.heap.size) (o:=0) r1 λw2 r2 m2 z2=>?_
 replace r2:Row w2 w.heap.size fQ ⟨oU K.sb K.pb vp s.V.length vc s.st K.fm s.bu s.out s.way s.loops s.last⟩:=r2
 have dP:Still w w2:=s1.box (aV _) m2;have sD:Still w2 w2.drew:=(Still.refl _).cy;have N3:=dP.trans sD;refine⟨λwq=>Row wq K.hb fQ ⟨gR K vp vc s⟩/\Row wq K.sb kP ⟨oT K x s⟩,⟨hh.still N3,hx.row.still N3⟩,_,λwq hq=>hq.1.aj rfl,_,λwq hq=>hq.2.aj rfl,_,λwq hq=>hq.1.aj rfl,_,λwq hq=>hq.1.aj rfl,_,λwq hq=>hq.2.aj rfl,(Ak rfl).mono ?_⟩;rintro _ w3 ⟨rfl,p3,s3,z3⟩;have aHY:=N3.trans s3;have r3:=(r2.still sD).still s3;refine .inl ⟨_,rfl,dO (g:=w.heap.size) (o:=1) r3 (by simp[oU]) (by simp[Value.oneCell']) λw4 r4 m4 z4=>?_⟩
 replace r4:Row w4 w.heap.size fQ ⟨oU K.sb w2.drew.heap.size vp s.V.length vc s.st K.fm s.bu s.out s.way s.loops s.last⟩:=r4
 have lp:Still w w4:=aHY.box (aV _) m4;refine⟨_,rfl,(hh.still lp).aj rfl,(apN (h.fns.still lp)).mono ?_⟩;rintro _ w5 ⟨rfl,f5,s5,z5⟩;have aIf:=lp.trans s5;refine .inl ⟨_,rfl,rfl,dO (g:=w.heap.size) (o:=6) (r4.still s5) (by simp[oU]) (by simp[Value.oneCell']) λw6 r6 m6 z6=>?_⟩
 replace r6:Row w6 w.heap.size fQ ⟨oU K.sb w2.drew.heap.size vp s.V.length vc s.st w4.heap.size s.bu s.out s.way s.loops s.last⟩:=r6
 refine dO (g:=w.heap.size) (o:=7) r6 (by simp[oU]) (by simp[Value.oneCell']) λw7 r7 m7 z7=>?_
 replace r7:Row w7 w.heap.size fQ ⟨oU K.sb w2.drew.heap.size vp s.V.length vc s.st w4.heap.size aHD s.out s.way s.loops s.last⟩:=r7
 refine dO (g:=w.heap.size) (o:=8) r7 (by simp[oU]) (by simp[Value.oneCell']) λw8 r8 m8 z8=>?_
 replace r8:Row w8 w.heap.size fQ ⟨oU K.sb w2.drew.heap.size vp s.V.length vc s.st w4.heap.size aHD [] s.way s.loops s.last⟩:=r8
 refine dO (g:=w.heap.size) (o:=9) r8 (by simp[oU]) (by simp[Value.oneCell']) λw9 r9 m9 z9=>?_
 replace r9:Row w9 w.heap.size fQ ⟨oU K.sb w2.drew.heap.size vp s.V.length vc s.st w4.heap.size aHD [] 0 s.loops s.last⟩:=r9
 refine dO (g:=w.heap.size) (o:=11) r9 (by simp[oU]) (by simp[Value.oneCell']) λaO eB m10 aIs=>?_
 replace eB:Row aO w.heap.size fQ ⟨oU K.sb w2.drew.heap.size vp s.V.length vc s.st w4.heap.size aHD [] 0 0 s.last⟩:=eB
 have VX:Mod (λk=>k=w.heap.size) w5 aO:=Mod.trans (Mod.trans (Mod.trans (Mod.trans m6 m7 (λ_ h=>h) (λ_ _ h=>h)) m8 (λ_ h=>h) (λ_ _ h=>h)) m9 (λ_ h=>h) (λ_ _ h=>h)) m10 (λ_ h=>h) (λ_ _ h=>h);have xA:Still w aO:=aIf.box (aV _) VX;have ez:w2.drew.heap.size=w2.heap.size:=rfl;have BC:=lp.size;have xW:iM aO w2.drew.heap.size K.a:=((p3.mod m4 (by omega)).still s5).mod VX (by omega);have f10:dM aO w4.heap.size []:=f5.mod VX (by omega);have h10:=h.still xA;obtain⟨xx,Xl⟩:=h10.ia;have hin:bB aO w0 (K.sub w.heap.size w2.drew.heap.size w4.heap.size) {s with bu:=aHD,out:=[],way:=0,loops:=0}:=
  ⟨⟨h.rE,xW,f10,⟨vp,vc,eB,hv.still xA⟩,⟨xx,Xl.gS,Xl.aHM,Xl.eS⟩,⟨hz0,h.low.2⟩,by have:=h.aHh.now.lt;show K.g≠w4.heap.size;omega⟩,h10.aHh⟩
 have OZ:∀k,Ft (K.sub w.heap.size w2.drew.heap.size w4.heap.size) aO k->k=w.heap.size\/Fc K w k:=λk hk=>by
  rcases hk with e|e
  .exact .inl e
  .exact .inr ((Fc.same λo=>h.HB xA (λh=>h) o).1 (afu.1 e))
 refine Af (aA (λ_=>?_) (λh=>by rw[hc]at h;cases h));refine(Jy aO w.heap.size w2.drew.heap.size w4.heap.size xA (aV _) hin OZ).mono ?_;rintro _ bh ⟨rfl,h11,g11⟩;have free:∀k,k<w.heap.size->¬Fc K w k->¬Ft (K.sub w.heap.size w2.drew.heap.size w4.heap.size) aO k:=λk hk hn hf=>(OZ k hf).elim (λe=>by omega) hn;have nC:∀{k:Nat} {ty:TypeId} {cs:Array Value},Row w k ty cs->ty≠kP->ty≠pq->ty≠5->ty≠jW->¬Fc K w k:=by
  intro k ty cs hr a b c d hk;rcases hx.own hk with rfl|rfl|rfl|hk|hk
  .exact hr.ne h.aHh.top d rfl
  .exact pz h.aHh.now hr rfl
  .exact hr.ne hx.row a rfl
  .obtain⟨xs,hs⟩:=hx.aHM
   exact hs.aHg hr (λe=>b e.symm) hk
  .exact hx.gS.own.aHg hr (λe=>c e.symm) hk
 have ahi:=(hh.still xA).mod g11.mod (free _ hh.lt (nC hh (by decide) (by decide) (by decide) (by decide)));have VO:iM bh K.pb K.a:=(h.iD.still xA).mod g11.mod (free _ h.iD.lt (nC h.iD (by decide) (by decide) (by decide) (by decide)));have VW:dM bh K.fm []:=(h.fns.still xA).mod g11.mod (free _ h.fns.lt λhk=>by
  obtain⟨t1,t2,t3,t4,t5,t6,t7,t8,t9,t10,t11,t12,t13⟩:=h.tys;rcases hx.own hk with e|e|e|e|e
  .exact t11 e.symm
  .exact t13 e.symm
  .exact t9 e.symm
  .obtain⟨xs,hs⟩:=hx.aHM
   obtain⟨cur,hr⟩:=hs.typed e;exact h.fns.aHg hr rfl
  .obtain⟨cur,hr⟩:=hx.gS.own.typed e
   exact h.fns.aHg hr rfl)
 have az7:A.cK bh vp s.V.length vc s.V:=cK.aJH (hv.still xA) g11.mod λhn a ha=>by obtain⟨a',cs,e1,e2⟩:=hv.2.2.2 hn;rw[ha]at e1;obtain rfl:=bU e1;exact free _ e2.lt (nC e2 (by decide) (by decide) (by decide) (by decide))
 have hout:=h11.beside (s:=s) ahi az7 VO VW h.low.1 h.Dg;have az8:cz (Ft K w) w (Ft K bh) bh:=⟨Mod.trans xA g11.mod (λ_ h=>h.elim) λk hk hf=>(OZ k hf).elim (λe=>by omega) .inr,λk hk=>by
  rcases hk with e|e
  .exact .inl (.inl e)
  .rcases g11.new k (.inr (afu.2 e))with hx|hx
   .rcases OZ k hx with e|e
    .exact .inr (by omega)
    .exact .inl (.inr e)
   .exact .inr (kJ xA.size hx)⟩
 obtain⟨iA,az9⟩:=h11.ia;refine .inl ⟨rfl,_,ahi.aj rfl,_,az9.row.aj rfl,aA (λhb=>absurd (aR hb) he) (λ_=>?_)⟩;exact⟨_,_,_,rfl,aV _,h11,hout,az8⟩
def SY(h:bB w w0 K s){t:Sh}{hb pb fm:Nat}(hk:bB w w0 (K.sub hb pb fm) t)(he:s.tu≠220):
  aq Qy #[.pointer (some ⟨K.hb,0,none⟩),.pointer (some ⟨hb,0,none⟩)] w (λe w'=>e=.returned (.tuple #[])/\bB w' w0 K {s with st:=t.st}/\cz (Ft K w) w (Ft K w') w'/\Mod (λk=>k=K.hb) w w'):=by
 apply alf;refine⟨_,hk.cell λ_ _=>rfl,h.Is t.st λw1 h1 g1 m1=>?_⟩;obtain⟨x,hx⟩:=h1.ia;exact⟨_,h1.cell λ_ _=>rfl,_,hx.row.aj rfl,aA (λhb=>absurd (aR hb) he) (λ_=>⟨rfl,h1,g1,m1⟩)⟩
end Go.Proofs.YtihaaoehhgmphaaGreatDoor
