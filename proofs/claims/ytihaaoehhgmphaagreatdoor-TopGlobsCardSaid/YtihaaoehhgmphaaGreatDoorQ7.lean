/- Texts of one proof, one behind the other. Conditions: as each theorem names them. -/
import Derived.Test.YtihaaoehhgmphaaGreatDoorQ6
set_option linter.all false
namespace Go.Proofs.YtihaaoehhgmphaaGreatDoor.P
open IntKind Go.RowKit Vc
variable{w:World}
def RC(p:List UInt8):an J4 #[.string (S p)] w (λe w'=>e=.returned (.bool (oF p))/\Still w w'):=by
 apply alE;refine⟨λq w1=>oF q=oF p/\Still w w1,λq _=>q.length,⟨rfl,Mod.refl _ _⟩,?_⟩;rintro q _ w1 ⟨hq,hm⟩;rw[<-hq];refine ax (λhx=>?_) (λhx=>?_)
 .have hx:q≠[]:=by simpa using hx
  obtain⟨a,r,rfl⟩:=aJl hx;refine⟨by decide,a,rfl,(Tryz.strings_IndexByte (S [42,63,91]) _ _).mono ?_⟩;rintro _ w2 ⟨rfl,rfl⟩;rw[aoL];have hidx:Go.Lib.indexByte (S [42,63,91]).data.toList ((a.toNat:Int)).toNat.toUInt8=Go.Lib.indexByte [42,63,91] a:=by rw[bW];congr 1;simp
  rw[hidx];have hsg:decide ((0:Int)<=Go.Lib.indexByte [42,63,91] a)=aKw a:=by
   unfold aKw
   by_cases h1:a=42
   .subst h1;decide
   ·by_cases h2:a=63
    .subst h2;decide
    ·by_cases h3:a=91
     .subst h3;decide
     .have g1:¬(42:UInt8)=a:=λe=>h1 e.symm
      have g2:¬(63:UInt8)=a:=λe=>h2 e.symm;have g3:¬(91:UInt8)=a:=λe=>h3 e.symm;simp[Go.Lib.indexByte,h1,h2,h3,g1,g2,g3]
  refine .inl ⟨_,rfl,?_⟩
  try dsimp only[zR]
  rw[hsg];refine ax (λh=>⟨by rw[h];rfl,hm⟩) (λh=>?_);rw[h,aJA];refine(aab hx).mono ?_;rintro _ w3 ⟨rfl,rfl⟩;refine .inl ⟨_,_,rfl,⟨?_,hm.drew⟩,Zl hx⟩;rfl
 .have hx:q=[]:=by simpa using hx
  subst hx;exact⟨rfl,hm⟩
def R5(p:List UInt8)(hp:p.length<1000000):an Dt #[.string (S p)] w (λe w'=>e=.returned (.string (S (plain p)))/\Still w w'):=by
 apply al_;have hpl:=Ry p;refine aO λw1 r1 s1 z1=>?_;refine⟨λq w2=>∃l cs v,l++plain q=plain p/\cs.length=2/\aHt w2 86 w.heap.size 0 w.heap.size cs v l/\Mod (λ_=>False) w w2,λq _=>q.length,⟨[],_,_,rfl,rfl,aHt.fresh r1 rfl rfl,s1⟩,?_⟩;rintro q _ w2 ⟨l,cs,v,hl,hcs,hb,hm⟩;refine ax (λhx=>?_) (λhx=>?_)
 .have hx:q≠[]:=by simpa using hx
  refine(aab hx).mono ?_;rintro _ w3 ⟨rfl,rfl⟩;have IG:l.length<=p.length:=by
   have:(l++plain q).length=(plain p).length:=by rw[hl]
   simp at this;omega
  have hbD:=hb.still (Mod.refl (λ_=>False) w2).drew;have hmD:=hm.drew;refine .inl ⟨_,_,rfl,(Y_ hbD (by rw[hcs];exact Gx) (single q).1 hmD.size (by omega)).mono ?_⟩;rintro _ w4 ⟨rfl,v',hb4,m4⟩;refine .inl ⟨_,rfl,rfl,⟨l++[(single q).1],_,v',?_,?_,hb4,?_⟩,Zl hx⟩
  .rw[<-hl,aqM hx]
   simp
  .simp[hcs]
  .refine Mod.trans hmD m4 (λ_ h=>h) (λi hi h=>?_)
   rcases h with h|h
   .omega
   .have:=(hb.own.lt i h).1;omega
 .have hx:q=[]:=by simpa using hx
  subst hx;have hl:l=plain p:=by simpa[plain]using hl
  subst hl;refine(aKa hb (by omega)).mono ?_;rintro _ w4 ⟨rfl,m4⟩;refine .inl ⟨_,rfl,rfl,Mod.trans hm m4 (λ_ h=>h) (λi hi h=>?_)⟩;have:=(hb.own.lt i h).1;omega
end Go.Proofs.YtihaaoehhgmphaaGreatDoor.P
namespace Go.Proofs.YtihaaoehhgmphaaGreatDoor
open IntKind Go.RowKit Vc
set_option maxRecDepth 100000
variable{w wb w0:World}
def aeY{B:Nat}{p:Option Addr}{n c:Nat}{l:List F.Sg}(h:aS w B MA 2 (.slice p l.length c) l.length (F.CQ l)):F.Ai w p l.length l:=⟨rfl,At.own h⟩
def qm:Pr (List F.Sg×List A.Vr)->List A.Vr->List F.Sg×List A.Vr×Nat
 |.ok p,_=>(p.1,p.2,0)
 |.bad k,V=>([],V,k)
def as2{V:List A.Vr}{st:Int}(he:Env w){vp:Option Addr}{vc:Nat}(hv:A.cR w vp V.length vc V){ps:List L.Pt}{p:Option Addr}{n c:Nat}{D:Nat->Prop}(hs:L.aHg w D ps (.slice p n c))(hV:pX V)(hb:V.length+oe ps<=50000)(hn:ps.length<=900){r:Pr (List F.Sg×List A.Vr)}(hr:tJ ps V=some r)(hlen:(qm r V).1.length<=1000)(hbig:F.fe (qm r V).1<=500000)(b:Bool):
  an Ra #[.slice p n c,.agg #[.slice vp V.length vc,.slice none 0 0,.int .i64 st],.slice none 0 0,.bool b] w (λe w'=>∃q D,e=.returned (.tuple #[.string (S (F.joined b (qm r V).1)),.agg #[.slice q (qm r V).2.1.length D,.slice none 0 0,.int .i64 st],.int .i64 ((qm r V).2.2:Int)])/\A.cR w' q (qm r V).2.1.length D (qm r V).2.1/\Still w w'):=by
 apply amM;refine aO λw1 r1 s1 z1=>aO λw2 r2 s2 z2=>?_;have q1:=r1.still s2;have dD:=s1.trans s2;refine⟨_,_,_,_,_,_,_,q1.ai rfl,q1.ai rfl,q1.ai rfl,(SZ (he.still dD) (hv.still dD) (hs.still dD) hV hb hn hr).mono ?_⟩;intro e w3 h3;have:∃xb,e=.returned (.tuple #[.pointer (some ⟨xb,0,none⟩),.int .i64 ((qm r V).2.2:Int)])/\gb w2 w3 xb (qm r V).2.1 st (qm r V).1:=by
  cases r with
  |ok q=>obtain⟨xb,h1,h2,_⟩:=h3;exact⟨xb,h1,h2⟩
  |bad k=>obtain⟨xb,h1,h2⟩:=h3;exact⟨xb,h1,h2⟩
 clear h3;obtain⟨xb,rfl,h3⟩:=this;generalize(qm r V).1=gs at*;generalize(qm r V).2.1=V' at*;generalize(qm r V).2.2=k at*;have sD:Still w3 w3.drew:=(Still.refl _).cG;obtain⟨vj,aJg,op,oc,hrow,CS,ho⟩:=(h3.on sD).row;refine .inl ⟨_,_,rfl,λwq=>Row wq xb wu ⟨[.slice vj V'.length aJg,.slice none 0 0,.int .i64 st,.slice none 0 0,.slice op gs.length oc]⟩,hrow,_,_,_,λwq hq=>hq.ai rfl,_,_,_,_,_,_,_,λwq hq=>hq.ai rfl,λwq hq=>hq.ai rfl,λwq hq=>hq.ai rfl,?_⟩;refine(F.apK (aeY (n:=0) ho) b hlen hbig).mono ?_;rintro _ w4 ⟨rfl,s4⟩;have r24:Row w4 w1.heap.size 109 ⟨[.slice none 0 0,.slice none 0 0,.int .i64 0]⟩:=((r2.still h3.still).still sD).still s4;refine .inl ⟨_,rfl,hrow.still s4,bF (g:=w1.heap.size) (o:=0) r24 λw5 r5 m5 z5=>?_⟩;have zj:Still w w5:=(((dD.trans h3.still).trans sD).trans s4).box (by omega) m5;refine⟨_,_,_,_,_,_,_,r5.ai rfl,r5.ai rfl,r5.ai rfl,_,_,rfl,?_,zj⟩;refine cR.yH (CS.still s4) m5 λh0 a ha hk=>?_;obtain⟨a',cs,h1,h2⟩:=(CS.still s4).2.2.2 h0;rw[ha]at h1;obtain rfl:=bO h1;exact h2.ne r24 (by decide) hk
def Uw(T:Tree)(t:ag)(r:List ag):Prop:=∀(w w0:World) (a g pb:Nat),aHx w0->Still w0 w->cv w w0.heap.size a g none 0 T->ga w pb a->an Rw #[.pointer (some ⟨pb,0,none⟩),.string (S t)] w (λe w'=>∃p c,e=.returned (.slice p r.length c)/\cZ w' p r.length r/\Still w w')
def HE(T:Tree):List ag->List ag->Prop
 |[],r=>r=[]
 |t::ts,r=>∃r1 r2,Uw T t r1/\HE T ts r2/\r=r1++r2
def arb{T:Tree}{t:ag}(h:P.oF t=false)(hl:t.length<1000000):Uw T t [P.plain t]:=by intro w w0 a g pb he h0 hst hp;apply YY;refine(P.RC t).mono ?_;rintro _ w1 ⟨rfl,s1⟩;refine .inl ⟨_,rfl,ax (λhb=>by rw[h]at hb;cases hb) (λ_=>(P.R5 t hl).mono ?_)⟩;rintro _ w2 ⟨rfl,s2⟩;refine .inl ⟨_,rfl,aO λw3 r3 s3 z3=>⟨_,_,rfl,cZ.row r3,(s1.trans s2).trans s3⟩⟩
def sA(V:List A.Vr):ag:=if(A.get [73,70,83] V).isSome then(A.getD [73,70,83] V).value else[32,9,10]
def avo{xb:Nat}{V:List A.Vr}{st:Int}{l:List F.Sg}(h:gb wb w xb V st l)(hV:pX V)(hn:V.length<1000000):an PD #[.pointer (some ⟨xb,0,none⟩)] w (λe w'=>e=.returned (.string (S (sA V)))/\Still w w'):=by
 apply akh;obtain⟨vp,vc,op,oc,hr,hv,ho⟩:=h.row;refine⟨_,_,_,hr.ai rfl,(A.SX hv hV.U6 hn _).mono ?_⟩;rintro _ w1 ⟨rfl,s1⟩;refine .inl ⟨_,_,_,_,_,rfl,aO λw2 r2 s2 z2=>bF (g:=w1.heap.size) (o:=0) r2 λw3 r3 m3 z3=>?_⟩;have s3:Still w w3:=s1.trans (s2.box (aR _) m3);unfold sA;refine ax (λhb=>⟨_,r3.ai rfl,?_,s3⟩) (λhb=>⟨?_,s3⟩)
 .rw[aN hb]
 .rw[aH (by rw[hb];decide)]
def apO{V:List A.Vr}{st:Int}(bP:aHx w0)(h0:Still w0 w){a g pb:Nat}{T:Tree}(hst:cv w w0.heap.size a g none 0 T)(aJh:ga w pb a){vp:Option Addr}{vc:Nat}(hv:A.cR w vp V.length vc V){ps:List L.Pt}{p:Option Addr}{n c:Nat}{D:Nat->Prop}(hs:L.aHg w D ps (.slice p n c))(hV:pX V)(hb:V.length+oe ps<=50000)(hn:ps.length<=900){gs:List F.Sg}{V':List A.Vr}(hr:tJ ps V=some (.ok (gs,V')))(hlen:gs.length<=1000)(hbig:F.fe gs<=500000)(aAi:(sA V').length<=1000000){out:List ag}(hg:HE T (F.nR (sA V') gs) out)(hol:out.length<=100000)(hfl:(F.nR (sA V') gs).length<=100000):
  an FT #[.pointer (some ⟨pb,0,none⟩),.slice p n c,.agg #[.slice vp V.length vc,.slice none 0 0,.int .i64 st],.slice none 0 0] w (λe w'=>∃o oc q D,e=.returned (.tuple #[.slice o out.length oc,.agg #[.slice q V'.length D,.slice none 0 0,.int .i64 st],.int .i64 0])/\aS w' w.heap.size bJ 1 (.slice o out.length oc) out.length (strs out)/\A.cR w' q V'.length D V'/\pX V'/\V'.length<=V.length+oe ps/\Still w w'):=by
 apply Yl;refine aO λw1 r1 s1 z1=>aO λw2 r2 s2 z2=>?_;have q1:=r1.still s2;have dD:=s1.trans s2;refine⟨_,_,_,_,_,_,_,q1.ai rfl,q1.ai rfl,q1.ai rfl,(SZ ((bP.still h0).env.still dD) (hv.still dD) (hs.still dD) hV hb hn hr).mono ?_⟩;rintro e w3 ⟨xb,rfl,h3,hV',hl'⟩;have sD:Still w3 w3.drew:=(Still.refl _).cG;have nE:=h3.on sD;obtain⟨vj,aJg,op,oq,hrow,CS,ho⟩:=nE.row;refine .inl ⟨_,_,rfl,ax (λhb=>by simp at hb) (λ_=>?_)⟩;refine⟨λwq=>Row wq xb wu ⟨[.slice vj V'.length aJg,.slice none 0 0,.int .i64 st,.slice none 0 0,.slice op gs.length oq]⟩,hrow,_,_,_,λwq hq=>hq.ai rfl,(avo nE hV' (by omega)).mono ?_⟩;rintro _ w4 ⟨rfl,s4⟩;refine .inl ⟨_,rfl,hrow.still s4,(F.apJ (aeY (n:=0) (ho.still s4)) _ hlen hbig aAi).mono ?_⟩;rintro _ w5 ⟨fq,fD,rfl,hf,s5⟩;have EU:=(sD.trans s4).trans s5;have aH6:Still w w5:=(dD.trans h3.still).trans EU;generalize hfs:F.nR (sA V') gs=fs at*;refine .inl ⟨_,_,_,rfl,λo on oc x w6=>∃(i:Nat) (l1 l2:List ag),x=(i:Int)/\i<=fs.length/\on=l1.length/\aS w6 w.heap.size bJ 1 (.slice o on oc) on (strs l1)/\HE T (fs.drop i) l2/\out=l1++l2/\Still w5 w6,λ_ _ _ x _=>(fs.length-x).toNat,⟨0,[],out,rfl,dU _,rfl,aS.nil _ _ _ _,hg,rfl,Still.refl _⟩,?_⟩;rintro o _ oc x _ w6 ⟨i,l1,l2,rfl,hi,rfl,aJT,EV,NZ,s6⟩;have nG:=aH6.trans s6;refine ax (λhx=>?_) (λhx=>?_)
 .have hx:i<fs.length:=by have:=aQ hx;omega
  rw[qM hx]at EV;obtain⟨ra,rb,ha,zh,rfl⟩:=EV;obtain⟨af,rfl,hcell⟩:=(hf.still s6).get hx;have ayk:w6.cell? (af.add (Int.toNat (i:Int)*1))=some (.string (S fs[i])):=by rw[bW,aHA];exact hcell
  refine⟨by omega,by omega,_,ayk,(ha w6 w0 a g pb bP (h0.trans nG) (hst.still nG) (aJh.still nG)).mono ?_⟩;rintro _ w7 ⟨gp,gc,rfl,hra,s7⟩;refine .inl ⟨_,_,_,rfl,aO λw8 r8 s8 z8=>?_⟩;have hlo:l1.length+ra.length<=100000:=by rw[NZ]at hol;simp only[aHb]at hol;omega
  refine(aoX r8 (cZ.of ((aJT.still s7).still s8)) (hra.still s8) (by omega)).mono ?_;rintro _ w9 ⟨np,nc,rfl,mW,s9⟩;have IJ:=(s7.trans s8).trans s9;have hz:=((nG.trans s7).trans s8).size;refine .inl ⟨_,_,_,rfl,?_⟩;rw[wrap_i64 (by omega) (by omega)];refine⟨⟨i+1,l1++ra,rb,by omega,by omega,rfl,mW.base λk hk=>by have:=(mW.lt k hk).1;omega,zh,by rw[NZ,j9],s6.trans IJ⟩,by dsimp only;omega⟩
 .have hx:i=fs.length:=by have:=aZ hx;omega
  subst hx;rw[aJx]at EV;have EV:l2=[]:=EV;subst EV;rw[aIk]at NZ;subst NZ;have sE:Still w6 w6.drew:=(Still.refl _).cG;have aJU:=(EU.trans s6).trans sE;have h6:=h3.on aJU;have jx:=((s4.trans s5).trans s6).trans sE;have aza:=hrow.still jx;refine⟨λwq=>Row wq xb wu ⟨[.slice vj V'.length aJg,.slice none 0 0,.int .i64 st,.slice none 0 0,.slice op gs.length oq]⟩,aza,_,_,_,_,_,_,_,λwq hq=>hq.ai rfl,λwq hq=>hq.ai rfl,λwq hq=>hq.ai rfl,?_⟩;have EW:Row w6.drew w1.heap.size 109 ⟨[.slice none 0 0,.slice none 0 0,.int .i64 0]⟩:=(r2.still h3.still).still aJU;refine bF (g:=w1.heap.size) (o:=0) EW λw7 r7 m7 z7=>?_;have agz:=aJT.still sE;refine⟨_,_,_,_,_,_,_,r7.ai rfl,r7.ai rfl,r7.ai rfl,_,_,_,_,rfl,agz.mod m7 λk hk e=>agz.c7 EW (by decide) (by rw[hk,e]),?_,hV',hl',(nG.trans sE).box (by omega) m7⟩;refine cR.yH (CS.still jx) m7 λh0 a ha hk=>?_;obtain⟨a',cs,h1,h2⟩:=(CS.still jx).2.2.2 h0;rw[ha]at h1;obtain rfl:=bO h1;exact h2.ne EW (by decide) hk
end Go.Proofs.YtihaaoehhgmphaaGreatDoor
namespace Go.Proofs.YtihaaoehhgmphaaGreatDoor
open IntKind Go.RowKit Vc
set_option maxRecDepth 100000
variable{w w0:World}{K:Kx}{s:Sh}
def G0(what:ag)(k:Nat):ag:=what++[58,32,101,114,114,111,114,32]++Lib.itoa k++[10]
def apP(what:ag)(k:Nat)(hk:k<=255):(G0 what k).length<=what.length+30:=by
 have h:(Lib.itoa (k:Int)).length<=20:=by unfold Lib.itoa;rw[aH (by omega)];have:=GY (n:=k) hk;simpa using this
 simp only[G0,aHb,a_,cq];omega
def as3(bP:aHx w0)(h0:Still w0 w)(h:bx w w0 K s)(what:ag)(k:Nat)(hk:k<=255)(hw:what.length<=1000)(he:s.err.length<=900000):
  an JQ #[.pointer (some ⟨K.hb,0,none⟩),.string (S what),.int .i64 (k:Int)] w (λe w'=>e=.returned (.tuple #[])/\bx w' w0 K {s with err:=s.err++G0 what k,st:=1}/\cj (Ft K w) w (Ft K w') w'):=by
 apply akU;have sD:Still w w.drew:=(Still.refl _).cG;have hD:=h.still sD;obtain⟨vp,vc,hh,hv⟩:=hD.fW;have hil:(Lib.itoa (k:Int)).length<=20:=by unfold Lib.itoa;rw[aH (by omega)];have:=GY (n:=k) hk;simpa using this
 refine⟨λwq=>Row wq K.hb fV ⟨gV K vp vc s⟩,hh,_,λwq hq=>hq.ai rfl,by simp;omega,(Sm ((bP.still h0).env.still sD) (k:Int) (by omega) (by omega)).mono ?_⟩;rintro _ w1 ⟨rfl,s1⟩;have h1:=hD.still s1;have el:=apP what k hk;have g1:=(h.gone (sD.trans s1));have hz:=(h0.trans (sD.trans s1)).size;refine .inl ⟨_,rfl,hh.still s1,by simp;omega,by simp;omega,(h1.acZ hz (G0 what k) (by omega)).mono ?_⟩;rintro _ w2 ⟨rfl,h2,g2⟩;refine .inl ⟨_,_,rfl,rfl,h2.HD 1 λw3 h3 g3 m3=>⟨rfl,h3,(g1.trans g2).trans g3⟩⟩
def afJ(s:Sh)(k:Nat):Sh:={s with err:=s.err++G0 [115,104] k,st:=1,way:=4}
def S0(w:World)(K:Kx):an Df #[.pointer (some ⟨K.hb,0,none⟩),.int .i64 0] w (λe w'=>e=.returned (.bool true)/\w'=w):=by apply XQ;exact ax (λh=>by simp at h) (λ_=>⟨rfl,rfl⟩)
def as4(bP:aHx w0)(h0:Still w0 w)(h:bx w w0 K s)(k:Nat)(hk0:k≠0)(hk:k<=255)(he:s.err.length<=900000):
  an Df #[.pointer (some ⟨K.hb,0,none⟩),.int .i64 (k:Int)] w (λe w'=>e=.returned (.bool false)/\bx w' w0 K (afJ s k)/\cj (Ft K w) w (Ft K w') w'):=by
 apply XQ;refine ax (λ_=>(as3 bP h0 h [115,104] k hk (by decide) he).mono ?_) (λh=>by simp at h;omega);rintro _ w1 ⟨rfl,h1,g1⟩;refine .inl ⟨rfl,h1.ayg 4 λw2 h2 g2 m2=>⟨?_,h2,g1.trans g2⟩⟩;rw[fY (show¬(k:Int)=0 by omega)]
def arc{ps:List L.Pt}{p:Option Addr}{n c:Nat}{D:Nat->Prop}(hs:L.aHg w D ps (.slice p n c))(hn:∀x∈ps,x.k≠2)(hl:ps.length<=100000):
  an Qz #[.slice p n c] w (λe w'=>e=.returned (.slice none 0 0)/\Still w w'):=by
 obtain⟨rfl,hc⟩:=hs.len;apply alC;refine⟨λo on oc x w1=>o=none/\on=0/\oc=0/\(∃i:Nat,x=(i:Int)/\i<=ps.length)/\Still w w1,λ_ _ _ x _=>(ps.length-x).toNat,⟨rfl,rfl,rfl,⟨0,rfl,dU _⟩,Still.refl _⟩,?_⟩;rintro _ _ _ x _ w1 ⟨rfl,rfl,rfl,⟨i,rfl,hi⟩,s1⟩;refine ax (λhx=>?_) (λhx=>⟨rfl,s1⟩);have hx:i<ps.length:=by have:=aQ hx;omega
 obtain⟨b,v,rfl,hD,hcell,hsv⟩:=(hs.still s1).get (iy hx);obtain⟨wp,wc,rfl⟩:=hsv.form;have cl:∀(j:Nat) (u:Value),(L.hU ps[i] (.slice wp ps[i].w.length wc))[j]?=some u->w1.cell? ((b.add (Int.toNat (i:Int)*6)).add j)=some u:=λj u hu=>by rw[bW];exact hcell j u hu
 have c0:w1.cell? (b.add (Int.toNat (i:Int)*6))=some (.int .i64 ps[i].k):=cl 0 _ rfl;refine⟨by omega,by omega,_,_,_,_,_,_,_,_,c0,cl 1 _ rfl,cl 2 _ rfl,cl 3 _ rfl,cl 4 _ rfl,cl 5 _ rfl,?_⟩;refine aO λw2 r2 s2 z2=>bF (g:=w1.heap.size) (o:=0) r2 λw3 r3 m3 z3=>?_;refine⟨_,r3.ai rfl,ax (λh=>absurd (aQ h) (hn _ (kL hx))) (λ_=>?_)⟩;rw[wrap_i64 (by omega) (by omega)];exact⟨⟨rfl,rfl,rfl,⟨i+1,by omega,by omega⟩,s1.trans (s2.box (aR _) m3)⟩,by dsimp only;omega⟩
def Zo(w:World)(K:Kx){ps:List L.Pt}{p:Option Addr}{n c:Nat}{D:Nat->Prop}(hs:L.aHg w D ps (.slice p n c))(hn:∀x∈ps,x.k≠2)(hl:ps.length<=100000):
  an Jw #[.pointer (some ⟨K.hb,0,none⟩),.slice p n c] w (λe w'=>e=.returned (.tuple #[.slice none 0 0,.bool true])/\Still w w'):=by
 apply ajM;refine(arc hs hn hl).mono ?_;rintro _ w1 ⟨rfl,s1⟩;refine .inl ⟨_,_,_,rfl,λo on oc x w2=>o=none/\on=0/\oc=0/\x=0/\w2=w1,λ_ _ _ _ _=>0,⟨rfl,rfl,rfl,rfl,rfl⟩,?_⟩;rintro _ _ _ _ _ w2 ⟨rfl,rfl,rfl,rfl,rfl⟩;exact ax (λh=>by simp at h) (λ_=>⟨rfl,s1⟩)
structure AJ(V:List A.Vr)(ps:List L.Pt)(r:Pr (List F.Sg×List A.Vr)):Prop where
 Wt:pX V
 fe:V.length+oe ps<=50000
 len:ps.length<=900
 cmd:∀x∈ps,x.k≠2
 run:tJ ps V=some r
 agA:(qm r V).1.length<=1000
 agB:F.fe (qm r V).1<=500000
def awW(bP:aHx w0)(h0:Still w0 w)(h:bx w w0 K s){ps:List L.Pt}{p:Option Addr}{n c:Nat}{D:Nat->Prop}(hs:L.aHg w D ps (.slice p n c))(hD:Kept D (Ft K w) w){gs:List F.Sg}{V':List A.Vr}(ok:AJ s.V ps (.ok (gs,V')))(b:Bool)(hl:(F.joined b gs).length<=10000):
  an Qa #[.pointer (some ⟨K.hb,0,none⟩),.slice p n c,.bool b] w (λe w'=>e=.returned (.tuple #[.string (S (F.joined b gs)),.bool true])/\bx w' w0 K {s with V:=V'}/\cj (Ft K w) w (Ft K w') w'):=by
 apply ak5;refine(Zo w K hs ok.cmd (by have:=ok.len;omega)).mono ?_;rintro _ w1 ⟨rfl,s1⟩;have h1:=h.still s1;obtain⟨vp,vc,hh,hv⟩:=h1.fW;refine .inl ⟨_,_,_,_,rfl,ax (λh=>by cases h) (λ_=>?_)⟩;refine⟨_,_,_,_,_,_,_,hh.ai rfl,hh.ai rfl,hh.ai rfl,(as2 ((bP.still h0).env.still s1) hv (hs.still s1) ok.Wt ok.fe ok.len ok.run ok.agA ok.agB b).mono ?_⟩;rintro _ w2 ⟨q,qD,rfl,AM,s2⟩;refine .inl ⟨_,_,_,_,_,_,_,_,_,rfl,aO λw3 r3 s3 z3=>bF (g:=w2.heap.size) (o:=0) r3 λw4 r4 m4 z4=>?_⟩;have aHU:Still w2 w4:=s3.box (aR _) m4;have mo:=(s1.trans s2).trans aHU;refine⟨λx wq=>x=0/\wq=w4,⟨λx wq=>x=false/\wq=w4,ax (λ_=>⟨fY (by show¬(10000:Int)<((F.joined b gs).length:Int);omega),rfl⟩) (λ_=>⟨rfl,rfl⟩),?_⟩,?_⟩
 .rintro _ _ w5 ⟨rfl,rfl⟩
  exact ax (λh=>by cases h) (λ_=>⟨rfl,rfl⟩)
 rintro _ _ w5 ⟨rfl,rfl⟩;refine(S0 w5 K).mono ?_;rintro _ w5 ⟨rfl,rfl⟩;refine .inl ⟨_,rfl,ax (λh=>by cases h) (λ_=>?_)⟩;refine⟨_,_,_,_,_,_,_,r4.ai rfl,r4.ai rfl,r4.ai rfl,?_⟩;refine(h.still mo).setState (AM.still aHU) s.st λw6 h6 g6 m6=>⟨rfl,h6,(h.gone mo).trans g6⟩
def Aw(T:Tree)(V:List A.Vr)(ps:List L.Pt)(out:List ag)(V':List A.Vr)(k:Nat):Prop:=
 (k=0/\∃gs,AJ V ps (.ok (gs,V'))/\(sA V').length<=1000000/\HE T (F.nR (sA V') gs) out/\out.length<=1000/\(F.nR (sA V') gs).length<=1000)\/
 (k≠0/\k<=255/\AJ V ps (.bad k)/\out=[]/\V'=V)
def Aw.wd{T:Tree}{V V':List A.Vr}{ps:List L.Pt}{out:List ag}{k:Nat}(h:Aw T V ps out V' k):ps.length<=900/\(∀x∈ps,x.k≠2)/\k<=255:=by
 rcases h with⟨rfl,gs,h,_⟩|⟨_,hk,h,_⟩
 .exact⟨h.len,h.cmd,by decide⟩
 .exact⟨h.len,h.cmd,hk⟩
def aaZ{V:List A.Vr}{st:Int}(bP:aHx w0)(h0:Still w0 w){a g pb:Nat}{T:Tree}(hst:cv w w0.heap.size a g none 0 T)(aJh:ga w pb a){vp:Option Addr}{vc:Nat}(hv:A.cR w vp V.length vc V){ps:List L.Pt}{p:Option Addr}{n c:Nat}{D:Nat->Prop}(hs:L.aHg w D ps (.slice p n c)){out:List ag}{V':List A.Vr}{k:Nat}(hf:Aw T V ps out V' k):
  an FT #[.pointer (some ⟨pb,0,none⟩),.slice p n c,.agg #[.slice vp V.length vc,.slice none 0 0,.int .i64 st],.slice none 0 0] w (λe w'=>∃o oc q D,e=.returned (.tuple #[.slice o out.length oc,.agg #[.slice q V'.length D,.slice none 0 0,.int .i64 st],.int .i64 (k:Int)])/\aS w' w.heap.size bJ 1 (.slice o out.length oc) out.length (strs out)/\A.cR w' q V'.length D V'/\Still w w'):=by
 rcases hf with⟨rfl,gs,ok,h1,h2,h3,h4⟩|⟨hk0,hk,ok,rfl,rfl⟩
 .refine(apO (st:=st) bP h0 hst aJh hv hs ok.Wt ok.fe ok.len ok.run ok.agA ok.agB h1 h2 (by omega) (by omega)).mono ?_
  rintro _ w' ⟨o,oc,q,D,rfl,a1,a2,a3,a4,a5⟩;exact⟨o,oc,q,D,rfl,a1,a2,a5⟩
 .apply Yl
  refine aO λw1 r1 s1 z1=>aO λw2 r2 s2 z2=>?_;have q1:=r1.still s2;have dD:=s1.trans s2;refine⟨_,_,_,_,_,_,_,q1.ai rfl,q1.ai rfl,q1.ai rfl,(SZ ((bP.still h0).env.still dD) (hv.still dD) (hs.still dD) ok.Wt ok.fe ok.len ok.run).mono ?_⟩;rintro e w3 ⟨xb,rfl,h3⟩;have sD:Still w3 w3.drew:=(Still.refl _).cG;have zk:=h3.still.trans sD;refine .inl ⟨_,_,rfl,ax (λ_=>?_) (λhb=>by simp at hb;omega)⟩;refine⟨λwq=>Row wq w.heap.size 109 ⟨[.slice vp V'.length vc,.slice none 0 0,.int .i64 st]⟩,q1.still zk,_,_,_,_,_,_,_,λwq hq=>hq.ai rfl,λwq hq=>hq.ai rfl,λwq hq=>hq.ai rfl,?_⟩;have EW:=r2.still zk;refine bF (g:=w1.heap.size) (o:=0) EW λw7 r7 m7 z7=>?_;refine⟨_,_,_,_,_,_,_,r7.ai rfl,r7.ai rfl,r7.ai rfl,none,0,vp,vc,rfl,aS.nil _ _ _ _,?_,(dD.trans zk).box (by omega) m7⟩;have hv7:=hv.still (dD.trans zk);refine cR.yH hv7 m7 λh0 a ha hk=>?_;obtain⟨a',cs,h1,h2⟩:=hv7.2.2.2 h0;rw[ha]at h1;obtain rfl:=bO h1;exact h2.ne EW (by decide) hk
def yJ(T:Tree):List (List L.Pt)->List A.Vr->List ag->List A.Vr->Nat->Prop
 |[],V,out,V',k=>out=[]/\V'=V/\k=0
 |ps::r,V,out,V',k=>∃V1 o1 k1,Aw T V ps o1 V1 k1/\(k1≠0/\out=o1/\V'=V1/\k=k1\/k1=0/\∃o2,yJ T r V1 o2 V' k/\out=o1++o2)
def dF(l:List ag):Nat:=(l.map λx=>x.length+1).sum
def zQ(l m:List ag):dF (l++m)=dF l+dF m:=by simp[dF]
def G1(l:List ag):l.length<=dF l:=by
 induction l with
 |nil=>simp[dF]
 |cons a r ih=>simp only[dF,gi,rP,a_]at ih⊢;omega
def ZC(bP:aHx w0)(h0:Still w0 w)(h:bx w w0 K s){ws:List (List L.Pt)}{p:Option Addr}{n c:Nat}{D:Nat->Prop}(hs:L.wE.At w D ws (.slice p n c))(hD:Kept D (Ft K w) w){out:List ag}{V':List A.Vr}{k:Nat}(hf:yJ s.T ws s.V out V' k)(hsz:dF out<=10000)(y_:ws.length<=10000)(he:s.err.length<=900000):
  an JG #[.pointer (some ⟨K.hb,0,none⟩),.slice p n c] w (λe w'=>(if k=0 then(∃o oc,e=.returned (.tuple #[.slice o out.length oc,.bool true])/\aS w' w.heap.size bJ 1 (.slice o out.length oc) out.length (strs out)/\bx w' w0 K {s with V:=V'})else(e=.returned (.tuple #[.slice none 0 0,.bool false])/\bx w' w0 K (afJ {s with V:=V'} k)))/\cj (Ft K w) w (Ft K w') w'):=by
 obtain⟨rfl,hc⟩:=hs.len;apply aka;refine⟨λo on oc size x w1=>∃(i:Nat) (l1 l2:List ag) (Vi:List A.Vr),x=(i:Int)/\i<=ws.length/\on=l1.length/\aS w1 w.heap.size bJ 1 (.slice o on oc) on (strs l1)/\out=l1++l2/\size=(dF l1:Int)/\bx w1 w0 K {s with V:=Vi}/\cj (Ft K w) w (Ft K w1) w1/\yJ s.T (ws.drop i) Vi l2 V' k,λ_ _ _ _ x _=>(ws.length-x).toNat,⟨0,[],out,s.V,rfl,dU _,rfl,aS.nil _ _ _ _,rfl,rfl,h,cj.refl _,hf⟩,?_⟩;rintro o _ oc _ x _ w1 ⟨i,l1,l2,Vi,rfl,hi,rfl,mS,rfl,rfl,h1,g1,hfi⟩;have rF:Still w0 w1:=Mod.trans h0 g1.mod (λ_ h=>h) λj hj hk=>by have:=(h.lt hk).1;omega
 refine ax (λhx=>?_) (λhx=>?_)
 .have hx:i<ws.length:=by have:=aQ hx;omega
  rw[qM hx]at hfi;obtain⟨V1,o1,k1,hw1,yl⟩:=hfi;have hs1:=hs.mod g1.mod λj hj hk=>(hD j hj).2 hk;obtain⟨b,cs,rfl,N0,⟨v,rfl,gh⟩,hcell⟩:=hs1.get (iy hx);obtain⟨wp,wc,rfl⟩:=gh.form;have c0:w1.cell? (b.add (Int.toNat (i:Int)*1))=some (.slice wp ws[i].length wc):=by rw[bW];exact hcell 0 _ rfl
  obtain⟨wl,wcm,wk⟩:=hw1.wd;have hlo:dF l1+dF o1<=10000:=by
   rcases yl with⟨_,rfl,_⟩|⟨_,o2,_,rfl⟩
   .rw[zQ]at hsz;exact hsz
   .rw[zQ,zQ]at hsz;omega
  have hol:=G1 o1;have IG:=G1 l1;refine⟨λo' on' oc' size' bX=>k1=0/\on'=(l1++o1).length/\aS bX w.heap.size bJ 1 (.slice o' on' oc') on' (strs (l1++o1))/\size'=(dF (l1++o1):Int)/\bx bX w0 K {s with V:=V1}/\cj (Ft K w) w (Ft K bX) bX,⟨by omega,by omega,_,_,_,c0,(Zo w1 K gh wcm (by omega)).mono ?_⟩,?_⟩
  .rintro _ w2 ⟨rfl,s2⟩
   refine .inl ⟨_,_,_,_,rfl,ax (λh=>by cases h) (λ_=>?_)⟩;have sD:Still w2 w2.drew:=(Still.refl _).cG;have fX:=s2.trans sD;have h2:=h1.still fX;obtain⟨vp,vc,hh,hv⟩:=h2.fW;have aJV:=rF.trans fX;refine⟨λf fn fc st ex w9=>∃fb,st=some ⟨fb,0,none⟩/\fn=o1.length/\ex=(k1:Int)/\aS w9 w2.heap.size bJ 1 (.slice f fn fc) fn (strs o1)/\Still w2 w9/\∃q qD,Row w9 fb 109 ⟨[.slice q V1.length qD,.slice none 0 0,.int .i64 s.st]⟩/\A.cR w9 q V1.length qD V1,⟨λwq=>Row wq K.hb fV ⟨gV K vp vc {s with V:=Vi}⟩,hh,_,λwq hq=>hq.ai rfl,_,_,_,_,_,_,_,λwq hq=>hq.ai rfl,λwq hq=>hq.ai rfl,λwq hq=>hq.ai rfl,?_,?_⟩,?_⟩
   .refine(aaZ (st:=s.st) bP aJV h2.aHh h2.iV hv (gh.still fX) hw1).mono ?_
    rintro _ w3 ⟨f,fc,q,qD,rfl,sP,N1,s3⟩;refine .inl ⟨_,_,_,_,_,_,_,_,_,_,_,rfl,aO λw4 r4 s4 z4=>⟨(hh.still s3).still s4,bF (g:=w3.heap.size) (o:=0) r4 λw5 r5 m5 z5=>?_⟩⟩;have EU:Still w3 w5:=s4.box (aR _) m5;exact⟨w3.heap.size,rfl,rfl,rfl,sP.still EU,(sD.trans s3).trans EU,q,qD,r5,N1.still EU⟩
   .refine aO λw6 r6 s6 z6=>⟨hh.still s6,(aaZ (st:=s.st) bP (aJV.trans s6) (h2.aHh.still s6) (h2.iV.still s6) (hv.still s6) ((gh.still fX).still s6) hw1).mono ?_⟩
    rintro _ w7 ⟨f,fc,q,qD,rfl,sP,N1,s7⟩;have Wu:=r6.still s7;have hz:=s6.size;refine .inl ⟨_,_,_,_,_,_,_,_,_,_,_,rfl,bF (g:=w2.drew.heap.size) (o:=0) Wu λw8 r8 m8 z8=>?_⟩;refine⟨w2.heap.size,rfl,rfl,rfl,(sP.base λj hj=>by have:=(sP.lt j hj).1;have e:w2.drew.heap.size=w2.heap.size:=rfl;omega).mod m8 λj hj e=>sP.c7 Wu (by decide) (by rw[hj,e]),((sD.trans s6).trans s7).box (aR _) m8,q,qD,r8,?_⟩;refine cR.yH N1 m8 λh0 a ha hk=>?_;obtain⟨a',cs,h1,h2⟩:=N1.2.2.2 h0;rw[ha]at h1;obtain rfl:=bO h1;exact h2.ne Wu (by decide) hk
   .rintro f _ fc _ _ _ w9 ⟨fb,rfl,rfl,rfl,sP,s9,q,qD,Wv,IV⟩
    have j7:=s2.trans s9;have h9:=h1.still j7;have g9:=g1.trans (h1.gone j7);have Ww:=rF.trans j7;refine⟨λB6 x1 aP=>∃j:Nat,x1=(j:Int)/\j<=o1.length/\B6=(dF l1+dF (o1.take j):Nat)/\aP=w9,λ_ x1 _=>(o1.length-x1).toNat,⟨0,rfl,dU _,by simp[dF],rfl⟩,?_⟩;rintro _ _ _ aP ⟨j,rfl,hj,rfl,rfl⟩;have htk:dF (o1.take j)<=dF o1:=by
     conv=>rhs;rw[<-aIh j o1,zQ]
     omega
    refine ax (λhx1=>?_) (λhx1=>?_)
    .have hx1:j<o1.length:=by have:=aQ hx1;omega
     obtain⟨gf,rfl,aLe⟩:=sP.aIT hx1;have hts:dF (o1.take (j+1))=dF (o1.take j)+(o1[j].length+1):=by rw[Bj hx1,zQ];simp[dF]
     have aFB:dF (o1.take (j+1))<=dF o1:=by
      conv=>rhs;rw[<-aIh (j+1) o1,zQ]
      omega
     refine⟨by omega,by omega,_,aLe,?_⟩;have e1:i64.wrap ((o1[j].length:Int)+1)=(o1[j].length:Int)+1:=wrap_i64 (by omega) (by omega)
     try dsimp only[zR]
     rw[e1,wrap_i64 (by omega) (by omega),wrap_i64 (by omega) (by omega)];exact⟨⟨j+1,by omega,by omega,by omega,rfl⟩,by(try dsimp only);omega⟩
    have hx1:j=o1.length:=by have:=aZ hx1;omega
    subst hx1;rw[aH0]at htk⊢;refine⟨λex wq=>ex=(k1:Int)/\wq=aP,⟨λb wq=>b=false/\wq=aP,ax (λ_=>⟨fY (by omega),rfl⟩) (λ_=>⟨rfl,rfl⟩),?_⟩,?_⟩
    .rintro _ _ bg ⟨rfl,rfl⟩
     exact ax (λh=>by cases h) (λ_=>⟨rfl,rfl⟩)
    rintro _ _ bI ⟨rfl,rfl⟩
    by_cases hk1:k1=0
    .subst hk1
     refine(S0 bI K).mono ?_;rintro _ aHa ⟨rfl,rfl⟩;refine .inl ⟨_,rfl,ax (λh=>by cases h) (λ_=>?_)⟩;refine⟨_,_,_,_,_,_,_,Wv.ai rfl,Wv.ai rfl,Wv.ai rfl,?_⟩;refine h9.setState IV s.st λbR qE g14 m14=>?_;have U_:=g9.trans g14;have aAj:w.heap.size<=bR.heap.size:=U_.mod.size;have HX:aS bR w.heap.size bJ 1 (.slice o l1.length oc) l1.length (strs l1):=(mS.still j7).mod g14.mod λj hj hk=>by obtain⟨cur,hr⟩:=(mS.still j7).typed hj;exact h9.apart hr (by decide) (by decide) (by decide) (by decide) (by decide) hk
     have azb:aS bR w2.heap.size bJ 1 (.slice f o1.length fc) o1.length (strs o1):=sP.mod g14.mod λj hj hk=>by obtain⟨cur,hr⟩:=sP.typed hj;exact h9.apart hr (by decide) (by decide) (by decide) (by decide) (by decide) hk
     refine rT HX aAj (strs o1) (by simp[strs]) (λu hu=>by obtain⟨x,_,rfl⟩:=dM.1 hu;rfl) (λhp=>(cZ.of azb).2 hp) (by omega) (by omega) λp' c' ct N2 m15 bk=>?_;refine⟨rfl,by simp,by rw[KR];exact N2,by rw[zQ],?_,?_⟩
     .refine⟨qE.tovi.mod m15 λj hj _=>?_,qE.aHh.mod m15 λj hj hk=>?_⟩
      .obtain⟨cur,hr⟩:=HX.typed hj
       have hfree:=qE.apart hr (by decide) (by decide) (by decide) (by decide) (by decide);refine⟨λe=>hfree (.inl e),λe=>hfree (.inr (.inr (.inr (.inl e)))),hr.ne qE.iV (by decide),pI qE.fns hr,λt cs hr'=>?_⟩;have e:t=bJ:=aKx λhne=>hr'.ne hr hne rfl;subst e;exact⟨by decide,by decide,by decide⟩
      .obtain⟨cur,hr⟩:=HX.typed hk
       have hfree:=qE.apart hr (by decide) (by decide) (by decide) (by decide) (by decide);rcases hj with rfl|rfl|⟨t,ht,_⟩
       .exact hfree (.inr (.inl rfl))
       .exact hfree (.inr (.inr (.inl rfl)))
       .cases ht
     .refine⟨Mod.trans U_.mod m15 (λ_ h=>h) λj hj hk=>by have:=(HX.lt j hk).1;omega,λj hj=>?_⟩
      have M5:¬(Value.slice o l1.length oc).ownBlock=some K.sb:=λe=>by obtain⟨cur,hr⟩:=HX.typed e;exact qE.apart hr (by decide) (by decide) (by decide) (by decide) (by decide) (.inr (.inr (.inr (.inl rfl))))
      have:Ft K bR j:=by
       rcases hj with e|e
       .exact .inl e
       .exact .inr ((Fc.same λo=>qE.GZ m15 M5 o).1 e)
      exact U_.new j this
    .refine(as4 bP Ww h9 k1 hk1 wk he).mono ?_
     rintro _ aHa ⟨rfl,qF,g13⟩;refine .inl ⟨_,rfl,ax (λ_=>?_) (λh=>by cases h)⟩;rcases yl with⟨_,rfl,rfl,rfl⟩|⟨e,_⟩
     .rcases hw1 with⟨e,_⟩|⟨_,_,_,_,rfl⟩
      .exact absurd e hk1
      .refine⟨?_,g9.trans g13⟩
       rw[aH hk1];exact⟨rfl,qF⟩
     .exact absurd e hk1
  .rintro o' _ oc' _ _ bX ⟨hk1,rfl,HY,rfl,aHT,g16⟩
   rw[wrap_i64 (by omega) (by omega)];rcases yl with⟨e,_⟩|⟨_,o2,hf2,rfl⟩
   .exact absurd hk1 e
   .exact⟨⟨i+1,l1++o1,o2,V1,by omega,by omega,rfl,HY,by rw[j9],rfl,aHT,g16,hf2⟩,by dsimp only;omega⟩
 .have hx:i=ws.length:=by have:=aZ hx;omega
  subst hx;rw[aJx]at hfi;obtain⟨rfl,rfl,rfl⟩:=hfi;refine⟨?_,g1⟩;rw[aN rfl,aIk];exact⟨o,oc,rfl,mS,h1⟩
abbrev uP:TypeId:=244
abbrev ym:TypeId:=101
structure sB where
 bh:ag
 dst:ag
 fr:Bool
 is:Bool
def rq(x:sB):List Value:=[.string (S x.bh),.string (S x.dst),.bool x.fr,.bool x.is]
def aJd:List (ag×List L.Pt)->Sh->sB->Sh->sB->Prop
 |[],s,x,s',x'=>s'=s/\x'=x
 |r::l,s,x,s',x'=>∃gs nm,AJ s.V r.2 (.ok (gs,s.V))/\ny (F.joined false gs) nm/\0<s.b6/\
  ((r.1=[60]/\∃d,gz s.T (jr nm)=⟨1,6,d⟩/\aJd l {s with b6:=s.b6-1} {x with fr:=true,bh:=d} s' x')\/
   (r.1=[62]/\nm≠[46]/\Lib.lastIndexByte (S (47::nm)) 47=0/\s.T.length<50/\aJd l {s with T:=ij s.T nm [] false,b6:=s.b6-1} {x with dst:=F.joined false gs,is:=true} s' x'))
def an5:cY aL JI=true:=by kernel_rfl
def as5(h:bx w w0 K s)(h0:w0.heap.size<=w.heap.size){b:Nat}(hb:w0.heap.size<=b){t:TypeId}{cs:Array Value}(hr:Row w b t cs)(h1:t≠fV)(h2:t≠lW)(h3:t≠pH)(h4:t≠5)(h5:t≠aHV)(h6:t≠U0)(h7:t≠32):Aside w w0 K λk=>k=b:=by
 have hf:=h.apart hr h1 h2 h3 h4 h5;refine⟨λk hk=>by rw[hk];exact⟨hb,hr.lt⟩,λk hk=>?_,λk hk t' cs' hr'=>?_⟩
 .subst hk
  exact⟨λe=>hf (.inl e),λe=>hf (.inr (.inr (.inr (.inl e)))),hr.ne h.iV h6,pI h.fns hr,λe=>hf (.inr (.inl e)),λe=>hf (.inr (.inr (.inl e)))⟩
 .subst hk
  have e:t'=t:=aKx λhne=>hr'.ne hr hne rfl;subst e;exact⟨h3,h4,h7⟩
def as6(bP:aHx w0)(h0:Still w0 w)(h:bx w w0 K s)(hb:0<s.b6){rb pb xb hb':Nat}{op path nm:ag}{wv:Value}{x:sB}(hr:Row w rb 138 ⟨[.string (S op),wv]⟩)(hp:Row w pb bJ ⟨[.string (S path)]⟩)(hx:Row w xb uP ⟨rq x⟩)(hxb:w0.heap.size<=xb)(hh:Row w hb' ym ⟨[.pointer (some ⟨K.hb,0,none⟩)]⟩)(o:ny path nm){T1:Tree}{x1:sB}
  (hc:(op=[60]/\∃d,gz s.T (jr nm)=⟨1,6,d⟩/\T1=s.T/\x1={x with fr:=true,bh:=d})\/(op=[62]/\nm≠[46]/\Lib.lastIndexByte (S (47::nm)) 47=0/\s.T.length<50/\T1=ij s.T nm [] false/\x1={x with dst:=path,is:=true})):
  an Dk #[.pointer (some ⟨K.hb,0,none⟩),.func (.func JI) #[] #[.pointer (some ⟨rb,0,none⟩),.pointer (some ⟨pb,0,none⟩),.pointer (some ⟨xb,0,none⟩),.pointer (some ⟨hb',0,none⟩)]] w λe w'=>e=.returned (.int .i64 0)/\bx w' w0 K {s with T:=T1,b6:=s.b6-1}/\cj (λk=>Ft K w k\/k=xb) w (Ft K w') w'/\Row w' xb uP ⟨rq x1⟩:=by
 have hz0:=h0.size;obtain⟨vp,vc,CT,_⟩:=h.fW;have hax:=as5 h hz0 hxb hx (by decide) (by decide) (by decide) (by decide) (by decide) (by decide) (by decide);refine aaV bP h0 h hb (cap:=[.pointer (some ⟨rb,0,none⟩),.pointer (some ⟨pb,0,none⟩),.pointer (some ⟨xb,0,none⟩),.pointer (some ⟨hb',0,none⟩)]) an5 hax (T1:=T1) ?_ (Q:=λw'=>Row w' xb uP ⟨rq x1⟩) (λwa wb hq hm=>hq.mod hm λhn=>hn rfl) ?_
 .rcases hc with⟨_,d,_,rfl,_⟩|⟨_,_,_,Va,rfl,_⟩
  .exact h.mU
  .exact h.mU.put _ _ Va
 intro w1 t m1 ri low;have na:∀{b:Nat} {ty:TypeId} {cs:Array Value},Row w b ty cs->ty≠aHV->b≠K.a:=λhr hne=>hr.ne h.aHh.top hne;have cy:=hr.mod m1 (na hr (by decide));have hp1:=hp.mod m1 (na hp (by decide));have hx1:=hx.mod m1 (na hx (by decide));have N3:=hh.mod m1 (na hh (by decide));have hs1:=CT.mod m1 (na CT (by decide));have M6:ga w1 K.pb K.a:=h.iV.mod m1 (na h.iV (by decide));have rF:Still w0 w1:=Mod.trans h0 m1 (λ_ h=>h) λj hj e=>by have:=h.aHh.low.1;omega
 have EX:∀{b:Nat} {ty:TypeId} {cs:Array Value},Row w b ty cs->ty≠aHV->¬SF K.a K.g (some t) b:=λhr hne hk=>by
  rcases low _ hk with e|e|e
  .exact na hr hne e
  .exact pI h.aHh.now hr e
  .have:=hr.lt;omega
 have N4:¬RF (some t) K.pb:=λhk=>EX h.iV (by decide) (RF.sf hk);apply akd;refine⟨_,cy.ai rfl,ax (λhop=>?_) (λhop=>?_)⟩
 .rcases hc with⟨rfl,_⟩|⟨rfl,hnm,sO,_,rfl,rfl⟩
  .simp at hop
  refine⟨_,hp1.ai rfl,dL (g:=xb) (o:=1) hx1 (by simp[rq]) (by simp[Value.oneCell']) λw2 r2 m2 z2=>?_⟩;refine dL (g:=xb) (o:=3) r2 (by simp[rq,fF]) (by simp[Value.oneCell']) λw3 r3 m3 z3=>?_;have m13:Mod (λk=>k=xb) w1 w3:=Mod.trans m2 m3 (λ_ h=>h) (λ_ _ h=>h);have sD:Still w3 w3.drew:=(Still.refl _).cG;have nx:∀{b:Nat} {ty:TypeId} {cs:Array Value},Row w b ty cs->ty≠uP->b≠xb:=λhr hne=>hr.ne hx hne;have hr3:=(cy.mod m13 (nx hr (by decide))).still sD;have oY:=(hp1.mod m13 (nx hp (by decide))).still sD;have mV:=(N3.mod m13 (nx hh (by decide))).still sD;have hs3:=(hs1.mod m13 (nx CT (by decide))).still sD;have Vb:ga w3.drew K.pb K.a:=(M6.mod m13 (nx h.iV (by decide))).still sD;have uZ:=(ri.mod m13 λk hk e=>EX hx (by decide) (by rw[<-e];exact hk)).still sD;have aJW:Still w0 w3.drew:=Still.trans (Mod.trans rF m13 (λ_ h=>h) λj hj e=>by omega) sD;refine⟨λwq=>Row wq rb 138 ⟨[.string (S [62]),wv]⟩/\Row wq pb bJ ⟨[.string (S path)]⟩/\Row wq hb' ym ⟨[.pointer (some ⟨K.hb,0,none⟩)]⟩/\Row wq K.hb fV ⟨gV K vp vc s⟩,⟨hr3,oY,mV,hs3⟩,_,λwq hq=>hq.2.2.1.ai rfl,_,λwq hq=>hq.2.2.2.ai rfl,_,λwq hq=>hq.2.1.ai rfl,_,λwq hq=>hq.1.ai rfl,?_⟩;refine(aaT bP aJW uZ Vb N4 o hnm sO h.mU [] false (by simp)).mono ?_;rintro _ w4 ⟨rfl,aHS,m4⟩;have nwf:¬WF K.g (some t) xb:=λhk=>EX hx (by decide) (WF.sf hk);refine .inl ⟨_,rfl,rfl,⟨5,by decide,aHS⟩,Mod.trans (Mod.trans m13 sD (λ_ h=>h) (λ_ _ h=>h.elim)) m4 (λ_ h=>.inr h) (λ_ _ h=>.inl (WF.sf h)),?_⟩;exact(r3.still sD).mod m4 nwf
 .rcases hc with⟨rfl,d,hd,rfl,rfl⟩|⟨rfl,_⟩
  .refine dL (g:=xb) (o:=2) hx1 (by simp[rq]) (by simp[Value.oneCell']) λw3 r3 m13 z3=>?_
   have sD:Still w3 w3.drew:=(Still.refl _).cG;have nx:∀{b:Nat} {ty:TypeId} {cs:Array Value},Row w b ty cs->ty≠uP->b≠xb:=λhr hne=>hr.ne hx hne;have oY:=(hp1.mod m13 (nx hp (by decide))).still sD;have mV:=(N3.mod m13 (nx hh (by decide))).still sD;have hs3:=(hs1.mod m13 (nx CT (by decide))).still sD;have Vb:ga w3.drew K.pb K.a:=(M6.mod m13 (nx h.iV (by decide))).still sD;have uZ:=(ri.mod m13 λk hk e=>EX hx (by decide) (by rw[<-e];exact hk)).still sD;have aJW:Still w0 w3.drew:=Still.trans (Mod.trans rF m13 (λ_ h=>h) λj hj e=>by omega) sD;refine⟨λwq=>Row wq pb bJ ⟨[.string (S path)]⟩/\Row wq hb' ym ⟨[.pointer (some ⟨K.hb,0,none⟩)]⟩/\Row wq K.hb fV ⟨gV K vp vc s⟩,⟨oY,mV,hs3⟩,_,λwq hq=>hq.2.1.ai rfl,_,λwq hq=>hq.2.2.ai rfl,_,λwq hq=>hq.1.ai rfl,?_⟩;refine(abY bP aJW uZ Vb N4 o hd).mono ?_;rintro _ w4 ⟨rfl,aHS,m4⟩;have IW:¬RF (some t) xb:=λhk=>EX hx (by decide) (RF.sf hk);have r4:=(r3.still sD).mod m4 IW;refine .inl ⟨_,_,rfl,dL (g:=xb) (o:=0) r4 (by simp[rq,fF]) (by simp[Value.oneCell']) λw5 r5 m5 z5=>?_⟩;refine⟨rfl,⟨3,by decide,aHS.mod m5 λk hk e=>EX hx (by decide) (by rw[<-e];exact hk)⟩,Mod.trans (Mod.trans (Mod.trans m13 sD (λ_ h=>h) (λ_ _ h=>h.elim)) m4 (U:=λk=>SF K.a K.g (some t) k\/k=xb) (λ_ h=>.inr h) (λ_ _ h=>.inl (RF.sf h))) m5 (λ_ h=>h) (λ_ _ h=>.inr h),r5⟩
  .simp at hop
def bx.other(h:bx w w0 K s){b:Nat}{t:TypeId}{cs:Array Value}(hr:Row w b t cs)(h1:t≠fV)(h2:t≠lW)(h3:t≠pH)(h4:t≠5)(h5:t≠aHV)(h6:t≠U0)(h7:t≠32){w':World}(hm:Mod (λk=>k=b) w w'):bx w' w0 K s/\∀k,Ft K w' k->Ft K w k:=by
 have hf:=h.apart hr h1 h2 h3 h4 h5;refine⟨⟨h.tovi.mod hm λj hj _=>?_,h.aHh.mod hm λj hj hk=>?_⟩,λk hk=>?_⟩
 .subst hj
  refine⟨λe=>hf (.inl e),λe=>hf (.inr (.inr (.inr (.inl e)))),hr.ne h.iV h6,pI h.fns hr,λt' cs' hr'=>?_⟩;have e:t'=t:=aKx λhne=>hr'.ne hr hne rfl;subst e;exact⟨h3,h4,h7⟩
 .subst hk
  rcases hj with e|e|⟨t,ht,_⟩
  .exact hf (.inr (.inl e))
  .exact hf (.inr (.inr (.inl e)))
  .cases ht
 .rcases hk with e|e
  .exact .inl e
  .exact .inr ((Fc.same λo=>h.GZ hm (λe=>hf (.inr (.inr (.inr (.inl e.symm))))) o).1 e)
def as7(bP:aHx w0)(h0:Still w0 w)(h:bx w w0 K s){rs:List (ag×List L.Pt)}{p:Option Addr}{n c:Nat}{D:Nat->Prop}(hs:L.aIb.At w D rs (.slice p n c))(hD:Kept D (Ft K w) w){s':Sh}{x':sB}(hf:aJd rs s ⟨s.bh,[],false,false⟩ s' x')(y_:rs.length<=10000):
  an P8 #[.pointer (some ⟨K.hb,0,none⟩),.slice p n c] w (λe w'=>e=.returned (.tuple #[.agg #[.string (S x'.bh),.string (S x'.dst),.bool x'.fr,.bool x'.is],.bool true])/\bx w' w0 K s'/\cj (Ft K w) w (Ft K w') w'):=by
 obtain⟨rfl,hc⟩:=hs.len;have hz0:=h0.size;apply ak0;refine aO λw1 r1 s1 z1=>aO λw2 r2 s2 z2=>?_;have q1:=r1.still s2;have dD:=s1.trans s2;have h2:=h.still dD;refine⟨_,q1.ai rfl,_,h2.cell λ_ _=>rfl,bF (g:=w1.heap.size) (o:=0) r2 λw3 r3 m3 z3=>?_⟩;have jh:Still w w3:=dD.box (by omega) m3;have h3:=h.still jh;have q3:=q1.mod m3 (by omega);refine⟨λx w4=>∃(i:Nat) (si:Sh) (xi:sB),x=(i:Int)/\i<=rs.length/\bx w4 w0 K si/\cj (Ft K w) w (Ft K w4) w4/\Row w4 w.heap.size ym ⟨[.pointer (some ⟨K.hb,0,none⟩)]⟩/\Row w4 w1.heap.size uP ⟨rq xi⟩/\aJd (rs.drop i) si xi s' x',λx _=>(rs.length-x).toNat,⟨0,s,⟨s.bh,[],false,false⟩,rfl,dU _,h3,h.gone jh,q3,r3,hf⟩,?_⟩;rintro x _ w4 ⟨i,si,xi,rfl,hi,h4,g4,q4,r4,hfi⟩;have IX:Still w0 w4:=Mod.trans h0 g4.mod (λ_ h=>h) λj hj hk=>by have:=(h.lt hk).1;omega
 have A6:=g4.mod.size;refine ax (λhx=>?_) (λhx=>?_)
 .have hx:i<rs.length:=by have:=aQ hx;omega
  rw[qM hx]at hfi;obtain⟨gs,nm,ok,o,hb,hcase⟩:=hfi;have hs4:=hs.mod g4.mod λj hj hk=>(hD j hj).2 hk;have hD4:=hD.gone g4;obtain⟨b,cs,rfl,N0,⟨v,rfl,gh⟩,hcell⟩:=hs4.get (iy hx);obtain⟨wp,wc,rfl⟩:=gh.form;have cl:∀(j:Nat) (u:Value),([Value.string (S rs[i].1),.slice wp rs[i].2.length wc]:List Value)[j]?=some u->w4.cell? ((b.add (Int.toNat (i:Int)*2)).add j)=some u:=λj u hu=>by rw[bW];exact hcell j u hu
  have c0:w4.cell? (b.add (Int.toNat (i:Int)*2))=some (.string (S rs[i].1)):=cl 0 _ rfl;refine⟨by omega,by omega,_,_,_,_,c0,cl 1 _ rfl,aO λw5 r5 s5 z5=>bF (g:=w4.heap.size) (o:=0) r5 λw6 r6 m6 z6=>?_⟩;have jx:Still w4 w6:=s5.box (aR _) m6;have h6:=h4.still jx;have q6:=q4.still jx;have N5:=h4.gone jx;have hpl:=o.len;refine⟨_,q6.ai rfl,_,_,_,r6.ai rfl,(awW bP (IX.trans jx) h6 (gh.still jx) (hD4.gone N5) ok false (by omega)).mono ?_⟩;rintro _ w7 ⟨rfl,h7,g7⟩;have n6:∀{k:Nat} {ty:TypeId} {cs:Array Value},Row w6 k ty cs->ty≠fV->ty≠lW->ty≠pH->ty≠5->ty≠aHV->¬Ft K w6 k:=λhr a b c d e=>h6.apart hr a b c d e;have r7:=r6.mod g7.mod (n6 r6 (by decide) (by decide) (by decide) (by decide) (by decide));have q7:=q6.mod g7.mod (n6 q6 (by decide) (by decide) (by decide) (by decide) (by decide));have x7:=(r4.still jx).mod g7.mod (n6 (r4.still jx) (by decide) (by decide) (by decide) (by decide) (by decide));refine .inl ⟨_,_,rfl,aO λw8 r8 s8 z8=>bF (g:=w7.heap.size) (o:=0) r8 λw9 r9 m9 z9=>?_⟩;have pY:Still w7 w9:=s8.box (aR _) m9;have h9:=h7.still pY;have g49:=(N5.trans g7).trans (h7.gone pY);have g09:=g4.trans g49;have Ww:Still w0 w9:=Mod.trans h0 g09.mod (λ_ h=>h) λj hj hk=>by have:=(h.lt hk).1;omega
  refine ax (λh=>by cases h) (λ_=>⟨_,(q7.still pY).ai rfl,?_⟩);have ox:w0.heap.size<=w1.heap.size:=by omega
  have q9:=q7.still pY;have x9:=x7.still pY;obtain⟨T1,x1,hc,hr⟩:∃T1 x1,((rs[i].1=[60]/\∃d,gz si.T (jr nm)=⟨1,6,d⟩/\T1=si.T/\x1={xi with fr:=true,bh:=d})\/(rs[i].1=[62]/\nm≠[46]/\Lib.lastIndexByte (S (47::nm)) 47=0/\si.T.length<50/\T1=ij si.T nm [] false/\x1={xi with dst:=F.joined false gs,is:=true}))/\aJd (rs.drop (i+1)) {si with T:=T1,b6:=si.b6-1} x1 s' x':=by
   rcases hcase with⟨a1,d,a2,a3⟩|⟨a1,a2,a3,a5,a4⟩
   .exact⟨_,_,.inl ⟨a1,d,a2,rfl,rfl⟩,a3⟩
   .exact⟨_,_,.inr ⟨a1,a2,a3,a5,rfl,rfl⟩,a4⟩
  refine(as6 bP Ww h9 hb (r7.still pY) r9 x9 ox q9 o hc).mono ?_;rintro _ bg ⟨rfl,h11,g11,jX⟩;refine .inl ⟨_,rfl,ax (λh=>by simp at h) (λ_=>?_)⟩;rw[wrap_i64 (by omega) (by omega)];have nq:¬(Ft K w9 w.heap.size\/w.heap.size=w1.heap.size):=λhk=>hk.elim (h9.apart q9 (by decide) (by decide) (by decide) (by decide) (by decide)) λe=>by omega
  refine⟨⟨i+1,{si with T:=T1,b6:=si.b6-1},x1,by omega,by omega,h11,g09.trans' g11 λk hk hG=>hG.elim .inl λe=>by omega,q9.mod g11.mod nq,jX,hr⟩,by dsimp only;omega⟩
 .have hx:i=rs.length:=by have:=aZ hx;omega
  subst hx;rw[aJx]at hfi;obtain⟨rfl,rfl⟩:=hfi;refine⟨_,_,_,_,r4.ai rfl,r4.ai rfl,r4.ai rfl,r4.ai rfl,dL (g:=w1.heap.size) (o:=0) r4 (by simp[rq]) (by simp[Value.oneCell']) λw5 r5 m5 z5=>?_⟩;obtain⟨h5,f5⟩:=h4.other r4 (by decide) (by decide) (by decide) (by decide) (by decide) (by decide) (by decide) m5;refine⟨_,_,_,_,r5.ai rfl,r5.ai rfl,r5.ai rfl,r5.ai rfl,rfl,h5,Mod.trans g4.mod m5 (λ_ h=>h) (λj hj e=>by omega),λk hk=>g4.new k (f5 k hk)⟩
def ann:cY aL Jv=true:=by kernel_rfl
def aKo(T:Tree)(nm o:ag):Prop:=((fU T (47::nm)).d++o).length<=50000/\T.length<50
def ard(bP:aHx w0)(h0:Still w0 w)(h:bx w w0 K s)(hb:0<s.b6){hb' xb sb':Nat}{nm t:ag}{x:sB}(hh:Row w hb' ym ⟨[.pointer (some ⟨K.hb,0,none⟩)]⟩)(hx:Row w xb uP ⟨rq x⟩)(ht:Row w sb' bJ ⟨[.string (S t)]⟩)(o:ny x.dst nm)(hnm:nm≠[46])(hi:Lib.lastIndexByte (S (47::nm)) 47=0)(hl:aKo s.T nm t):
  an Dk #[.pointer (some ⟨K.hb,0,none⟩),.func (.func Jv) #[] #[.pointer (some ⟨hb',0,none⟩),.pointer (some ⟨xb,0,none⟩),.pointer (some ⟨sb',0,none⟩)]] w λe w'=>e=.returned (.int .i64 0)/\bx w' w0 K {s with T:=ij s.T nm t true,b6:=s.b6-1}/\cj (Ft K w) w (Ft K w') w':=by
 obtain⟨vp,vc,CT,_⟩:=h.fW;refine(aaV bP h0 h hb (cap:=[.pointer (some ⟨hb',0,none⟩),.pointer (some ⟨xb,0,none⟩),.pointer (some ⟨sb',0,none⟩)]) ann (X:=λ_=>False) ⟨λ_ h=>h.elim,λ_ h=>h.elim,λ_ h=>h.elim⟩ (T1:=ij s.T nm t true) (h.mU.put _ _ hl.2) (Q:=λ_=>True) (λ_ _ _ _=>trivial) ?_).mono ?_
 .intro w1 u m1 ri low
  have na:∀{b:Nat} {ty:TypeId} {cs:Array Value},Row w b ty cs->ty≠aHV->b≠K.a:=λhr hne=>hr.ne h.aHh.top hne;have sD:Still w1 w1.drew:=(Still.refl _).cG;have N3:=(hh.mod m1 (na hh (by decide))).still sD;have hx1:=(hx.mod m1 (na hx (by decide))).still sD;have ht1:=(ht.mod m1 (na ht (by decide))).still sD;have hs1:=(CT.mod m1 (na CT (by decide))).still sD;have M6:ga w1.drew K.pb K.a:=(h.iV.mod m1 (na h.iV (by decide))).still sD;have rF:Still w0 w1.drew:=Still.trans (Mod.trans h0 m1 (λ_ h=>h) λj hj e=>by have:=h.aHh.low.1;omega) sD;have N4:¬RF (some u) K.pb:=λhk=>by
   rcases low _ (RF.sf hk)with e|e|e
   .exact na h.iV (by decide) e
   .exact pI h.aHh.now h.iV e
   .have:=h.iV.lt;omega
  apply ajK;refine⟨λwq=>Row wq hb' ym ⟨[.pointer (some ⟨K.hb,0,none⟩)]⟩/\Row wq xb uP ⟨rq x⟩/\Row wq sb' bJ ⟨[.string (S t)]⟩/\Row wq K.hb fV ⟨gV K vp vc s⟩,⟨N3,hx1,ht1,hs1⟩,_,λwq hq=>hq.1.ai rfl,_,λwq hq=>hq.2.2.2.ai rfl,_,λwq hq=>hq.2.1.ai rfl,_,λwq hq=>hq.2.2.1.ai rfl,?_⟩;refine(aaT bP rF (ri.still sD) M6 N4 o hnm hi h.mU t true (by rw[aN rfl];exact hl.1)).mono ?_;rintro _ w4 ⟨rfl,aHS,m4⟩;exact .inl ⟨_,rfl,rfl,⟨5,by decide,aHS⟩,Mod.trans sD m4 (λ_ h=>h.elim) (λ_ _ h=>.inl (WF.sf h)),trivial⟩
 .rintro _ w' ⟨rfl,h1,g1,_⟩
  exact⟨rfl,h1,⟨g1.mod.weaken λk hk=>hk.elim id λh=>h.elim,λk hk=>(g1.new k hk).imp (λh=>h.elim id λh=>h.elim) id⟩⟩
def Ax(x1:sB)(s1 s3:Sh)(nm:ag):Sh:=
 if x1.is then{s3 with bh:=if x1.fr then s1.bh else s3.bh,out:=s1.out,T:=ij s3.T nm s3.out true,b6:=s3.b6-1}else{s3 with bh:=if x1.fr then s1.bh else s3.bh}
def aac(bP:aHx w0)(h0:Still w0 w)(h:bx w w0 K s){rs:List (ag×List L.Pt)}{p:Option Addr}{n c:Nat}{D:Nat->Prop}(hs:L.aIb.At w D rs (.slice p n c))(hD:Kept D (Ft K w) w){s1 s3:Sh}{x1:sB}{nm:ag}(hf:aJd rs s ⟨s.bh,[],false,false⟩ s1 x1)(y_:rs.length<=10000)
  (hx:x1.is=true->0<s3.b6/\ny x1.dst nm/\nm≠[46]/\Lib.lastIndexByte (S (47::nm)) 47=0/\aKo s3.T nm s3.out)
  {f:FuncId}{cap:List Value}(hc:cY aL f=true)
  (IQ:∀w7,bx w7 w0 K {s1 with bh:=x1.bh,out:=if x1.is then[]else s1.out}->cj (Ft K w) w (Ft K w7) w7->an f ⟨cap⟩ w7 λe w8=>e=.returned (.tuple #[])/\bx w8 w0 K s3/\cj (Ft K w7) w7 (Ft K w8) w8):
  an JE #[.pointer (some ⟨K.hb,0,none⟩),.slice p n c,.func (.func f) #[] ⟨cap⟩] w (λe w'=>e=.returned (.tuple #[])/\bx w' w0 K (Ax x1 s1 s3 nm)/\cj (Ft K w) w (Ft K w') w'):=by
 apply aj6;refine aO λw1 r1 q1 z1=>⟨_,r1.ai rfl,(as7 bP (h0.trans q1) (h.still q1) (hs.still q1) (hD.gone (h.gone q1)) hf y_).mono ?_⟩;rintro _ w2 ⟨rfl,h2,g2⟩;have ap:∀{w:World} {s:Sh} {k:Nat} {ty:TypeId} {cs:Array Value},bx w w0 K s->Row w k ty cs->ty≠fV->ty≠lW->ty≠pH->ty≠5->ty≠aHV->¬Ft K w k:=λh hr a b c d e=>h.apart hr a b c d e;have p2:=r1.mod g2.mod (ap (h.still q1) r1 (by decide) (by decide) (by decide) (by decide) (by decide));have aI7:=(h.gone q1).trans g2;refine .inl ⟨_,_,_,_,_,rfl,aO λw3 r3 Wx z3=>bF (g:=w2.heap.size) (o:=0) r3 λw4 r4 m4 z4=>?_⟩;have aHU:Still w2 w4:=Wx.box (aR _) m4;have h4:=h2.still aHU;have IY:=aI7.trans (h2.gone aHU);have p4:=p2.still aHU;have r4:Row w4 w2.heap.size uP ⟨rq x1⟩:=r4;have sD:Still w4 w4.drew:=(Still.refl _).cG;have Wy:=h4.still sD;have aAk:=IY.trans (h4.gone sD);have Wz:=p4.still sD;have WA:=r4.still sD;refine ax (λh=>by cases h) (λ_=>⟨_,p4.ai rfl,_,h4.cell λ_ _=>rfl,_,p4.ai rfl,_,h4.cell λ_ _=>rfl,_,Wz.ai rfl,_,WA.ai rfl,?_⟩);refine Wy.afG x1.bh λw5 h5 g5 m5=>?_;have r5:=WA.mod g5.mod (ap Wy WA (by decide) (by decide) (by decide) (by decide) (by decide));have p5:=Wz.mod g5.mod (ap Wy Wz (by decide) (by decide) (by decide) (by decide) (by decide));have N6:=aAk.trans g5;refine⟨λw7=>bx w7 w0 K {s1 with bh:=x1.bh,out:=if x1.is then[]else s1.out}/\cj (Ft K w) w (Ft K w7) w7/\Row w7 w2.heap.size uP ⟨rq x1⟩/\Row w7 w.heap.size ym ⟨[.pointer (some ⟨K.hb,0,none⟩)]⟩,⟨_,r5.ai rfl,ax (λhb=>?_) (λhb=>?_)⟩,?_⟩
 .refine⟨_,p5.ai rfl,h5.Mc [] λw6 h6 g6 m6=>?_⟩
  rw[aN hb];exact⟨h6,N6.trans g6,r5.mod g6.mod (ap h5 r5 (by decide) (by decide) (by decide) (by decide) (by decide)),p5.mod g6.mod (ap h5 p5 (by decide) (by decide) (by decide) (by decide) (by decide))⟩
 .rw[aH (by rw[hb];decide)]
  exact⟨h5,N6,r5,p5⟩
 rintro _ w7 ⟨h7,zl,r7,p7⟩;refine aI1 (ax (λ_=>?_) (λh=>by rw[hc]at h;cases h));refine(IQ w7 h7 zl).mono ?_;rintro _ w8 ⟨rfl,h8,g8⟩;have r8:=r7.mod g8.mod (ap h7 r7 (by decide) (by decide) (by decide) (by decide) (by decide));have p8:=p7.mod g8.mod (ap h7 p7 (by decide) (by decide) (by decide) (by decide) (by decide));have IZ:=zl.trans g8;refine .inl ⟨rfl,λaP=>bx aP w0 K {s3 with bh:=if x1.fr then s1.bh else s3.bh}/\cj (Ft K w) w (Ft K aP) aP/\Row aP w2.heap.size uP ⟨rq x1⟩/\Row aP w.heap.size ym ⟨[.pointer (some ⟨K.hb,0,none⟩)]⟩,⟨_,r8.ai rfl,ax (λhb=>?_) (λhb=>?_)⟩,?_⟩
 .refine⟨_,p8.ai rfl,h8.afG s1.bh λw9 h9 g9 m9=>?_⟩
  rw[aN hb];exact⟨h9,IZ.trans g9,r8.mod g9.mod (ap h8 r8 (by decide) (by decide) (by decide) (by decide) (by decide)),p8.mod g9.mod (ap h8 p8 (by decide) (by decide) (by decide) (by decide) (by decide))⟩
 .rw[aH (by rw[hb];decide)]
  exact⟨h8,IZ,r8,p8⟩
 rintro _ aP ⟨h10,g10,aHJ,wL⟩;refine⟨_,aHJ.ai rfl,ax (λhb=>?_) (λhb=>?_)⟩
 .have hb:x1.is=false:=by simpa using hb
  rw[Ax,aH (by rw[hb];decide)];exact⟨rfl,h10,g10⟩
 .have hb:x1.is=true:=by simpa using hb
  obtain⟨b1,b2,b3,b4,b5⟩:=hx hb;rw[Ax,aN hb];refine⟨_,wL.ai rfl,_,h10.cell λ_ _=>rfl,aO λbg gJ ou wM=>bF (g:=aP.heap.size) (o:=0) gJ λbI mX m12 z12=>?_⟩;have MB:Still aP bI:=ou.box (aR _) m12;have h12:=h10.still MB;have g12:=g10.trans (h10.gone MB);have WB:=wL.still MB;have jY:=aHJ.still MB;refine⟨_,WB.ai rfl,h12.Mc s1.out λaHa qF g13 m13=>?_⟩;have N7:=WB.mod g13.mod (ap h12 WB (by decide) (by decide) (by decide) (by decide) (by decide));have kE:=jY.mod g13.mod (ap h12 jY (by decide) (by decide) (by decide) (by decide) (by decide));have t13:=mX.mod g13.mod (ap h12 mX (by decide) (by decide) (by decide) (by decide) (by decide));have agC:=g12.trans g13;have aAl:Still w0 aHa:=Mod.trans h0 agC.mod (λ_ h=>h) λj hj hk=>by have:=(h.lt hk).1;omega
  refine⟨_,N7.ai rfl,(ard bP aAl qF b1 N7 kE t13 b2 b3 b4 b5).mono ?_⟩;rintro _ bR ⟨rfl,qE,g14⟩;exact .inl ⟨_,rfl,ax (λh=>by simp at h) (λ_=>⟨rfl,qE,agC.trans g14⟩)⟩
def aoZ{p:Option Addr}{n c:Nat}{V:List A.Vr}(hv:A.cR w p n c V)(hn:n<900000)(he:∀v∈V,v.exp=false):an Q2 #[.slice p n c] w (λe w'=>e=.returned (.slice none 0 0)/\Still w w'):=by
 obtain⟨rfl,hc,_⟩:=id hv;apply amy;refine⟨λo on oc x w1=>o=none/\on=0/\oc=0/\(∃i:Nat,x=(i:Int)/\i<=V.length)/\Still w w1,λ_ _ _ x _=>(V.length-x).toNat,⟨rfl,rfl,rfl,⟨0,rfl,dU _⟩,Still.refl _⟩,?_⟩;rintro _ _ _ x _ w1 ⟨rfl,rfl,rfl,⟨i,rfl,hi⟩,s1⟩;refine ax (λhx=>?_) (λhx=>⟨rfl,s1⟩);have hx:i<V.length:=by have:=aQ hx;omega
 obtain⟨a,rfl,c0,c1,c2,c3⟩:=(hv.still s1).get (iy hx);refine⟨by omega,by omega,_,_,_,_,by rw[bW];exact c0,by rw[bW];exact c1,by rw[bW];exact c2,by rw[bW];exact c3,?_⟩;refine aO λw2 r2 s2 z2=>bF (g:=w1.heap.size) (o:=0) r2 λw3 r3 m3 z3=>?_;refine⟨_,r3.ai rfl,ax (λh=>by rw[he _ (kL hx)]at h;cases h) (λ_=>?_)⟩;rw[wrap_i64 (by omega) (by omega)];exact⟨⟨rfl,rfl,rfl,⟨i+1,by omega,by omega⟩,s1.trans (s2.box (aR _) m3)⟩,by dsimp only;omega⟩
def Lh(l:List ag):total l=dF l:=rfl
def TE{l:List ag}{x:ag}(h:x∈l):x.length<=dF l:=by
 induction l with
 |nil=>cases h
 |cons a r ih=>
  simp only[dF,gi,rP]at ih⊢;rcases gE.1 h with rfl|h
  .omega
  .have:=ih h;omega
def as8(he:Env w){p:Option Addr}{c:Nat}{f:List ag}(hf:cZ w p f.length f)(hl:dF f<=3000){bh:ag}(hi:bh.length<=50000):
  an RH #[.slice p f.length c,.slice none 0 0,.string (S []),.int .i64 0,.string (S bh)] w (λe w'=>(∃x:ag,e=.returned (.string (S x)))/\Still w w'):=by
 apply anW;refine(Gf he hf (by rw[Lh];omega)).mono ?_;rintro _ w1 ⟨rfl,s1⟩;refine .inl ⟨_,rfl,(Gf (he.still s1) (cZ.nil w1) (by decide)).mono ?_⟩;rintro _ w2 ⟨rfl,s2⟩;have dD:=s1.trans s2;refine .inl ⟨_,rfl,(SW (he.still dD) (n:=0) (by decide) (by decide)).mono ?_⟩;rintro _ w3 ⟨rfl,s3⟩;have jh:=dD.trans s3;have h1:(encode f).length<=33000:=by have:=K0 (l:=f) λx hx=>Lr (n:=x.length) (by have:=TE hx;omega);rw[Lh]at this;omega
 have h2:(encode []).length=0:=rfl;have h3:(dec (0:Int).toNat).length<=20:=GY (by decide);have hin:total [encode f,encode [],[],dec (0:Int).toNat,bh]<=90000:=by simp only[total,gi,qR,rP,Ks,cq];omega
 refine .inl ⟨_,rfl,aO λw4 r4 s4 z4=>?_⟩;have mo:=jh.trans s4;have ra:cZ w4 (some ⟨w3.heap.size,0,none⟩) 5 [encode f,encode [],[],dec (0:Int).toNat,bh]:=cZ.row r4;refine(Gf (he.still mo) ra (by omega)).mono ?_;rintro _ w5 ⟨rfl,s5⟩;have hle:(encode [encode f,encode [],[],dec (0:Int).toNat,bh]).length<1000000:=by have:=K0 (l:=[encode f,encode [],[],dec (0:Int).toNat,bh]) λx hx=>Lr (n:=x.length) (by have:=TE hx;rw[Lh]at hin;omega);omega
 refine .inl ⟨_,rfl,(au2 _ hle).mono ?_⟩;rintro _ w6 ⟨⟨y6,rfl⟩,s6⟩;exact .inl ⟨_,rfl,⟨_,rfl⟩,(mo.trans s5).trans s6⟩
def avp(h:bx w w0 K s)(x:ag):an Qk #[.pointer (some ⟨K.hb,0,none⟩),.string (S x)] w (λe w'=>e=.returned (.bool false)/\w'=w):=by apply ali;obtain⟨y,hy⟩:=h.gX;exact⟨_,h.cell λ_ _=>rfl,_,hy.row.ai rfl,ax (λh=>by cases h) (λ_=>ax (λ_=>⟨rfl,rfl⟩) (λh=>by simp at h))⟩
def apQ(h0:Still w0 w)(h:bx w w0 K s)(st:Int)(out err:ag)(ho:s.out.length+out.length<=1000000000)(he:s.err.length+err.length<=1000000):
  an PE #[.pointer (some ⟨K.hb,0,none⟩),.agg #[.int .i64 st,.string (S out),.string (S err)]] w (λe w'=>e=.returned (.tuple #[])/\bx w' w0 K {s with st:=st,out:=s.out++out,err:=s.err++err}/\cj (Ft K w) w (Ft K w') w'):=by
 apply aki;refine aO λw1 r1 s1 z1=>?_;have h1:=h.still s1;refine⟨_,r1.ai rfl,h1.HD st λw2 h2 g2 m2=>?_⟩;have sD:Still w2 w2.drew:=(Still.refl _).cG;have ap:∀{w:World} {s:Sh} {k:Nat} {ty:TypeId} {cs:Array Value},bx w w0 K s->Row w k ty cs->ty≠fV->ty≠lW->ty≠pH->ty≠5->ty≠aHV->¬Ft K w k:=λh hr a b c d e=>h.apart hr a b c d e;have r2:=(r1.mod g2.mod (ap h1 r1 (by decide) (by decide) (by decide) (by decide) (by decide))).still sD;have WC:=h2.still sD;obtain⟨vp,vc,hh2,_⟩:=WC.fW;have aI7:=((h.gone s1).trans g2).trans (h2.gone sD);refine⟨λwq=>Row wq K.hb fV ⟨gV K vp vc {s with st:=st}⟩/\Row wq w.heap.size 35 ⟨[.int .i64 st,.string (S out),.string (S err)]⟩,⟨hh2,r2⟩,_,λwq hq=>hq.1.ai rfl,_,λwq hq=>hq.2.ai rfl,by dsimp only;omega,WC.Mc (s.out++out) λw3 h3 g3 m3=>?_⟩;have sE:Still w3 w3.drew:=(Still.refl _).cG;have r3:=(r2.mod g3.mod (ap WC r2 (by decide) (by decide) (by decide) (by decide) (by decide))).still sE;have nE:=h3.still sE;obtain⟨vj,aJg,mV,_⟩:=nE.fW;have jj:=(aI7.trans g3).trans (h3.gone sE);have hz:w0.heap.size<=w3.drew.heap.size:=kf h0.size jj.mod.size;refine⟨λwq=>Row wq K.hb fV ⟨gV K vj aJg {s with st:=st,out:=s.out++out}⟩/\Row wq w.heap.size 35 ⟨[.int .i64 st,.string (S out),.string (S err)]⟩,⟨mV,r3⟩,_,λwq hq=>hq.1.ai rfl,_,λwq hq=>hq.2.ai rfl,(nE.acZ hz err he).mono ?_⟩;rintro _ w4 ⟨rfl,h4,g4⟩;exact .inl ⟨_,_,rfl,rfl,rfl,h4,jj.trans g4⟩
def as9(bP:aHx w0)(h0:Still w0 w)(h:bx w w0 K s){T1:Tree}(hT:gu T1){t:Tb}{w2:World}(aJv:Mod (λk=>k=K.a\/k=K.g) w w2){n:Nat}(hn:n<=12)(h2:cv w2 w0.heap.size K.a K.g (some t) n T1):
  vi w2 w0 K s/\an FK #[.pointer (some ⟨K.a,0,none⟩)] w2 (λe w3=>(∃p1 n1 c1 p2 n2 c2,e=.returned (.tuple #[.slice p1 n1 c1,.slice p2 n2 c2]))/\bx w3 w0 K {s with T:=T1}/\cj (Ft K w) w (Ft K w3) w3/\Mod (λk=>k=K.a) w2 w3):=by
 obtain⟨t1,t2,t3,t4,t5,t6,t7,t8,t9,t10,t11,t12,t13⟩:=h.tys;obtain⟨x0,hx0⟩:=h.gX;have ap:∀k,(k=K.a\/k=K.g)->k<w.heap.size->k≠K.hb/\k≠K.sb/\k≠K.pb/\k≠K.fm/\∀t cs,Row w k t cs->t≠pH/\t≠5/\t≠32:=λk hk _=>by
  rcases hk with rfl|rfl
  .refine⟨λe=>t2 e.symm,λe=>t6 e.symm,t10,t11,λt cs hr=>?_⟩
   have e:t=aHV:=aKx λhne=>hr.ne h.aHh.top hne rfl;subst e;exact⟨by decide,by decide,by decide⟩
  .exact⟨λe=>t3 e.symm,λe=>t7 e.symm,t12,t13,λt cs hr=>absurd rfl (h.aHh.now.c7 hr)⟩
 have aJV:Still w0 w2:=Mod.trans h0 aJv (λ_ h=>h) λk hk hS=>by
  rcases hS with e|e
  .have:=h.aHh.low.1;omega
  .have:=h.aHh.low.2;omega
 refine⟨h.tovi.mod aJv ap,(acT bP.env aJV h2 hn).mono ?_⟩;rintro _ w3 ⟨⟨p1,n1,c1,p2,n2,Wk,rfl⟩,h3,m3⟩;have A5:Mod (λk=>k=K.a\/k=K.g) w w3:=Mod.trans aJv m3 (λ_ h=>h) (λ_ _ h=>.inl h);have sN:vi w3 w0 K s:=h.tovi.mod A5 ap;refine⟨⟨_,_,_,_,_,_,rfl⟩,⟨⟨hT,sN.iV,sN.fns,sN.fW,by obtain⟨x,hx⟩:=sN.gX;exact⟨x,hx.gW,hx.mT,hx.cB⟩,sN.low,sN.CO⟩,h3.top,h3.now,h3.cB,h3.low,λt ht=>by cases ht⟩,⟨A5.weaken λk hk=>?_,λk hk=>.inl ?_⟩,m3⟩
 .rcases hk with e|e
  .exact .inr (.inl e)
  .exact .inr (.inr (.inl e))
 .rcases hk with hk|hk
  .exact .inl hk
  .refine .inr ((Fc.same λo=>World.cell?_of_block (A5.block _ hx0.row.lt λhs=>?_)).1 hk)
   rcases hs with e|e
   .exact t6 e
   .exact t7 e
def aIN(T:Tree)(f:List ag)(bh:ag)(st:Int)(out err:ag)(T':Tree):Prop:=∀(w w0:World) (a g pb:Nat) (t:Tb) (p:Option Addr) (c B:Nat),aHx w0->Still w0 w->cv w w0.heap.size a g (some t) 0 T->ga w pb a->¬RF (some t) pb->aS w B bJ 1 (.slice p f.length c) f.length (strs f)->
 an F8 #[.pointer (some ⟨pb,0,none⟩),.slice p f.length c,.string (S bh)] w (λe w'=>e=.returned (.tuple #[.agg #[.int .i64 st,.string (S out),.string (S err)],.bool true])/\(∃n,n<=12/\cv w' w0.heap.size a g (some t) n T')/\Mod (SF a g (some t)) w w')
abbrev azc:TypeId:=35
def Ran(w w0:World)(K:Kx)(t:Tb)(st:Int)(out err:ag)(T':Tree)(r:Option Addr)(ok:Bool)(w':World):Prop:=∃rb,r=some ⟨rb,0,none⟩/\ok=true/\w.heap.size<=rb/\Row w' rb azc ⟨[.int .i64 st,.string (S out),.string (S err)]⟩/\(∃n,n<=12/\cv w' w0.heap.size K.a K.g (some t) n T')/\Mod (SF K.a K.g (some t)) w w'
def ao0(bP:aHx w0)(h0:Still w0 w)(h:bx w w0 K s){p:Option Addr}{c B:Nat}{f:List ag}(hf:aS w B bJ 1 (.slice p f.length c) f.length (strs f))(hfl:dF f<=3000)(hin:s.bh.length<=50000){vp:Option Addr}{vn vc:Nat}{V:List A.Vr}(hv:A.cR w vp vn vc V)(IT:vn<900000)(WD:∀v∈V,v.exp=false)
  {st:Int}{out err:ag}{T':Tree}(ht:aIN s.T f s.bh st out err T')(hT:gu T')(hb:0<s.b6)(ho:s.out.length+out.length<=1000000000)(he:s.err.length+err.length<=1000000):
  an aKP #[.pointer (some ⟨K.hb,0,none⟩),.slice p f.length c,.slice vp vn vc] w (λe w'=>e=.returned (.tuple #[])/\bx w' w0 K {s with T:=T',b6:=s.b6-1,st:=st,out:=s.out++out,err:=s.err++err}/\cj (Ft K w) w (Ft K w') w'):=by
 apply ajV;have sD:Still w w.drew:=(Still.refl _).cG;have hD:=h.still sD;obtain⟨vpD,yS,hhD,_⟩:=hD.fW;obtain⟨xD,hxD⟩:=hD.gX;refine⟨λwq=>Row wq K.hb fV ⟨gV K vpD yS s⟩/\Row wq K.sb lW ⟨aIc K xD s⟩,⟨hhD,hxD.row⟩,_,λwq hq=>hq.1.ai rfl,_,λwq hq=>hq.1.ai rfl,_,λwq hq=>hq.2.ai rfl,_,λwq hq=>hq.1.ai rfl,(aoZ (hv.still sD) IT WD).mono ?_⟩;rintro _ w1 ⟨rfl,s1⟩;have EY:=sD.trans s1;refine .inl ⟨_,_,_,rfl,⟨hhD.still s1,hxD.row.still s1⟩,(as8 ((bP.still h0).env.still EY) (cZ.of (hf.still EY)) hfl hin).mono ?_⟩;rintro _ w2 ⟨⟨key,rfl⟩,s2⟩;have dD:=EY.trans s2;have h2:=h.still dD;refine .inl ⟨_,rfl,(avp h2 key).mono ?_⟩;rintro _ w3 ⟨rfl,rfl⟩;refine .inl ⟨_,rfl,ax (λh=>by cases h) (λ_=>?_)⟩;obtain⟨x3,hx3⟩:=h2.gX;have aJW:=h0.trans dD;refine⟨_,h2.cell λ_ _=>rfl,_,hx3.row.ai rfl,(aaN h2.aHh aJW).mono ?_⟩;rintro _ w4 ⟨rfl,t,aHS,m4,g1,g2,g3,g4⟩;have low:∀k,SF K.a K.g (some t) k->k=K.a\/k=K.g\/w3.heap.size<=k:=λk hk=>by
  rcases hk with e|e|⟨t',ht',hk⟩
  .exact .inl e
  .exact .inr (.inl e)
  .obtain rfl:=bO ht'
   rcases hk with rfl|rfl|rfl|rfl<;>exact .inr (.inr (by assumption))
 have na:∀{b:Nat} {ty:TypeId} {cs:Array Value},Row w3 b ty cs->ty≠aHV->b≠K.a:=λhr hne=>hr.ne h2.aHh.top hne;obtain⟨vj,aJg,mV,_⟩:=h2.fW;have sE:Still w4 w4.drew:=(Still.refl _).cG;have EZ:=(mV.mod m4 (na mV (by decide))).still sE;have hs4:=(hx3.row.mod m4 (na hx3.row (by decide))).still sE;have WE:aS w4.drew B bJ 1 (.slice p f.length c) f.length (strs f):=(((hf.still dD).mod m4 λk hk e=>by obtain⟨cur,hr⟩:=(hf.still dD).typed hk;exact na hr (by decide) e)).still sE;have IX:Still w0 w4.drew:=Still.trans (Mod.trans aJW m4 (λ_ h=>h) λj hj e=>by have:=h2.aHh.low.1;omega) sE;have Vd:=aHS.still sE;have IW:∀k,w4.heap.size<=k->¬RF (some t) k:=λk hk hr=>by have:=(aHS.aHO (RF.sf (a:=K.a) (g:=K.g) hr)).2;omega
 have I0:∀k,w4.heap.size<=k->¬SF K.a K.g (some t) k:=λk hk hr=>by have:=(aHS.aHO hr).2;omega
 refine .inl ⟨rfl,Ran w4 w0 K t st out err T',⟨λwq=>Row wq K.hb fV ⟨gV K vj aJg s⟩/\Row wq K.sb lW ⟨aIc K x3 s⟩,⟨EZ,hs4⟩,_,λwq hq=>hq.1.ai rfl,_,λwq hq=>hq.2.ai rfl,_,λwq hq=>hq.1.ai rfl,_,λwq hq=>hq.1.ai rfl,_,λwq hq=>hq.2.ai rfl,_,λwq hq=>hq.1.ai rfl,?_,?_⟩,?_⟩
 .refine(aKe rfl).mono ?_
  rintro _ w5 ⟨rfl,p5,s5,z5⟩;have ez:w4.drew.heap.size=w4.heap.size:=rfl;refine .inl ⟨_,rfl,⟨EZ.still s5,hs4.still s5⟩,?_,?_⟩
  .refine(ht w5 w0 K.a K.g _ t p c B bP (IX.trans s5) (Vd.still s5) p5 (IW _ (Q9 ez)) (WE.still s5)).mono ?_
   rintro _ w6 ⟨rfl,⟨n,hn,h6⟩,m6⟩;refine .inl ⟨_,_,_,_,rfl,aO λw7 r7 s7 z7=>?_⟩;have kk:∀{b:Nat} {ty:TypeId} {cs:Array Value},Row w3 b ty cs->ty≠aHV->¬SF K.a K.g (some t) b:=λhr hne hk=>by
    rcases low _ hk with e|e|e
    .exact na hr hne e
    .exact pI h2.aHh.now hr e
    .have:=hr.lt;omega
   refine⟨⟨((EZ.still s5).mod m6 (kk mV (by decide))).still s7,((hs4.still s5).mod m6 (kk hx3.row (by decide))).still s7⟩,bF (g:=w6.heap.size) (o:=0) r7 λw8 r8 m8 z8=>?_⟩;have A4:=m6.size;have IA:=s5.size;refine⟨w6.heap.size,rfl,rfl,by omega,r8,⟨n,hn,(h6.still s7).mod m8 λk hk e=>I0 _ (by omega) hk⟩,Mod.trans (Mod.trans (sE.trans s5) m6 (λ_ h=>h.elim) (λ_ _ h=>h)) (s7.box (aR _) m8) (λ_ h=>h) (λ_ _ h=>h.elim)⟩
  .refine aO λw9 r9 s9 z9=>⟨⟨(EZ.still s5).still s9,(hs4.still s5).still s9⟩,?_⟩
   refine(ht w9 w0 K.a K.g _ t p c B bP ((IX.trans s5).trans s9) ((Vd.still s5).still s9) (p5.still s9) (IW _ (Q9 ez)) ((WE.still s5).still s9)).mono ?_;rintro _ aP ⟨rfl,⟨n,hn,h10⟩,m10⟩;have IA:=s5.size;have aHJ:=r9.mod m10 (I0 _ (by omega));refine .inl ⟨_,_,_,_,rfl,bF (g:=w5.heap.size) (o:=0) aHJ λbg gJ m11 wM=>?_⟩;exact⟨w5.heap.size,rfl,rfl,by omega,gJ,⟨n,hn,h10.mod m11 λk hk e=>I0 _ (by omega) hk⟩,Mod.trans (Mod.trans ((sE.trans s5).trans s9) m10 (λ_ h=>h.elim) (λ_ _ h=>h)) m11 (λ_ h=>h) (λj hj e=>by omega)⟩
 .refine aO λbI mX fX z12=>⟨⟨EZ.still fX,hs4.still fX⟩,(aKe rfl).mono ?_⟩
  have ez:w4.drew.heap.size=w4.heap.size:=rfl;rintro _ aHa ⟨rfl,N7,aHK,aJi⟩;refine .inl ⟨_,rfl,⟨(EZ.still fX).still aHK,(hs4.still fX).still aHK⟩,?_⟩;refine(ht aHa w0 K.a K.g _ t p c B bP ((IX.trans fX).trans aHK) ((Vd.still fX).still aHK) N7 (IW _ (by omega)) ((WE.still fX).still aHK)).mono ?_;rintro _ bR ⟨rfl,⟨n,hn,qE⟩,m14⟩;have rH:=(mX.still aHK).mod m14 (I0 _ (by omega));refine .inl ⟨_,_,_,_,rfl,bF (g:=w4.drew.heap.size) (o:=0) rH λct A8 m15 I1=>?_⟩;exact⟨w4.heap.size,rfl,rfl,aR _,A8,⟨n,hn,qE.mod m15 λk hk e=>I0 _ (by omega) hk⟩,Mod.trans (Mod.trans ((sE.trans fX).trans aHK) m14 (λ_ h=>h.elim) (λ_ _ h=>h)) m15 (λ_ h=>h) (λj hj e=>by omega)⟩
 rintro _ _ _ bX ⟨rb,rfl,rfl,hrb,r16,⟨n,hn,aHT⟩,m16⟩;have m36:Mod (λk=>k=K.a\/k=K.g) w3 bX:=Mod.trans m4 m16 (λ_ h=>.inl h) λk hk hS=>by
  rcases low k hS with e|e|e
  .exact .inl e
  .exact .inr e
  .omega
 obtain⟨agD,hend⟩:=as9 bP aJW h2 hT m36 hn aHT;obtain⟨aFC,aFD,aAm,_⟩:=agD.fW;obtain⟨ld,aAn⟩:=agD.gX;refine⟨_,aAm.ai rfl,_,aAn.row.ai rfl,hend.mono ?_⟩;rintro _ cF ⟨⟨p1,n1,c1,p2,n2,c2,rfl⟩,wN,g17,m17⟩;have zm:=r16.mod m17 (r16.ne aHT.top (by decide));refine .inl ⟨_,_,_,_,_,_,rfl,ax (λh=>by cases h) (λ_=>?_)⟩;have aI7:=h.gone dD;have aAo:=aI7.trans g17;obtain⟨aH_,aAp⟩:=wN.gX;have ap:∀{w:World} {s:Sh} {k:Nat} {ty:TypeId} {cs:Array Value},bx w w0 K s->Row w k ty cs->ty≠fV->ty≠lW->ty≠pH->ty≠5->ty≠aHV->¬Ft K w k:=λh hr a b c d e=>h.apart hr a b c d e;refine⟨_,wN.cell λ_ _=>rfl,_,aAp.row.ai rfl,wN.ayh _ λaHr h19 g19=>?_⟩;have CU:=zm.mod g19.mod (ap wN zm (by decide) (by decide) (by decide) (by decide) (by decide));have aAq:=aAo.trans g19;have sF:Still aHr aHr.drew:=(Still.refl _).cG;have Ve:=h19.still sF;obtain⟨x19,HZ⟩:=Ve.gX;obtain⟨aAr,aAs,M7,_⟩:=Ve.fW;refine⟨λwq=>Row wq K.hb fV ⟨gV K aAr aAs {s with T:=T'}⟩/\Row wq K.sb lW ⟨aIc K x19 {s with T:=T'}⟩,⟨M7,HZ.row⟩,_,λwq hq=>hq.1.ai rfl,_,λwq hq=>hq.1.ai rfl,_,_,_,λwq hq=>hq.2.ai rfl,?_⟩;refine aO λgR tT mu z20=>⟨⟨M7.still mu,HZ.row.still mu⟩,?_⟩;have nD:=Ve.still mu;have M8:od gR w0 K x19 {s with T:=T'}:=by obtain⟨xs,hs⟩:=HZ.mT;exact⟨HZ.gW.still mu,⟨xs,hs.still mu⟩,HZ.cB⟩
 have agE:=aAq.trans (h19.gone (sF.trans mu));have aAt:w0.heap.size<=gR.heap.size:=kf h0.size agE.mod.size;have agF:=(CU.still sF).still mu;refine nD.ad1 aAt M8 (q:=⟨aHr.drew.heap.size,0,none⟩) (u:=.slice p1 n1 c1) (v:=.slice p2 n2 c2) rfl rfl (tT.ai rfl) (tT.ai rfl) hb λp' c' fN m21 hst=>⟨?_,hst _ λju CV g22=>?_⟩
 .obtain⟨xs,hs⟩:=M8.mT
  exact⟨(M7.still mu).mod m21 λe=>hs.c7 (M7.still mu) (by decide) e,M8.row.mod m21 λe=>hs.c7 M8.row (by decide) e⟩
 obtain⟨x22,aAu⟩:=CV.gX;have agG:=agE.trans g22;have CW:=agF.mod g22.mod (ap nD agF (by decide) (by decide) (by decide) (by decide) (by decide));have aAv:Still w0 ju:=Mod.trans h0 agG.mod (λ_ h=>h) λj hj hk=>by have:=(h.lt hk).1;omega
 refine⟨_,CV.cell λ_ _=>rfl,_,aAu.row.ai rfl,ax (λh=>by cases h) (λ_=>?_)⟩;refine⟨_,_,_,CW.ai rfl,CW.ai rfl,CW.ai rfl,(apQ aAv CV st out err ho he).mono ?_⟩;rintro _ rz ⟨rfl,h27,g27⟩;exact .inl ⟨rfl,rfl,h27,agG.trans g27⟩
def ab2{P:Program}{f:FuncId}{fn:Func}{c:Code}{args:List Value}{u:FrameMode}{w:World}{R:Ending->World->Prop}(pl:n_)(hf:P.funcs[f]?=some fn)(hb:fn.body=some c)
  (h:vc P pl c 1 (lT P fn.results.toList R) (nS fn.ntmps args) w):CallsD P f ⟨args⟩ u w λe u' w'=>u'=u/\R e w':=by
 refine callsD_of_wp hf hb ?_;have e:(Array.mk args)++Array.replicate (fn.ntmps-(Array.mk args).size) undef=⟨nS fn.ntmps args⟩:=by apply kM;simp[BB]
 rw[e];refine nP (ds:=[]) c 1 _ _ w _ h (λl' w' _ hk=>?_) (λi l' w' _ hk=>hk.elim) (λl' w' hk=>?_) (λl' ch w' _ hk=>⟨rfl,hk⟩)
 .obtain⟨vs,h1,h2⟩:=aIg (ds:=[]) hk
  exact⟨rfl,_,h1,h2⟩
 .obtain⟨vs,h1,h2⟩:=aIg (ds:=[]) hk
  exact⟨rfl,_,h1,h2⟩
def are(old:Option Addr)(HS HT:Nat)(cap:Option Addr)(u:FrameMode)(w:World)(R:Ending->World->Prop)(aC:XR old HS HT cap w R):CallsD aL XO #[.slice old HS HT,.pointer cap] u w λe u' w'=>u'=u/\R e w':=
 ab2 {live:=[],c_:=[]} Tryz.func303 rfl (Eq.mp (α:=XR old HS HT cap w R) (by kernel_rfl) aC)
def avq(cap:Option Addr)(u:FrameMode)(w:World)(R:Ending->World->Prop)(aC:XZ cap w R):CallsD aL Dc #[.pointer cap] u w λe u' w'=>u'=u/\R e w':=
 ab2 {live:=[],c_:=[]} Tryz.func256 rfl (Eq.mp (α:=XZ cap w R) (by kernel_rfl) aC)
def iX(h:bx w w0 K s){k:Nat}{ty:TypeId}{cs:Array Value}(hr:Row w k ty cs)(a:ty≠fV:=by decide)(b:ty≠lW:=by decide)(c:ty≠pH:=by decide)(d:ty≠5:=by decide)(e:ty≠aHV:=by decide):¬Ft K w k:=h.apart hr a b c d e
def apR(h:bx w w0 K s){p:Option Addr}{c:Nat}:
  an JH #[.pointer (some ⟨K.hb,0,none⟩),.slice p 0 c,.bool true] w (λe w'=>(∃q qD,e=.returned (.tuple #[.slice q s.V.length qD,.bool true])/\A.cR w' q s.V.length qD s.V)/\bx w' w0 K s/\cj (Ft K w) w (Ft K w') w'):=by
 apply akc;refine aO λw1 r1 s1 z1=>ax (λ_=>?_) (λh=>by cases h);have h1:=h.still s1;obtain⟨vp,vc,hh,hv⟩:=h1.fW;refine⟨_,r1.ai rfl,_,_,_,hh.ai rfl,λx w2=>x=0/\w2=w1,λ_ _=>0,⟨rfl,rfl⟩,?_⟩;rintro _ _ w2 ⟨rfl,rfl⟩;refine ax (λhx=>by simp at hx) (λ_=>⟨_,r1.ai rfl,_,_,_,hh.ai rfl,?_⟩);refine(are vp s.V.length vc (some ⟨w.heap.size,0,none⟩) .returning w2 (λe w'=>e=.returned (.tuple #[])/\bx w' w0 K s/\cj (Ft K w) w (Ft K w') w'/\A.cR w' vp s.V.length vc s.V) ?_).mono ?_
 .refine⟨_,r1.ai rfl,h1.U7 hv λw3 h3 g3 m3=>⟨rfl,h3,(h.gone s1).trans g3,?_⟩⟩
  exact cR.yH hv g3.mod λh0 a ha=>h1.TC hv h0 a ha
 .rintro _ u w3 ⟨rfl,rfl,h3,g3,CS⟩
  exact⟨⟨_,rfl⟩,rfl,⟨_,_,rfl,CS⟩,h3,g3⟩
def qc:Tryz.prog.underlying 294=some (.map bJ 292):=rfl
def avr(w:World):(zeroValue 292).run aL w=.ok .nilFunc w:=rfl
def aKq:List ag:=[[58],[98,114,101,97,107],[99,111,110,116,105,110,117,101],[114,101,116,117,114,110],[101,120,105,116],[101,120,112,111,114,116],[114,101,97,100,111,110,108,121],[117,110,115,101,116],[115,104,105,102,116],[115,101,116],[99,100],[112,119,100],[101,118,97,108],[114,101,97,100]]
def avs:an Rn #[] w (λe w'=>e=.returned (.map (some w.heap.size))/\(∃l,aH8 w' w.heap.size l/\l.map Prod.fst=aKq)/\Still w w'):=by apply am_;refine mg ?_;have s1:Still w (w.alloc (.map #[] 0)):=(Mod.refl _ _).alloc _;have f1:=aH8.new w;generalize w.alloc (.map #[] 0)=w1 at*;refine de qc f1 (by decide) rfl λw2 f2 m2 z2=>?_;refine de qc f2 (by decide) rfl λw3 f3 m3 z3=>?_;refine de qc f3 (by decide) rfl λw4 f4 m4 z4=>?_;refine de qc f4 (by decide) rfl λw5 f5 m5 z5=>?_;refine de qc f5 (by decide) rfl λw6 f6 m6 z6=>?_;refine de qc f6 (by decide) rfl λw7 f7 m7 z7=>?_;refine de qc f7 (by decide) rfl λw8 f8 m8 z8=>?_;refine de qc f8 (by decide) rfl λw9 f9 m9 z9=>?_;refine de qc f9 (by decide) rfl λaP f10 m10 aIt=>?_;refine de qc f10 (by decide) rfl λbg f11 m11 wM=>?_;refine de qc f11 (by decide) rfl λbI f12 m12 z12=>?_;refine de qc f12 (by decide) rfl λaHa f13 m13 aJi=>?_;refine de qc f13 (by decide) rfl λbR f14 m14 N8=>?_;refine de qc f14 (by decide) rfl λct f15 m15 I1=>?_;have s:=(((((((((((((s1.box (aR _) m2).box (aR _) m3).box (aR _) m4).box (aR _) m5).box (aR _) m6).box (aR _) m7).box (aR _) m8).box (aR _) m9).box (aR _) m10).box (aR _) m11).box (aR _) m12).box (aR _) m13).box (aR _) m14).box (aR _) m15;exact⟨rfl,⟨_,f15,rfl⟩,s⟩
def afK(l:List (ag×List L.Pt))(f:List ag)(s s':Sh):Prop:=∀(w w0:World) (K:Kx) (D:Nat->Prop) (p:Option Addr) (n c:Nat) (fp:Option Addr) (fc B:Nat),aHx w0->Still w0 w->bx w w0 K s->L.aIb.At w D l (.slice p n c)->Kept D (Ft K w) w->aS w B bJ 1 (.slice fp f.length fc) f.length (strs f)->
 an P7 #[.pointer (some ⟨K.hb,0,none⟩),.slice p n c,.slice fp f.length fc] w (λe w'=>e=.returned (.tuple #[])/\bx w' w0 K s'/\cj (Ft K w) w (Ft K w') w')
def as_(w:World):(zeroValue KQ).run aL w=.ok (.agg #[.int .i64 0,.bool false,.string (S []),.slice none 0 0,.slice none 0 0,.slice none 0 0,.slice none 0 0,.slice none 0 0]) w:=rfl
def awX:Tryz.prog.underlying 107=some (.map bJ KQ):=rfl
def ab3{f0:ag}{fr:List ag}(hn:f0∉aKq)(hlen:f0.length<=1000){st:Int}{out err:ag}{T':Tree}(ht:aIN s.T (f0::fr) s.bh st out err T')(hT:gu T')(hb:0<s.b6)(hfl:dF (f0::fr)<=3000)(hin:s.bh.length<=50000)(IT:s.V.length<900000)(WD:∀v∈s.V,v.exp=false)(ho:s.out.length+out.length<=1000000000)(he:s.err.length+err.length<=1000000):
  afK [] (f0::fr) s {s with T:=T',b6:=s.b6-1,st:=st,out:=s.out++out,err:=s.err++err}:=by
 intro w w0 K D p n c fp fc B bP h0 h hs hD hf;obtain⟨rfl,hc⟩:=hs.len;obtain⟨gf,rfl,hcell⟩:=hf.aIT (j:=0) (by simp);have hcell:w.cell? ((Addr.mk gf 0 none).add (0*1))=some (.string (S f0)):=hcell;have hn':∀l:List (ag×Value),l.map Prod.fst=aKq->(l.all λx=>!decide (x.1=f0))=true:=λl hl=>by
  rw[nO];intro x hx;have:x.1∈aKq:=by rw[<-hl];exact dM.2 ⟨x,hx,rfl⟩
  simp only[aJ3,zy];rintro rfl;exact hn this
 apply akZ;refine ax (λh=>absurd (aQ h) (by simp;omega)) (λ_=>?_);have sD:Still w w.drew:=(Still.refl _).cG;refine⟨λwq=>wq.cell? ((Addr.mk gf 0 none).add (0*1))=some (.string (S f0)),sD.cell hcell,by decide,by simp,_,λwq hq=>hq,avs.mono ?_⟩;rintro _ w3 ⟨rfl,⟨l,fl,hl⟩,s3⟩;have jh:=sD.trans s3;have c3:w3.cell? ((Addr.mk gf 0 none).add (0*1))=some (.string (S f0)):=jh.cell hcell;refine .inl ⟨_,rfl,rfl,c3,adU qc avr fl hlen (hn' l hl) ?_⟩;have sE:Still w3 w3.drew:=(Still.refl _).cG;have h3:=h.still (jh.trans sE);obtain⟨vp,vc,mV,_⟩:=h3.fW;have look:∀{w9:World},Still w3.drew w9->(Instr.lookup 107 (.map (some K.fm)) (.string (S f0)) true).run aL w9=.ok (.tuple #[.agg #[.int .i64 0,.bool false,.string (S []),.slice none 0 0,.slice none 0 0,.slice none 0 0,.slice none 0 0,.slice none 0 0],.bool false]) w9:=λhst=>by
  rcases DO vU awX (as_ _) ((h3.fns).still hst) (rZ rfl (qW hlen)) (by simp) true with⟨v,h1,_⟩|⟨_,h2⟩
  .cases h1
  .exact h2
 refine⟨λbody isF w8=>isF=false/\Still w3 w8,⟨λwq=>Row wq K.hb fV ⟨gV K vp vc s⟩/\wq.cell? ((Addr.mk gf 0 none).add (0*1))=some (.string (S f0)),⟨mV,sE.cell c3⟩,_,rfl,λwq hq=>hq.1.ai rfl,by decide,by simp,_,λwq hq=>hq.2,?_,?_⟩,?_⟩
 .refine⟨_,_,_,_,_,_,_,_,_,_,_,_,_,_,_,_,_,_,_,look (Still.refl _),aO λw4 r4 s4 z4=>⟨⟨mV.still s4,s4.cell (sE.cell c3)⟩,bF (g:=w3.drew.heap.size) (o:=0) r4 λw5 r5 m5 z5=>⟨rfl,(sE.trans s4).box (aR _) m5⟩⟩⟩
 .refine aO λw4 r4 s4 z4=>⟨⟨mV.still s4,s4.cell (sE.cell c3)⟩,_,_,_,_,_,_,_,_,_,_,_,_,_,_,_,_,_,_,_,look s4,bF (g:=w3.drew.heap.size) (o:=0) r4 λw5 r5 m5 z5=>⟨rfl,(sE.trans s4).box (aR _) m5⟩⟩
 rintro body _ _ w8 ⟨rfl,s8⟩;have zi:=jh.trans s8;have h8:=h.still zi;refine⟨λq qn qD b bg=>b=true/\qn=s.V.length/\A.cR bg q qn qD s.V/\bx bg w0 K s/\cj (Ft K w8) w8 (Ft K bg) bg,ax (λ_=>(apR h8).mono ?_) (λh=>by cases h),?_⟩
 .rintro _ w9 ⟨⟨q,qD,rfl,IV⟩,h9,g9⟩
  exact .inl ⟨_,_,_,_,rfl,rfl,rfl,IV,h9,g9⟩
 rintro q _ qD _ _ bg ⟨rfl,rfl,IV,h11,g11⟩;have M9:=(h.gone zi).trans g11;have aLa:Still w0 bg:=Mod.trans h0 M9.mod (λ_ h=>h) λj hj hk=>by have:=(h.lt hk).1;omega
 have hf8:=hf.still zi;have Vg:aS bg B bJ 1 (.slice (some ⟨gf,0,none⟩) (f0::fr).length fc) (f0::fr).length (strs (f0::fr)):=hf8.mod g11.mod λk hk hF=>by obtain⟨cur,hr⟩:=hf8.typed hk;exact iX h8 hr (by decide) (by decide) (by decide) (by decide) (by decide) hF
 refine ax (λh=>by cases h) (λ_=>ax (λh=>by cases h) (λ_=>ax (λh=>by cases h) (λ_=>?_)));refine(ao0 bP aLa h11 Vg hfl hin IV IT WD ht hT hb ho he).mono ?_;rintro _ aHa ⟨rfl,qF,g13⟩;exact .inl ⟨rfl,rfl,qF,M9.trans g13⟩
def CX(fn:FuncId)(n:L.Nd)(s s':Sh):Prop:=∀(w w0:World) (K:Kx) (D:Nat->Prop) (cs:List Value),aHx w0->Still w0 w->bx w w0 K s->L.dR w D n cs->Kept D (Ft K w) w->
 an fn #[.pointer (some ⟨K.hb,0,none⟩),.agg ⟨cs⟩] w (λe w'=>e=.returned (.tuple #[])/\bx w' w0 K s'/\cj (Ft K w) w (Ft K w') w')
abbrev mY(n:L.Nd)(s s':Sh):Prop:=CX Di n s s'
def ano:cY aL Pf=true:=by kernel_rfl
def td(h:bx w w0 K s)(h0:Still w0 w){w':World}(g:cj (Ft K w) w (Ft K w') w'):Still w0 w':=Mod.trans h0 g.mod (λ_ h=>h) λj hj hk=>by have:=(h.lt hk).1;omega
def ab4{n:L.Nd}{f:List ag}{V1:List A.Vr}{s2 s3:Sh}{x1:sB}{nm:ag}(hf:yJ s.T n.ws s.V f V1 0)(hsz:dF f<=10000)(y_:n.ws.length<=10000)(hrl:n.rs.length<=10000)(he:s.err.length<=900000)
  (hr:aJd n.rs {s with last:=-1,V:=V1} ⟨s.bh,[],false,false⟩ s2 x1)(hc:afK n.aHv f {s2 with bh:=x1.bh,out:=if x1.is then[]else s2.out} s3)
  (hx:x1.is=true->0<s3.b6/\ny x1.dst nm/\nm≠[46]/\Lib.lastIndexByte (S (47::nm)) 47=0/\aKo s3.T nm s3.out):
  CX Db n s (Ax x1 s2 s3 nm):=by
 intro w w0 K D cs bP h0 h hn hD;obtain⟨pw,cw,pa,ca,pr,cr,po,co,pk,ck,rfl,hw,ha,hrd,ho,hk⟩:=hn.outs;apply aj5;refine aO λw1 r1 s1 z1=>aO λw2 r2 s2' z2=>?_;have q1:=r1.still s2';have dD:=s1.trans s2';have h2:=h.still dD;have aI7:=h.gone dD;refine⟨_,q1.ai rfl,h2.setLast (-1) λw3 h3 g3 m3=>?_⟩;have q3:=q1.mod g3.mod (iX h2 q1);have n3:=r2.mod g3.mod (iX h2 r2);have jj:=aI7.trans g3;have D3:=hD.gone jj;have dk:∀{w':World},cj (Ft K w) w (Ft K w') w'->∀k,D k->¬Ft K w k:=λg k hk=>(hD k hk).2;refine⟨_,q3.ai rfl,_,_,_,n3.ai rfl,?_⟩;refine(ZC bP (td h h0 jj) h3 (hw.mod jj.mod λk hk=>(hD k hk).2) D3 hf hsz y_ he).mono ?_;rintro _ w4 ⟨h4,g4⟩;rw[aN rfl]at h4;obtain⟨o,oc,rfl,sP,h4⟩:=h4;have IY:=jj.trans g4;have q4:=q3.mod g4.mod (iX h3 q3);have n4:=n3.mod g4.mod (iX h3 n3);refine .inl ⟨_,_,_,_,rfl,aO λw5 r5 s5 z5=>bF (g:=w4.heap.size) (o:=0) r5 λw6 r6 m6 z6=>?_⟩;have jx:Still w4 w6:=s5.box (aR _) m6;have h6:=h4.still jx;have N5:=h4.gone jx;have zn:=IY.trans N5;have q6:=q4.still jx;have n6:=n4.still jx;have of6:=sP.still jx;refine ax (λ_=>?_) (λh=>by cases h);refine⟨_,q6.ai rfl,_,_,_,n6.ai rfl,?_⟩;refine(aac bP (td h h0 zn) h6 (hrd.mod zn.mod λk hk=>(hD k hk).2) (hD.gone zn) hr hrl hx (cap:=[.pointer (some ⟨w.heap.size,0,none⟩),.pointer (some ⟨w1.heap.size,0,none⟩),.pointer (some ⟨w4.heap.size,0,none⟩)]) ano ?_).mono ?_
 .intro w7 h7 g7
  have zl:=zn.trans g7;have q7:=q6.mod g7.mod (iX h6 q6);have n7:=n6.mod g7.mod (iX h6 n6);have f7:=r6.mod g7.mod (iX h6 r6);have of7:=of6.mod g7.mod λk hk hF=>by obtain⟨cur,hr⟩:=of6.typed hk;exact iX h6 hr (by decide) (by decide) (by decide) (by decide) (by decide) hF
  apply ajJ;refine⟨_,q7.ai rfl,_,_,_,n7.ai rfl,_,_,_,f7.ai rfl,?_⟩;refine(hc w7 w0 K D pa n.aHv.length ca o oc _ bP (td h h0 zl) h7 (ha.mod zl.mod λk hk=>(hD k hk).2) (hD.gone zl) of7).mono ?_;rintro _ w8 ⟨rfl,h8,g8⟩;exact .inl ⟨rfl,rfl,h8,g8⟩
 .rintro _ w8 ⟨rfl,h8,g8⟩
  exact .inl ⟨rfl,rfl,h8,zn.trans g8⟩
def Ez(k:Int):FuncId:=if k=3 then FE else if k=2 then PL else if k=1 then FF else Db
def Eh{n:L.Nd}{s':Sh}(hk:n.k=3\/n.k=2\/n.k=1\/n.k=0)(hw:s.way=0)(hf:0<s.fuel)(h:CX (Ez n.k) n {s with fuel:=s.fuel-1} s'):mY n s s':=by
 intro w w0 K D cs bP h0 hs hn hD;have hn0:=hn;obtain⟨pw,cw,pa,ca,pr,cr,po,co,pk,ck,rfl,rG,ha,hrd,ho,hks⟩:=hn.outs;apply XV;refine aO λw1 r1 s1 z1=>aO λw2 r2 s2' z2=>?_;have dD:=s1.trans s2';have h2:=hs.still dD;have q2:=r1.still s2';obtain⟨x,hx⟩:=h2.gX;have hfl:=hx.cB.2.2;refine⟨_,q2.ai rfl,_,h2.cell λ_ _=>rfl,ax (λhb=>absurd hw (by simpa using hb)) (λ_=>?_)⟩;refine⟨_,q2.ai rfl,_,h2.cell λ_ _=>rfl,_,hx.row.ai rfl,ax (λhb=>by have:=aQ hb;omega) (λ_=>?_)⟩;refine⟨_,q2.ai rfl,_,h2.cell λ_ _=>rfl,_,hx.row.ai rfl,?_⟩;have ew:i64.wrap ((s.fuel:Int)-1)=((s.fuel-1:Nat):Int):=wI
 try dsimp only[zR]
 rw[ew];refine h2.ad0 (s.fuel-1) (by omega) λw3 h3 g3=>?_;have q3:=q2.mod g3.mod (iX h2 q2);have n3:=r2.mod g3.mod (iX h2 r2);have jj:=(hs.gone dD).trans g3;have WG:=hn0.mod jj.mod λk hk=>(hD k hk).2;have run:=h w3 w0 K D _ bP (td hs h0 jj) h3 WG (hD.gone jj);refine⟨_,n3.ai rfl,?_⟩;rcases hk with hk|hk|hk|hk
 .refine ax (λ_=>?_) (λhb=>absurd hk (aZ hb))
  refine⟨_,q3.ai rfl,_,_,_,_,_,_,_,_,_,_,_,_,_,_,_,_,_,_,n3.ai rfl,n3.ai rfl,n3.ai rfl,n3.ai rfl,n3.ai rfl,n3.ai rfl,n3.ai rfl,n3.ai rfl,?_⟩;rw[show Ez n.k=FE by rw[hk];rfl]at run;refine run.mono ?_;rintro _ w4 ⟨rfl,h4,g4⟩;exact .inl ⟨rfl,rfl,h4,jj.trans g4⟩
 .refine ax (λhb=>by have:=aQ hb;omega) (λ_=>ax (λ_=>?_) (λhb=>absurd hk (aZ hb)))
  refine⟨_,q3.ai rfl,_,_,_,_,_,_,_,_,_,_,_,_,_,_,_,_,_,_,n3.ai rfl,n3.ai rfl,n3.ai rfl,n3.ai rfl,n3.ai rfl,n3.ai rfl,n3.ai rfl,n3.ai rfl,?_⟩;rw[show Ez n.k=PL by rw[hk];rfl]at run;refine run.mono ?_;rintro _ w4 ⟨rfl,h4,g4⟩;exact .inl ⟨rfl,rfl,h4,jj.trans g4⟩
 .refine ax (λhb=>by have:=aQ hb;omega) (λ_=>ax (λhb=>by have:=aQ hb;omega) (λ_=>ax (λ_=>?_) (λhb=>absurd hk (aZ hb))))
  refine⟨_,q3.ai rfl,_,_,_,_,_,_,_,_,_,_,_,_,_,_,_,_,_,_,n3.ai rfl,n3.ai rfl,n3.ai rfl,n3.ai rfl,n3.ai rfl,n3.ai rfl,n3.ai rfl,n3.ai rfl,?_⟩;rw[show Ez n.k=FF by rw[hk];rfl]at run;refine run.mono ?_;rintro _ w4 ⟨rfl,h4,g4⟩;exact .inl ⟨rfl,rfl,h4,jj.trans g4⟩
 .refine ax (λhb=>by have:=aQ hb;omega) (λ_=>ax (λhb=>by have:=aQ hb;omega) (λ_=>ax (λhb=>by have:=aQ hb;omega) (λ_=>ax (λhb=>by have:=aQ hb;omega) (λ_=>ax (λ_=>?_) (λhb=>absurd hk (aZ hb))))))
  refine⟨_,q3.ai rfl,_,_,_,_,_,_,_,_,_,_,_,_,_,_,_,_,_,_,n3.ai rfl,n3.ai rfl,n3.ai rfl,n3.ai rfl,n3.ai rfl,n3.ai rfl,n3.ai rfl,n3.ai rfl,?_⟩;rw[show Ez n.k=Db by rw[hk];rfl]at run;refine run.mono ?_;rintro _ w4 ⟨rfl,h4,g4⟩;exact .inl ⟨rfl,rfl,h4,jj.trans g4⟩
def aJj:List L.Nd->Sh->Sh->Prop
 |[],s,s'=>s'=s
 |n::r,s,s'=>∃s1,mY n s s1/\aJj r s1 s'
def aJj.append{l m:List L.Nd}{s s1 s2:Sh}(h:aJj l s s1)(h2:aJj m s1 s2):aJj (l++m) s s2:=by
 induction l generalizing s with
 |nil=>obtain rfl:=h;exact h2
 |cons n r ih=>obtain⟨t,h1,h3⟩:=h;exact⟨t,h1,ih h3⟩
def S1{D:Nat->Prop}{l:List L.Nd}{p:Option Addr}{n c i:Nat}(h:L.vf.At w D l (.slice p n c))(hi:i<l.length):∃b pw cw pa ca pr cr po co pk ck,p=some b/\D b.block/\L.dR w D l[i] (L.jg l[i] (.slice pw l[i].ws.length cw) (.slice pa l[i].aHv.length ca) (.slice pr l[i].rs.length cr) (.slice po l[i].os.length co) (.slice pk l[i].ks.length ck))/\L.qb w (b.add (i*8)) (L.jg l[i] (.slice pw l[i].ws.length cw) (.slice pa l[i].aHv.length ca) (.slice pr l[i].rs.length cr) (.slice po l[i].os.length co) (.slice pk l[i].ks.length ck)):=by obtain⟨b,cs,h1,h2,h3,h4⟩:=h.get (iy hi);have h3':=h3;obtain⟨pw,cw,pa,ca,pr,cr,po,co,pk,ck,rfl,_⟩:=h3'.outs;exact⟨b,pw,cw,pa,ca,pr,cr,po,co,pk,ck,h1,h2,h3,h4⟩
def TF{n:L.Nd}{s':Sh}(h:aJj n.ks (if n.ks.length=0 then{s with st:=0}else s) s')(hl:n.ks.length<=100000):CX FE n s s':=by
 intro w w0 K D cs bP h0 hs hn hD;have hn0:=hn;obtain⟨pw,cw,pa,ca,pr,cr,po,co,pk,ck,rfl,rG,ha,hrd,ho,hks⟩:=hn.outs;apply akV;refine aO λw1 r1 s1 z1=>?_;have h1:=hs.still s1;refine⟨λw3=>bx w3 w0 K (if n.ks.length=0 then{s with st:=0}else s)/\cj (Ft K w) w (Ft K w3) w3/\Row w3 w.heap.size KQ ⟨L.jg n (.slice pw n.ws.length cw) (.slice pa n.aHv.length ca) (.slice pr n.rs.length cr) (.slice po n.os.length co) (.slice pk n.ks.length ck)⟩,⟨_,_,_,r1.ai rfl,ax (λhb=>?_) (λhb=>?_)⟩,?_⟩
 .have hb:n.ks.length=0:=by have:=aQ hb;omega
  refine h1.HD 0 λw2 h2 g2 m2=>?_;rw[aN hb];exact⟨h2,(hs.gone s1).trans g2,r1.mod g2.mod (iX h1 r1)⟩
 .have hb:¬n.ks.length=0:=by have:=aZ hb;omega
  rw[aH hb];exact⟨h1,hs.gone s1,r1⟩
 rintro _ w3 ⟨h3,g3,r3⟩;refine⟨_,_,_,r3.ai rfl,λx w4=>∃(i:Nat) (si:Sh),x=(i:Int)/\i<=n.ks.length/\bx w4 w0 K si/\cj (Ft K w) w (Ft K w4) w4/\aJj (n.ks.drop i) si s',λx _=>(n.ks.length-x).toNat,⟨0,_,rfl,dU _,h3,g3,h⟩,?_⟩;rintro x _ w4 ⟨i,si,rfl,hi,h4,g4,zc⟩;refine ax (λhx=>?_) (λhx=>?_)
 .have hx:i<n.ks.length:=by have:=aQ hx;omega
  rw[qM hx]at zc;obtain⟨s1',hex,yl⟩:=zc;obtain⟨b,qw,dw,qa,da,qr,dr,qo,dq,qk,dk,rfl,N0,hnd,hcell⟩:=S1 (hks.mod g4.mod λk hk=>(hD k hk).2) hx;have cl:∀(j:Nat) (u:Value),(L.jg n.ks[i] (.slice qw n.ks[i].ws.length dw) (.slice qa n.ks[i].aHv.length da) (.slice qr n.ks[i].rs.length dr) (.slice qo n.ks[i].os.length dq) (.slice qk n.ks[i].ks.length dk))[j]?=some u->w4.cell? ((b.add (Int.toNat (i:Int)*8)).add j)=some u:=λj u hu=>by rw[bW];exact hcell j u hu
  have c0:w4.cell? (b.add (Int.toNat (i:Int)*8))=some (.int .i64 n.ks[i].k):=cl 0 _ rfl;refine⟨by omega,by omega,_,_,_,_,_,_,_,_,_,_,_,_,_,_,_,_,_,_,c0,cl 1 _ rfl,cl 2 _ rfl,cl 3 _ rfl,cl 4 _ rfl,cl 5 _ rfl,cl 6 _ rfl,cl 7 _ rfl,?_⟩;refine aO λw5 r5 s5 z5=>bF (g:=w4.heap.size) (o:=0) r5 λw6 r6 m6 z6=>?_;have jx:Still w4 w6:=s5.box (aR _) m6;have zn:=g4.trans (h4.gone jx);refine⟨_,_,_,_,_,_,_,_,_,_,_,_,_,_,_,_,_,_,r6.ai rfl,r6.ai rfl,r6.ai rfl,r6.ai rfl,r6.ai rfl,r6.ai rfl,r6.ai rfl,r6.ai rfl,?_⟩;refine(hex w6 w0 K D _ bP (td hs h0 zn) (h4.still jx) (hnd.still jx) (hD.gone zn)).mono ?_;rintro _ w7 ⟨rfl,h7,g7⟩;rw[wrap_i64 (by omega) (by omega)];exact .inl ⟨rfl,⟨i+1,s1',by omega,by omega,h7,zn.trans g7,yl⟩,by dsimp only;omega⟩
 .have hx:i=n.ks.length:=by have:=aZ hx;omega
  subst hx;rw[aJx]at zc;obtain rfl:s'=si:=zc;exact⟨rfl,h4,g4⟩
def Aj(s t:Sh):Sh:={s with T:=t.T,fuel:=t.fuel,tw:=t.tw,err:=t.err,b6:=t.b6}
def Kx.sub(K:Kx)(hb pb fm:Nat):Kx:={K with hb:=hb,pb:=pb,fm:=fm}
def aeZ{hb pb fm k:Nat}:Fc (K.sub hb pb fm) w k↔Fc K w k:=Iff.rfl
def bx.beside{t:Sh}{hb pb fm:Nat}(h:bx w w0 (K.sub hb pb fm) t){vp:Option Addr}{vc:Nat}(hh:Row w K.hb fV ⟨gV K vp vc s⟩)(hv:A.cR w vp s.V.length vc s.V)(hp:ga w K.pb K.a)(hf:dH w K.fm [])(hl:w0.heap.size<=K.hb)(hg:K.g≠K.fm):bx w w0 K (Aj s t):=by obtain⟨x,hx⟩:=h.gX;exact⟨⟨h.mU,hp,hf,⟨vp,vc,hh,hv⟩,⟨x,hx.gW,hx.mT,hx.cB⟩,⟨hl,h.low.2⟩,hg⟩,h.aHh⟩
def aId(sb pb:Nat)(vp:Option Addr)(n vc:Nat)(st:Int)(fm:Nat)(i o:ag)(way loops last:Int):List Value:=
 [.pointer (some ⟨sb,0,none⟩),.pointer (some ⟨pb,0,none⟩),.string (S []),.slice vp n vc,.slice none 0 0,.int .i64 st,.map (some fm),.string (S i),.string (S o),.int .i64 way,.int .i64 0,.int .i64 loops,.int .i64 0,.int .i64 last]
set_option maxHeartbeats 2000000 in
def ata(bP:aHx w0)(h0:Still w0 w)(h:bx w w0 K s)(gS:ag){t:Sh}{f:FuncId}{cap:List Value}(hc:cY aL f=true)(he:t.tw≠220)
  (IQ:∀w1 hb pb fm,Still w w1->w.heap.size<=hb->bx w1 w0 (K.sub hb pb fm) {s with bh:=gS,out:=[],way:=0,loops:=0}->(∀k,Ft (K.sub hb pb fm) w1 k->k=hb\/Fc K w k)->an f ⟨.pointer (some ⟨hb,0,none⟩)::cap⟩ w1 λe w2=>e=.returned (.tuple #[])/\bx w2 w0 (K.sub hb pb fm) t/\cj (Ft (K.sub hb pb fm) w1) w1 (Ft (K.sub hb pb fm) w2) w2):
  an P9 #[.pointer (some ⟨K.hb,0,none⟩),.string (S gS),.func (.func f) #[] ⟨cap⟩] w (λe w'=>∃hb pb fm,e=.returned (.pointer (some ⟨hb,0,none⟩))/\w.heap.size<=hb/\bx w' w0 (K.sub hb pb fm) t/\bx w' w0 K (Aj s t)/\cj (Ft K w) w (Ft K w') w'):=by
 obtain⟨vp,vc,hh,hv⟩:=h.fW;obtain⟨x,hx⟩:=h.gX;have hz0:=h0.size;apply ak2;refine⟨_,_,_,_,_,_,_,_,_,_,_,rfl,_,_,_,_,_,_,_,hh.ai rfl,hh.ai rfl,hh.ai rfl,hh.ai rfl,hh.ai rfl,hh.ai rfl,hh.ai rfl,hh.ai rfl,hh.ai rfl,hh.ai rfl,hh.ai rfl,hh.ai rfl,hh.ai rfl,hh.ai rfl,?_⟩;refine aO λw1 r1 s1 z1=>bF (g:=w.heap.size) (o:=0) r1 λw2 r2 m2 z2=>?_
 replace r2:Row w2 w.heap.size fV ⟨aId K.sb K.pb vp s.V.length vc s.st K.fm s.bh s.out s.way s.loops s.last⟩:=r2
 have dD:Still w w2:=s1.box (aR _) m2;have sD:Still w2 w2.drew:=(Still.refl _).cG;have M_:=dD.trans sD;refine⟨λwq=>Row wq K.hb fV ⟨gV K vp vc s⟩/\Row wq K.sb lW ⟨aIc K x s⟩,⟨hh.still M_,hx.row.still M_⟩,_,λwq hq=>hq.1.ai rfl,_,λwq hq=>hq.2.ai rfl,_,λwq hq=>hq.1.ai rfl,_,λwq hq=>hq.1.ai rfl,_,λwq hq=>hq.2.ai rfl,(aKe rfl).mono ?_⟩;rintro _ w3 ⟨rfl,p3,s3,z3⟩;have jh:=M_.trans s3;have r3:=(r2.still sD).still s3;refine .inl ⟨_,rfl,dL (g:=w.heap.size) (o:=1) r3 (by simp[aId]) (by simp[Value.oneCell']) λw4 r4 m4 z4=>?_⟩
 replace r4:Row w4 w.heap.size fV ⟨aId K.sb w2.drew.heap.size vp s.V.length vc s.st K.fm s.bh s.out s.way s.loops s.last⟩:=r4
 have mo:Still w w4:=jh.box (aR _) m4;refine⟨_,rfl,(hh.still mo).ai rfl,(apC (h.fns.still mo)).mono ?_⟩;rintro _ w5 ⟨rfl,f5,s5,z5⟩;have aH6:=mo.trans s5;refine .inl ⟨_,rfl,rfl,dL (g:=w.heap.size) (o:=6) (r4.still s5) (by simp[aId]) (by simp[Value.oneCell']) λw6 r6 m6 z6=>?_⟩
 replace r6:Row w6 w.heap.size fV ⟨aId K.sb w2.drew.heap.size vp s.V.length vc s.st w4.heap.size s.bh s.out s.way s.loops s.last⟩:=r6
 refine dL (g:=w.heap.size) (o:=7) r6 (by simp[aId]) (by simp[Value.oneCell']) λw7 r7 m7 z7=>?_
 replace r7:Row w7 w.heap.size fV ⟨aId K.sb w2.drew.heap.size vp s.V.length vc s.st w4.heap.size gS s.out s.way s.loops s.last⟩:=r7
 refine dL (g:=w.heap.size) (o:=8) r7 (by simp[aId]) (by simp[Value.oneCell']) λw8 r8 m8 z8=>?_
 replace r8:Row w8 w.heap.size fV ⟨aId K.sb w2.drew.heap.size vp s.V.length vc s.st w4.heap.size gS [] s.way s.loops s.last⟩:=r8
 refine dL (g:=w.heap.size) (o:=9) r8 (by simp[aId]) (by simp[Value.oneCell']) λw9 r9 m9 z9=>?_
 replace r9:Row w9 w.heap.size fV ⟨aId K.sb w2.drew.heap.size vp s.V.length vc s.st w4.heap.size gS [] 0 s.loops s.last⟩:=r9
 refine dL (g:=w.heap.size) (o:=11) r9 (by simp[aId]) (by simp[Value.oneCell']) λaP aHJ m10 aIt=>?_
 replace aHJ:Row aP w.heap.size fV ⟨aId K.sb w2.drew.heap.size vp s.V.length vc s.st w4.heap.size gS [] 0 0 s.last⟩:=aHJ
 have Vh:Mod (λk=>k=w.heap.size) w5 aP:=Mod.trans (Mod.trans (Mod.trans (Mod.trans m6 m7 (λ_ h=>h) (λ_ _ h=>h)) m8 (λ_ h=>h) (λ_ _ h=>h)) m9 (λ_ h=>h) (λ_ _ h=>h)) m10 (λ_ h=>h) (λ_ _ h=>h);have aJt:Still w aP:=aH6.box (aR _) Vh;have ez:w2.drew.heap.size=w2.heap.size:=rfl;have A6:=mo.size;have wL:ga aP w2.drew.heap.size K.a:=((p3.mod m4 (by omega)).still s5).mod Vh (by omega);have f10:dH aP w4.heap.size []:=f5.mod Vh (by omega);have h10:=h.still aJt;obtain⟨xx,WH⟩:=h10.gX;have hin:bx aP w0 (K.sub w.heap.size w2.drew.heap.size w4.heap.size) {s with bh:=gS,out:=[],way:=0,loops:=0}:=
  ⟨⟨h.mU,wL,f10,⟨vp,vc,aHJ,hv.still aJt⟩,⟨xx,WH.gW,WH.mT,WH.cB⟩,⟨hz0,h.low.2⟩,by have:=h.aHh.now.lt;show K.g≠w4.heap.size;omega⟩,h10.aHh⟩
 have N9:∀k,Ft (K.sub w.heap.size w2.drew.heap.size w4.heap.size) aP k->k=w.heap.size\/Fc K w k:=λk hk=>by
  rcases hk with e|e
  .exact .inl e
  .exact .inr ((Fc.same λo=>h.GZ aJt (λh=>h) o).1 (aeZ.1 e))
 refine aI1 (ax (λ_=>?_) (λh=>by rw[hc]at h;cases h));refine(IQ aP w.heap.size w2.drew.heap.size w4.heap.size aJt (aR _) hin N9).mono ?_;rintro _ bg ⟨rfl,h11,g11⟩;have free:∀k,k<w.heap.size->¬Fc K w k->¬Ft (K.sub w.heap.size w2.drew.heap.size w4.heap.size) aP k:=λk hk hn hf=>(N9 k hf).elim (λe=>by omega) hn;have nC:∀{k:Nat} {ty:TypeId} {cs:Array Value},Row w k ty cs->ty≠lW->ty≠pH->ty≠5->ty≠aHV->¬Fc K w k:=by
  intro k ty cs hr a b c d hk;rcases hx.own hk with rfl|rfl|rfl|hk|hk
  .exact hr.ne h.aHh.top d rfl
  .exact pI h.aHh.now hr rfl
  .exact hr.ne hx.row a rfl
  .obtain⟨xs,hs⟩:=hx.mT
   exact hs.c7 hr (λe=>b e.symm) hk
  .exact hx.gW.own.c7 hr (λe=>c e.symm) hk
 have agH:=(hh.still aJt).mod g11.mod (free _ hh.lt (nC hh (by decide) (by decide) (by decide) (by decide)));have H6:ga bg K.pb K.a:=(h.iV.still aJt).mod g11.mod (free _ h.iV.lt (nC h.iV (by decide) (by decide) (by decide) (by decide)));have Vg:dH bg K.fm []:=(h.fns.still aJt).mod g11.mod (free _ h.fns.lt λhk=>by
  obtain⟨t1,t2,t3,t4,t5,t6,t7,t8,t9,t10,t11,t12,t13⟩:=h.tys;rcases hx.own hk with e|e|e|e|e
  .exact t11 e.symm
  .exact t13 e.symm
  .exact t9 e.symm
  .obtain⟨xs,hs⟩:=hx.mT
   obtain⟨cur,hr⟩:=hs.typed e;exact h.fns.c7 hr rfl
  .obtain⟨cur,hr⟩:=hx.gW.own.typed e
   exact h.fns.c7 hr rfl)
 have aAw:A.cR bg vp s.V.length vc s.V:=cR.yH (hv.still aJt) g11.mod λhn a ha=>by obtain⟨a',cs,e1,e2⟩:=hv.2.2.2 hn;rw[ha]at e1;obtain rfl:=bO e1;exact free _ e2.lt (nC e2 (by decide) (by decide) (by decide) (by decide))
 have hout:=h11.beside (s:=s) agH aAw H6 Vg h.low.1 h.CO;have aAx:cj (Ft K w) w (Ft K bg) bg:=⟨Mod.trans aJt g11.mod (λ_ h=>h.elim) λk hk hf=>(N9 k hf).elim (λe=>by omega) .inr,λk hk=>by
  rcases hk with e|e
  .exact .inl (.inl e)
  .rcases g11.new k (.inr (aeZ.2 e))with hx|hx
   .rcases N9 k hx with e|e
    .exact .inr (by omega)
    .exact .inl (.inr e)
   .exact .inr (kf aJt.size hx)⟩
 obtain⟨jX,aAy⟩:=h11.gX;refine .inl ⟨rfl,_,agH.ai rfl,_,aAy.row.ai rfl,ax (λhb=>absurd (aQ hb) he) (λ_=>?_)⟩;exact⟨_,_,_,rfl,aR _,h11,hout,aAx⟩
def Sr(h:bx w w0 K s){t:Sh}{hb pb fm:Nat}(hk:bx w w0 (K.sub hb pb fm) t)(he:s.tw≠220):
  an P_ #[.pointer (some ⟨K.hb,0,none⟩),.pointer (some ⟨hb,0,none⟩)] w (λe w'=>e=.returned (.tuple #[])/\bx w' w0 K {s with st:=t.st}/\cj (Ft K w) w (Ft K w') w'/\Mod (λk=>k=K.hb) w w'):=by
 apply ak3;refine⟨_,hk.cell λ_ _=>rfl,h.HD t.st λw1 h1 g1 m1=>?_⟩;obtain⟨x,hx⟩:=h1.gX;exact⟨_,h1.cell λ_ _=>rfl,_,hx.row.ai rfl,ax (λhb=>absurd (aQ hb) he) (λ_=>⟨rfl,h1,g1,m1⟩)⟩
def N_:List L.Nd->ag->Sh->ag->Sh->Prop
 |[],i,s,o,s'=>o=i/\s'=s
 |n::r,i,s,o,s'=>s.way=0/\s.tw≠220/\∃t,mY n {s with bh:=i,out:=[],way:=0,loops:=0} t/\t.tw≠220/\N_ r t.out {Aj s t with st:=t.st} o s'
def anp:cY aL Pg=true:=by kernel_rfl
def apS(bP:aHx w0)(h0:Still w0 w)(h:bx w w0 K s){l:List L.Nd}{p:Option Addr}{n c:Nat}{D:Nat->Prop}(hl:L.vf.At w D l (.slice p n c))(hD:Kept D (Ft K w) w){o:ag}{s':Sh}(hst:N_ l s.bh s o s')(hlen:l.length<=100000)(ho:s'.out.length+o.length<=1000000000):
  an aKQ #[.pointer (some ⟨K.hb,0,none⟩),.slice p n c] w (λe w'=>e=.returned (.tuple #[])/\bx w' w0 K {s' with out:=s'.out++o}/\cj (Ft K w) w (Ft K w') w'):=by
 obtain⟨rfl,hc⟩:=hl.len;apply aj_;refine⟨_,h.cell λ_ _=>rfl,λi x w1=>∃(j:Nat) (sj:Sh),x=(j:Int)/\j<=l.length/\bx w1 w0 K sj/\cj (Ft K w) w (Ft K w1) w1/\N_ (l.drop j) i sj o s',λ_ x _=>(l.length-x).toNat,⟨0,s,rfl,dU _,h,cj.refl _,hst⟩,?_⟩;rintro i x _ w1 ⟨j,sj,rfl,hj,h1,g1,hs1⟩;refine ax (λhx=>?_) (λhx=>?_)
 .have hx:j<l.length:=by have:=aQ hx;omega
  rw[qM hx]at hs1;obtain⟨aLb,aFE,t,hex,hte,yl⟩:=hs1;obtain⟨b,qw,dw,qa,da,qr,dr,qo,dq,qk,dk,rfl,N0,hnd,hcell⟩:=S1 (hl.mod g1.mod λk hk=>(hD k hk).2) hx;have cl:∀(i:Nat) (u:Value),(L.jg l[j] (.slice qw l[j].ws.length dw) (.slice qa l[j].aHv.length da) (.slice qr l[j].rs.length dr) (.slice qo l[j].os.length dq) (.slice qk l[j].ks.length dk))[i]?=some u->w1.cell? ((b.add (Int.toNat (j:Int)*8)).add i)=some u:=λi u hu=>by rw[bW];exact hcell i u hu
  have c0:w1.cell? (b.add (Int.toNat (j:Int)*8))=some (.int .i64 l[j].k):=cl 0 _ rfl;refine⟨by omega,by omega,_,_,_,_,_,_,_,_,_,_,_,_,_,_,_,_,_,_,c0,cl 1 _ rfl,cl 2 _ rfl,cl 3 _ rfl,cl 4 _ rfl,cl 5 _ rfl,cl 6 _ rfl,cl 7 _ rfl,?_⟩;refine aO λw2 r2 s2 z2=>bF (g:=w1.heap.size) (o:=0) r2 λw3 r3 m3 z3=>?_;have aHK:Still w1 w3:=s2.box (aR _) m3;have h3:=h1.still aHK;have jj:=g1.trans (h1.gone aHK);have hD3:=hD.gone jj;refine⟨_,h3.cell λ_ _=>rfl,ax (λhb=>absurd aLb (by simpa using hb)) (λ_=>?_)⟩;refine(ata bP (td h h0 jj) h3 i (t:=t) (cap:=[.pointer (some ⟨w1.heap.size,0,none⟩)]) anp hte ?_).mono ?_
  .intro w4 hb pb fm s4 hhb h4 Wj
   have r4:=r3.still s4;apply ajL;refine⟨_,_,_,_,_,_,_,_,_,_,_,_,_,_,_,_,_,_,r4.ai rfl,r4.ai rfl,r4.ai rfl,r4.ai rfl,r4.ai rfl,r4.ai rfl,r4.ai rfl,r4.ai rfl,?_⟩;refine(hex w4 w0 (K.sub hb pb fm) D _ bP (Still.trans (td h h0 jj) s4) h4 ((hnd.still aHK).still s4) λk hk=>?_).mono ?_
   .have h5:=hD3 k hk
    refine⟨oB h5.1 s4.size,λhf=>(Wj k hf).elim (λe=>by omega) λe=>h5.2 (.inr e)⟩
   .rintro _ w5 ⟨rfl,h5,g5⟩
    exact .inl ⟨rfl,rfl,h5,g5⟩
  .rintro _ w5 ⟨hb,pb,fm,rfl,hhb,hk5,h5,g5⟩
   refine .inl ⟨_,rfl,(Sr h5 hk5 (by exact hte)).mono ?_⟩;rintro _ w6 ⟨rfl,h6,g6,m6⟩;have hne:hb≠K.hb:=by obtain⟨vj,aJg,mV,_⟩:=h3.fW;have:=mV.lt;omega
   have c6:w6.cell? ⟨hb,8,none⟩=some (.string (S t.out)):=vQ m6 hne (hk5.cell λ_ _=>rfl);refine .inl ⟨rfl,_,c6,?_⟩;rw[wrap_i64 (by omega) (by omega)];exact⟨⟨j+1,_,by omega,by omega,h6,(jj.trans g5).trans g6,yl⟩,by dsimp only;omega⟩
 .have hx:j=l.length:=by have:=aZ hx;omega
  subst hx;rw[aJx]at hs1;obtain⟨rfl,rfl⟩:=hs1;refine⟨_,h1.cell λ_ _=>rfl,by omega,h1.Mc _ λw2 h2 g2 m2=>⟨rfl,h2,g1.trans g2⟩⟩
def atb{n:L.Nd}{o:ag}{s':Sh}(hk:n.ks.length≠1)(hn':n.neg=false)(hst:N_ n.ks s.bh s o s')(hlen:n.ks.length<=100000)(ho:s'.out.length+o.length<=1000000000):CX FF n s {s' with out:=s'.out++o}:=by intro w w0 K D cs bP h0 hs hn hD;obtain⟨pw,cw,pa,ca,pr,cr,po,co,pk,ck,rfl,rG,ha,hrd,hos,hks⟩:=hn.outs;apply akW;refine aO λw1 r1 s1 z1=>?_;have h1:=hs.still s1;refine⟨_,_,_,r1.ai rfl,ax (λhb=>absurd (aQ hb) (by omega)) (λ_=>⟨_,_,_,r1.ai rfl,?_⟩)⟩;refine(apS bP (h0.trans s1) h1 (hks.still s1) (hD.gone (hs.gone s1)) hst hlen ho).mono ?_;rintro _ w2 ⟨rfl,h2,g2⟩;have r2:=r1.mod g2.mod (iX h1 r1);exact .inl ⟨rfl,_,r2.ai rfl,ax (λ_=>⟨rfl,h2,(hs.gone s1).trans g2⟩) (λhb=>by rw[hn']at hb;cases hb)⟩
end Go.Proofs.YtihaaoehhgmphaaGreatDoor
namespace Go.Proofs.YtihaaoehhgmphaaGreatDoor.L
open IntKind Go.RowKit Vc
variable{w:World}
abbrev Scan(w:World)(g:Nat)(s:ag):Prop:=Row w g 200 ⟨[.string (S s)]⟩
abbrev cU(g:Nat)(w w':World):Prop:=Mod (λi=>i=g) w w'
def cU.trans{g:Nat}{a b c:World}(h:cU g a b)(k:cU g b c):cU g a c:=Mod.trans h k (λ_ h=>h) (λ_ _ h=>h)
def Ho:List PanicEntry:=[{v:=.iface 28 (.int .i64 80),recovered:=false}]
def nA(g:Nat)(w:World)(o:Option ag)(e:Ending)(w':World):Prop:=
 cU g w w'/\match o with
  |some t=>e=.returned (.tuple #[])/\Scan w' g t
  |none=>e=.panicked Ho/\∃t,Scan w' g t
def rU(ok:Bool):an xd #[.bool ok] w (λe w'=>e=(if ok=true then .returned (.tuple #[])else .panicked Ho)/\w'=w):=by
 apply am8;cases ok with
 |true=>exact⟨rfl,rfl⟩
 |false=>exact⟨rfl,rfl⟩
def Scan.cell{g:Nat}{s:ag}(h:Scan w g s):w.cell? ⟨g,0,none⟩=some (.string (S s)):=h.dh rfl
def Scan.put{g:Nat}{s:ag}(h:Scan w g s)(t:ag):Scan (w.setCell ⟨g,0,none⟩ (.string (S t))) g t:=h.aHE 0 _
def cU.put{g:Nat}(t:Value):cU g w (w.setCell ⟨g,0,none⟩ t):=(Mod.refl (λi=>i=g) w).setCell (p:=⟨g,0,none⟩) (.inl rfl) _
def xy{g:Nat}{s:ag}(h:Scan w g s)(n:Nat):an oA #[.pointer (some ⟨g,0,none⟩),.int .i64 (n:Int)] w
  (λe w'=>nA g w (if n<=s.length then some (s.drop n)else none) e w'):=by
 apply akw;refine⟨_,h.cell,(rU _).mono ?_⟩;rintro _ w1 ⟨rfl,rfl⟩
 by_cases hn:n<=s.length
 .rw[aN hn,aN (jc (by omega))]
  refine .inl ⟨rfl,_,h.cell,by omega,by omega,h.wr 0 (by simp),cU.put _,rfl,?_⟩;rw[bW];exact h.put _
 .rw[aH hn,aH (by simp;omega)]
  exact .inr ⟨_,rfl,Mod.refl _ _,rfl,s,h⟩
def nA.next{g:Nat}{o:Option ag}{e:Ending}{w1 w':World}(hm:cU g w w1)(h:nA g w1 o e w'):nA g w o e w':=⟨hm.trans h.1,h.2⟩
def nA.on{g:Nat}{o:Option ag}{f:ag->Option ag}{e:Ending}{w1:World}{R:Ending->World->Prop}(hr:∀e w',nA g w (o.bind f) e w'->R e w')(h:nA g w o e w1){K:World->Prop}
  (hk:∀t,o=some t->cU g w w1->Scan w1 g t->(∀e w',nA g w1 (f t) e w'->R e w')->K w1):(e=.returned (.tuple #[])/\K w1)\/(∃ch,e=.panicked ch/\R (.panicked ch) w1):=by
 obtain⟨hm,h⟩:=h;cases o with
 |none=>obtain⟨rfl,ht⟩:=h;exact .inr ⟨_,rfl,hr _ _ ⟨hm,rfl,ht⟩⟩
 |some t=>obtain⟨rfl,ht⟩:=h;exact .inl ⟨rfl,hk t rfl hm ht (λe w' h=>hr _ _ (nA.next hm h))⟩
def aa0:∀s:ag,(if 0<=Go.Lib.indexByte s 39 then some (s.drop (Go.Lib.indexByte s 39+1).toNat)else none)=rW s/\(0<=Go.Lib.indexByte s 39->Go.Lib.indexByte s 39<s.length)/\-1<=Go.Lib.indexByte s 39
 |[]=>⟨rfl,by decide,by decide⟩
 |a::r=>by
  obtain⟨h1,h2,h3⟩:=aa0 r;simp only[Go.Lib.indexByte,rW,DA]
  by_cases ha:a=39
  .rw[aN ha,aN ha]
   refine⟨rfl,λ_=>by simp only[a_];omega,by decide⟩
  .rw[aH ha,aH ha,<-h1]
   by_cases hr:Go.Lib.indexByte r 39= -1
   .rw[aN hr,hr]
    exact⟨rfl,λh=>absurd h (by decide),by decide⟩
   .rw[aH hr,aN (by omega),aN (by omega)]
    refine⟨?_,λ_=>by simp only[a_];have:=h2 (by omega);omega,by omega⟩;congr 1;rw[show(Go.Lib.indexByte r 39+1+1).toNat=(Go.Lib.indexByte r 39+1).toNat+1 by omega,aJY]
def aKK(d:Nat):Prop:=∀(w:World) (g:Nat) (s:ag),s≠[]->Scan w g s->s.length<1000000->an aJZ #[.pointer (some ⟨g,0,none⟩),.int .i64 (31-(d:Int))] w (λe w'=>nA g w (fH d s) e w')
def LR(d:Nat):Prop:=∀(w:World) (g:Nat) (s:ag) (c:UInt8),Scan w g s->s.length<1000000->an Bm #[.pointer (some ⟨g,0,none⟩),.int .u8 (c.toNat:Int),.int .i64 (31-(d:Int))] w (λe w'=>nA g w (dV d c s) e w')
set_option maxHeartbeats 1000000 in
def TG{d:Nat}(hd:d<=31)(ih:d≠0->LR (d-1)):aKK d:=by
 intro w g s hs h hlen;apply akC;refine(rU _).mono ?_;rintro _ w1 ⟨rfl,rfl⟩
 by_cases hd0:d=0
 .subst hd0
  rw[aH (by simp),aaC];exact .inr ⟨_,rfl,Mod.refl _ _,rfl,s,h⟩
 obtain⟨k,rfl⟩:∃k,d=k+1:=⟨d-1,by omega⟩;have ih:=ih hd0;rw[P3]at ih;have e1:i64.wrap (31-((k+1:Nat):Int)+1)=31-(k:Int):=wI;rw[aN (jc (by omega)),e1];obtain⟨a,r,rfl⟩:=aJl hs;simp only[a_]at hlen;have hu:fH (k+1) (a::r)=kC (dV k) (a::r):=rfl;rw[hu]
 -- a skip, and what ends
 have Vj:∀(n:Nat) (c:UInt8) (s2:ag),n<=(a::r).length->(a::r).drop n=s2->∀R:Ending->World->Prop,(∀e w',nA g w1 (dV k c s2) e w'->R e w')->
   an oA #[(.pointer (some ⟨g,0,none⟩)),(.int .i64 (n:Int))] w1 (λaHY w6=>(aHY=.returned (.tuple #[])/\an Bm #[(.pointer (some ⟨g,0,none⟩)),(.int .u8 (c.toNat:Int)),(.int .i64 (31-(k:Int)))] w6 (λaIS w7=>(aIS=.returned (.tuple #[])/\R (.returned (.tuple #[])) w7)\/(∃Iu,aIS=.panicked Iu/\R (.panicked Iu) w7)))\/(∃vb,aHY=.panicked vb/\R (.panicked vb) w6)):=by
  intro n c s2 hn afL R hR;refine(xy h n).mono λe w6 ht=>?_;rw[aN hn,afL]at ht;obtain⟨hm,rfl,hs2⟩:=ht;have aH5:s2.length<1000000:=by rw[<-afL];simp only[j_,a_];omega
  refine .inl ⟨rfl,(ih w6 g s2 c hs2 aH5).mono λe w7 ht=>?_⟩;have ht:=nA.next hm ht;cases ho:dV k c s2 with
  |none=>rw[ho]at ht;obtain⟨hm2,rfl,h3⟩:=ht;exact .inr ⟨_,rfl,hR _ _ (by rw[ho];exact⟨hm2,rfl,h3⟩)⟩
  |some t=>rw[ho]at ht;obtain⟨hm2,rfl,h3⟩:=ht;exact .inl ⟨rfl,hR _ _ (by rw[ho];exact⟨hm2,rfl,h3⟩)⟩
 have S2:∀(n:Nat) (o:Option ag),(if n<=(a::r).length then some ((a::r).drop n)else none)=o->∀R:Ending->World->Prop,(∀e w',nA g w1 o e w'->R e w')->
   an oA #[(.pointer (some ⟨g,0,none⟩)),(.int .i64 (n:Int))] w1 (λaHY w6=>(aHY=.returned (.tuple #[])/\R (.returned (.tuple #[])) w6)\/(∃vb,aHY=.panicked vb/\R (.panicked vb) w6)):=by
  intro n o ho R hR;refine(xy h n).mono λe w6 ht=>?_;rw[ho]at ht;cases o with
  |none=>obtain⟨hm2,rfl,h3⟩:=ht;exact .inr ⟨_,rfl,hR _ _ ⟨hm2,rfl,h3⟩⟩
  |some t=>obtain⟨hm2,rfl,h3⟩:=ht;exact .inl ⟨rfl,hR _ _ ⟨hm2,rfl,h3⟩⟩
 refine .inl ⟨rfl,_,h.cell,by decide,a,rfl,ax (λkG=>?_) (λkG=>⟨_,h.cell,by decide,a,rfl,ax (λpW=>?_) (λpW=>⟨_,h.cell,by decide,a,rfl,ax (λot=>?_) (λot=>⟨_,h.cell,?_⟩)⟩)⟩)⟩
 .have kG:a=92:=ey.1 (aQ kG)
  refine S2 2 _ ?_ _ (λe w' h=>h);simp only[kC,aN kG];cases r with
  |nil=>rfl
  |cons b t=>simp
 .have kG:¬a=92:=λe=>aZ kG (ey.2 e)
  have pW:a=39:=ey.1 (aQ pW);refine⟨_,h.cell,by decide,by simp only[a_];omega,?_⟩;have hq:kC (dV k) (a::r)=rW r:=by simp only[kC,aH kG,aN pW]
  rw[hq];obtain⟨i1,i2,i3⟩:=aa0 r;refine(Tryz.strings_IndexByte (S r) 39 _).mono ?_;rintro _ w3 ⟨rfl,rfl⟩;have WI:Go.Lib.indexByte (S r).data.toList (Int.toNat 39).toUInt8=Go.Lib.indexByte r 39:=rfl;rw[WI];generalize Go.Lib.indexByte r 39=ix at i1 i2 i3;refine .inl ⟨_,rfl,(rU _).mono ?_⟩;rintro _ w4 ⟨rfl,rfl⟩
  by_cases h0:0<=ix
  .obtain⟨n,rfl⟩:=O6 h0
   have i2:=i2 h0;have e2:i64.wrap ((n:Int)+2)=((n+2:Nat):Int):=wI;rw[aN (jc h0),e2];refine .inl ⟨rfl,S2 (n+2) _ ?_ _ (λe w' h=>h)⟩;rw[<-i1,aN h0,aN (by simp only[a_];omega),show((n:Int)+1).toNat=n+1 by omega];rfl
  .rw[aH (by simpa using h0)]
   refine .inr ⟨_,rfl,?_⟩;rw[<-i1,aH h0];exact⟨Mod.refl _ _,rfl,_,h⟩
 .have kG:¬a=92:=λe=>aZ kG (ey.2 e)
  have pW:¬a=39:=λe=>aZ pW (ey.2 e);have ot:a=34:=ey.1 (aQ ot);have hq:kC (dV k) (a::r)=dV k 34 r:=by simp only[kC,aH kG,aH pW,aN ot]
  rw[hq];exact Vj 1 34 r (by simp) rfl _ (λe w' h=>h)
 .have kG:¬a=92:=λe=>aZ kG (ey.2 e)
  have pW:¬a=39:=λe=>aZ pW (ey.2 e);have ot:¬a=34:=λe=>aZ ot (ey.2 e);have hq:kC (dV k) (a::r)=aJJ (dV k) a r:=by simp only[kC,aH kG,aH pW,aH ot]
  rw[hq];have hp:∀x:UInt8,Go.Lib.hasPrefix (S (a::r)).data.toList (S [36,x]).data.toList=(match r with
   |b::_=>decide (a=36/\b=x)
   |[]=>false):=by
   intro x;show List.isPrefixOf [36,x] (a::r)=_
   cases r with
   |nil=>simp[List.isPrefixOf]
   |cons b t=>
    simp only[List.isPrefixOf,Bool.and_true]
    by_cases h1:a=36
    ·by_cases h2:b=x
     .simp[h1,h2]
     .have:¬x=b:=λe=>h2 e.symm
      simp[h1,h2,this]
    .have:¬36=a:=λe=>h1 e.symm
     simp[h1,this]
  refine(Tryz.strings_HasPrefix (S (a::r)) (S [36,40]) _).mono ?_;rintro _ w3 ⟨rfl,rfl⟩;rw[hp 40];refine .inl ⟨_,rfl,ax (λoZ=>?_) (λoZ=>⟨_,h.cell,(Tryz.strings_HasPrefix (S (a::r)) (S [36,123]) _).mono ?_⟩)⟩
  .cases r with
   |nil=>cases oZ
   |cons b t=>have oZ:=aQ oZ;simp only[aJJ,aN oZ];exact Vj 2 41 t (by simp) rfl _ (λe w' h=>h)
  .rintro _ w4 ⟨rfl,rfl⟩
   rw[hp 123];refine .inl ⟨_,rfl,ax (λuX=>?_) (λuX=>?_)⟩
   .cases r with
    |nil=>cases uX
    |cons b t=>have oZ:=aZ oZ;have uX:=aQ uX;simp only[aJJ,aH oZ,aN uX];exact Vj 2 125 t (by simp) rfl _ (λe w' h=>h)
   .refine S2 1 _ ?_ _ (λe w' h=>h)
    cases r with
    |nil=>rfl
    |cons b t=>have oZ:=aZ oZ;have uX:=aZ uX;simp only[aJJ,aH oZ,aH uX];simp
def aJb(g:Nat)(w:World):Nat:=match w.cell? ⟨g,0,none⟩with
 |some (.string s)=>s.data.size
 |_=>0
def Scan.len{g:Nat}{s:ag}(h:Scan w g s):aJb g w=s.length:=by unfold aJb;rw[h.cell];rfl
set_option maxHeartbeats 1000000 in
def ac3{d:Nat}(hd:d<=31)(hu:aKK d)(ih:d≠0->LR (d-1)):LR d:=by
 intro w g s c h hlen;apply akf;refine⟨λw1=>∃s1,Scan w1 g s1/\cU g w w1/\dV d c s1=dV d c s/\s1.length<=s.length,aJb g,⟨s,h,Mod.refl _ _,rfl,aR _⟩,?_⟩;rintro _ w1 ⟨s1,h1,dX,he,hl⟩;rw[<-he];refine⟨_,h1.cell,(rU _).mono ?_⟩;rintro _ w2 ⟨rfl,rfl⟩;cases s1 with
 |nil=>rw[aH (by simp),aqC];exact .inr ⟨_,rfl,dX,rfl,_,h1⟩
 |cons b r=>
  rw[aN (by simp)];rw[ZZ]at he⊢;simp only[a_]at hl;refine .inl ⟨rfl,_,h1.cell,by decide,b,rfl,ax (λhb=>?_) (λhb=>?_)⟩
  .have hb:b=c:=ey.1 (aQ hb)
   rw[aN hb];refine(xy h1 1).mono λe w3 ht=>?_;rw[aN (by simp)]at ht;obtain⟨dx,rfl,h3⟩:=ht;exact .inl ⟨rfl,dX.trans dx,rfl,h3⟩
  .have hb:¬b=c:=λe=>aZ hb (ey.2 e)
   rw[aH hb]at he⊢
   -- what goes on behind a taking
   have on:∀(o:Option ag) (e:Ending) (w3:World),nA g w2 o e w3->o.bind (dV d c)=dV d c s->(∀t,o=some t->t.length<=r.length)->
     (e=.returned (.tuple #[])/\(∃s1,Scan w3 g s1/\cU g w w3/\dV d c s1=dV d c s/\s1.length<=s.length)/\aJb g w3<aJb g w2)\/(∃ch,e=.panicked ch/\nA g w (dV d c s) (.panicked ch) w3):=by
    intro o e w3 ht ho hlo;obtain⟨dx,ht⟩:=ht;cases o with
    |none=>obtain⟨rfl,h3⟩:=ht;refine .inr ⟨_,rfl,dX.trans dx,?_⟩;rw[<-ho];exact⟨rfl,h3⟩
    |some t=>obtain⟨rfl,h3⟩:=ht;have:=hlo t rfl;refine .inl ⟨rfl,⟨t,h3,dX.trans dx,ho,by omega⟩,?_⟩;rw[h3.len,h1.len];simp only[a_];omega
   have hrl:r.length<1000000:=by omega
   have unit:(fH d (b::r)).bind (dV d c)=dV d c s->an aJZ #[(.pointer (some ⟨g,0,none⟩)),(.int .i64 (31-(d:Int)))] w2 (λu9 aP=>(u9=.returned (.tuple #[])/\(∃s1,Scan aP g s1/\cU g w aP/\dV d c s1=dV d c s/\s1.length<=s.length)/\aJb g aP<aJb g w2)\/(∃It,u9=.panicked It/\nA g w (dV d c s) (.panicked It) aP)):=by intro ho;refine(hu w2 g (b::r) (Yo _ _) h1 (by simp only[a_];omega)).mono λe w3 ht=>?_;refine on _ e w3 ht ho λt ht=>?_;have:=s_ d _ _ ht;simp only[a_]at this;omega
   have wd:decide (31-(d:Int)<=30)=decide (d≠0):=by apply aIU.2;omega
   rw[wd];have hres:dV d c s=(if c=34/\b=39 then(if d=0 then none else dV d c r)else if c=41/\b=40 then(if d=0 then none else(dV (d-1) 41 r).bind (dV d c))else(fH d (b::r)).bind (dV d c)):=he.symm;rw[he];refine⟨λx w4=>x=decide (c=34/\b=39)/\w4=w2,ax (λhc=>⟨?_,rfl⟩) (λhc=>⟨?_,rfl⟩),?_⟩
   .have hc:c=34:=ey.1 (aQ hc)
    apply aIU.2;exact⟨λh=>⟨hc,ey.1 h⟩,λh=>ey.2 h.2⟩
   .rw[fY (λh=>aZ hc (ey.2 h.1))]
   rintro _ _ w4 ⟨rfl,rfl⟩;refine ax (λhq=>?_) (λhq=>?_)
   .have hq:=aQ hq
    rw[aN hq]at hres;refine(rU _).mono ?_;rintro _ w5 ⟨rfl,rfl⟩
    by_cases hd0:d=0
    .rw[aN hd0]at hres
     rw[aH (by simp[hd0])];refine .inr ⟨_,rfl,?_⟩;rw[hres];exact⟨dX,rfl,_,h1⟩
    .rw[aH hd0]at hres
     rw[aN (by simp[hd0])];refine .inl ⟨rfl,(xy h1 1).mono λe w6 ht=>?_⟩;rw[aN (by simp)]at ht;refine on (some r) e w6 ht hres.symm λt ht=>?_;obtain rfl:=bO ht;exact aR _
   .have hq:=aZ hq
    rw[aH hq]at hres;refine ax (λhc=>ax (λCn=>?_) (λCn=>?_)) (λhc=>?_)
    .have hc:c=41:=ey.1 (aQ hc)
     have Cn:b=40:=ey.1 (aQ Cn);rw[aN ⟨hc,Cn⟩]at hres;refine(rU _).mono ?_;rintro _ w5 ⟨rfl,rfl⟩
     by_cases hd0:d=0
     .rw[aN hd0]at hres
      rw[aH (by simp[hd0])];refine .inr ⟨_,rfl,?_⟩;rw[hres];exact⟨dX,rfl,_,h1⟩
     .rw[aH hd0]at hres
      rw[aN (by simp[hd0])];have e1:i64.wrap (31-(d:Int)+1)=31-((d-1:Nat):Int):=wI;rw[e1];refine .inl ⟨rfl,(xy h1 1).mono λe w6 ht=>?_⟩;rw[aN (by simp)]at ht;obtain⟨lZ,rfl,h6⟩:=ht;refine .inl ⟨rfl,(ih hd0 w6 g r 41 h6 hrl).mono λe w7 ht=>?_⟩;refine on _ e w7 (nA.next lZ ht) hres.symm λt ht=>?_;exact Kr (aI0 (d-1) 41 _ _ ht)
    .have Cn:¬b=40:=λe=>aZ Cn (ey.2 e)
     rw[aH (λh=>Cn h.2)]at hres;exact unit hres.symm
    .have hc:¬c=41:=λe=>aZ hc (ey.2 e)
     rw[aH (λh=>hc h.1)]at hres;exact unit hres.symm
def levels:∀d,d<=31->aKK d/\LR d
 |0,h=>⟨TG h (λh=>absurd rfl h),ac3 h (TG h (λh=>absurd rfl h)) (λh=>absurd rfl h)⟩
 |d+1,h=>by have ih:=(levels d (by omega)).2;have hu:aKK (d+1):=TG h (λ_=>ih);exact⟨hu,ac3 h hu (λ_=>ih)⟩
def ab5{g:Nat}{s:ag}(hs:s≠[])(h:Scan w g s)(hl:s.length<1000000):an aJZ #[.pointer (some ⟨g,0,none⟩),.int .i64 1] w (λe w'=>nA g w (fH 30 s) e w'):=
 (levels 30 (by decide)).1 w g s hs h hl
def tB(c:UInt8):Bool:=c==32||c==9||c==10||c==59||c==124||c==38||c==40||c==41||c==60||c==62
def mP:ag->Bool
 |[]=>true
 |c::_=>tB c
def ZD{g:Nat}{s:ag}(h:Scan w g s):an JO #[.pointer (some ⟨g,0,none⟩)] w (λe w'=>e=.returned (.bool (mP s))/\w'=w):=by
 apply akx;refine⟨_,h.cell,ax (λhe=>?_) (λhe=>⟨_,h.cell,by decide,?_⟩)⟩
 .have he:=aQ he
  subst he;exact⟨rfl,rfl⟩
 .have he:=aZ he
  obtain⟨b,r,rfl⟩:=aJl he;refine⟨b,rfl,(Tryz.strings_IndexByte (S [32,9,10,59,124,38,40,41,60,62]) _ _).mono ?_⟩;rintro _ w1 ⟨rfl,rfl⟩;refine .inl ⟨_,rfl,?_,rfl⟩;rw[Rz,show(S [32,9,10,59,124,38,40,41,60,62]).data.toList=[32,9,10,59,124,38,40,41,60,62]from rfl,Lg];congr 2;simp only[mP,tB,Dh,FI,Du,QU]
def aIn:Nat->ag->Option ag
 |0,_=>none
 |n+1,s=>if mP s=true then some s else match fH 30 s with
  |some t=>aIn n t
  |none=>none
def aa1:∀(n m:Nat) (s:ag),s.length<n->s.length<m->aIn n s=aIn m s
 |0,_,_,h,_=>by omega
 |_,0,_,_,h=>by omega
 |n+1,m+1,s,hn,hm=>by
  rw[aIn,aIn];split;·rfl
  .cases hu:fH 30 s with
   |none=>rfl
   |some t=>have:=s_ 30 _ _ hu;exact aa1 n m t (by omega) (by omega)
def nY(s:ag):Option ag:=aIn (s.length+1) s
def R6{s:ag}(h:mP s=true):nY s=some s:=by rw[nY,aIn,aN h]
def K6{s t:ag}(h:mP s=false)(hu:fH 30 s=some t):nY s=nY t:=by have:=s_ 30 _ _ hu;rw[nY,aIn,aH (by rw[h];decide),hu];exact aa1 _ _ _ (by omega) (by omega)
def R7{s:ag}(h:mP s=false)(hu:fH 30 s=none):nY s=none:=by rw[nY,aIn,aH (by rw[h];decide),hu]
def ao1{g:Nat}{s:ag}(h:Scan w g s)(hl:s.length<1000000):an PM #[.pointer (some ⟨g,0,none⟩)] w
  (λe w'=>cU g w w'/\match nY s with
   |some t=>e=.returned (.string (S (s.take (s.length-t.length))))/\Scan w' g t/\t.length<=s.length
   |none=>e=.panicked Ho/\∃t,Scan w' g t):=by
 apply aky;refine⟨_,h.cell,λw1=>∃s1,Scan w1 g s1/\cU g w w1/\nY s1=nY s/\s1.length<=s.length,aJb g,⟨s,h,Mod.refl _ _,rfl,aR _⟩,?_⟩;rintro _ w1 ⟨s1,h1,dX,he,hle⟩;rw[<-he];refine(ZD h1).mono ?_;rintro _ w2 ⟨rfl,rfl⟩;refine .inl ⟨_,rfl,ax (λhne=>?_) (λhne=>?_)⟩
 .have hne:mP s1=false:=by simpa using hne
  have hs1:s1≠[]:=by rintro rfl;cases hne
  refine(ab5 hs1 h1 (by omega)).mono λe w3 ht=>?_;obtain⟨dx,ht⟩:=ht;cases hu:fH 30 s1 with
  |none=>rw[hu]at ht;obtain⟨rfl,h3⟩:=ht;refine .inr ⟨_,rfl,dX.trans dx,?_⟩;rw[R7 hne hu];exact⟨rfl,h3⟩
  |some t=>rw[hu]at ht;obtain⟨rfl,h3⟩:=ht;have hlt:=s_ 30 _ _ hu;refine .inl ⟨rfl,⟨t,h3,dX.trans dx,(K6 hne hu).symm,by omega⟩,?_⟩;rw[h3.len,h1.len];exact hlt
 .have hne:mP s1=true:=by simpa using hne
  have ew:i64.wrap ((s.length:Int)-(s1.length:Int))=((s.length-s1.length:Nat):Int):=wI;refine⟨_,h1.cell,?_⟩
  try dsimp only[zR]
  rw[ew,bW,R6 hne];exact⟨by omega,by omega,dX,rfl,h1,hle⟩
def gP:ag->Nat
 |a::b::_=>if a=b/\([38,124,59,62]:ag).contains a=true then 2 else 1
 |_=>1
def arf{g:Nat}{s:ag}(h:Scan w g s)(hs:s≠[]):an O9 #[.pointer (some ⟨g,0,none⟩)] w
  (λe w'=>cU g w w'/\e=.returned (.string (S (s.take (gP s))))/\Scan w' g (s.drop (gP s))):=by
 apply ajB;have hol:gP s<=s.length/\(gP s=1\/gP s=2):=by
  match s,hs with
  |[a],_=>exact⟨aR _,.inl rfl⟩
  |a::b::r,_=>simp only[gP];split<;>simp
 refine⟨λn w3=>n=(gP s:Int)/\Scan w3 g s/\cU g w w3,⟨λx w2=>x=decide (gP s=2)/\Scan w2 g s/\cU g w w2,⟨λwq=>Scan wq g s,h.drew,_,λwq hq=>hq.cell,ax (λhl=>?_) (λhl=>⟨?_,h.drew,(Mod.refl _ _).drew⟩)⟩,?_⟩,?_⟩
 ·match s,hs,h with
  |a::b::r,_,h=>
   refine⟨_,λwq hq=>hq.cell,by decide,a,rfl,_,λwq hq=>hq.cell,by decide,b,rfl,ax (λhab=>⟨_,λwq hq=>hq.cell,by decide,a,rfl,(Tryz.strings_IndexByte (S [38,124,59,62]) _ _).mono ?_⟩) (λhab=>⟨?_,h.drew,(Mod.refl _ _).drew⟩)⟩
   .have hab:a=b:=ey.1 (aQ hab)
    rintro _ w1 ⟨rfl,rfl⟩;refine .inl ⟨_,rfl,?_,h.drew,(Mod.refl _ _).drew⟩;rw[Rz,show(S [38,124,59,62]).data.toList=[38,124,59,62]from rfl,Lg]
    by_cases hc:([38,124,59,62]:ag).contains a=true
    .have ho:gP (a::b::r)=2:=by simp only[gP,aN (And.intro hab hc)]
     rw[hc,jc ho]
    .have ho:gP (a::b::r)=1:=by simp only[gP,aH (λh=>hc (And.right h))]
     have Ie:([38,124,59,62]:ag).contains a=false:=by simpa using hc
     rw[Ie,fY (by omega)]
   .have hab:¬a=b:=λe=>aZ hab (ey.2 e)
    have ho:gP (a::b::r)=1:=by simp only[gP,aH (λh=>hab (aKE h))]
    exact(fY (by omega)).symm
  |[a],_,h=>simp at hl
 ·match s,hs with
  |[a],_=>rfl
  |a::b::r,_=>have:=aZ hl;simp only[a_]at this;omega
 .rintro _ _ w2 ⟨rfl,h2,hm2⟩
  refine ax (λh=>⟨?_,h2,hm2⟩) (λh=>⟨?_,h2,hm2⟩)
  .rw[aQ h];rfl
  .have:=aZ h
   rcases hol.2 with e|e
   .rw[e];rfl
   .exact absurd e this
 .rintro _ _ w3 ⟨rfl,h3,dx⟩
  refine⟨_,h3.cell,by omega,by omega,(xy h3 (gP s)).mono λe w4 ht=>?_⟩;rw[aN hol.1]at ht;obtain⟨lY,rfl,h4⟩:=ht;refine .inl ⟨rfl,dx.trans lY,?_,h4⟩;rw[bW]
def aHX:ag->ag
 |[]=>[]
 |a::r=>if a=10 then a::r else aHX r
def ab6:∀s:ag,aHX s=(if 0<=Go.Lib.indexByte s 10 then s.drop (Go.Lib.indexByte s 10).toNat else[])/\(0<=Go.Lib.indexByte s 10->Go.Lib.indexByte s 10<s.length)/\-1<=Go.Lib.indexByte s 10
 |[]=>⟨rfl,by decide,by decide⟩
 |a::r=>by
  obtain⟨h1,h2,h3⟩:=ab6 r;simp only[Go.Lib.indexByte,aHX,DA]
  by_cases ha:a=10
  .rw[aN ha,aN ha]
   refine⟨rfl,λ_=>by simp only[a_];omega,by decide⟩
  .rw[aH ha,aH ha,h1]
   by_cases hr:Go.Lib.indexByte r 10= -1
   .rw[aN hr,hr]
    exact⟨rfl,λh=>absurd h (by decide),by decide⟩
   .rw[aH hr,aN (by omega),aN (by omega)]
    refine⟨?_,λ_=>by simp only[a_];have:=h2 (by omega);omega,by omega⟩;rw[show(Go.Lib.indexByte r 10+1).toNat=(Go.Lib.indexByte r 10).toNat+1 by omega,aJY]
def anF{g:Nat}{s:ag}(h:Scan w g s):an Pe #[.pointer (some ⟨g,0,none⟩)] w (λe w'=>cU g w w'/\e=.returned (.tuple #[])/\Scan w' g (aHX s)):=by
 apply ajG;refine⟨_,h.cell,(Tryz.strings_IndexByte (S s) 10 _).mono ?_⟩;rintro _ w1 ⟨rfl,rfl⟩;have WI:Go.Lib.indexByte (S s).data.toList (Int.toNat 10).toUInt8=Go.Lib.indexByte s 10:=rfl;rw[WI];obtain⟨i1,i2,i3⟩:=ab6 s;generalize Go.Lib.indexByte s 10=ix at i1 i2 i3;refine .inl ⟨_,rfl,ax (λh0=>?_) (λh0=>⟨h.wr 0 (by simp),cU.put _,rfl,?_⟩)⟩
 .have h0:=aQ h0
  obtain⟨n,rfl⟩:=O6 h0;have i2:=i2 h0;refine(xy h n).mono λe w2 ht=>?_;rw[aN (by omega)]at ht;obtain⟨hm2,rfl,h2⟩:=ht;rw[aN h0,bW]at i1;rw[i1];exact .inl ⟨rfl,hm2,rfl,h2⟩
 .have h0:=aZ h0
  rw[aH h0]at i1;rw[i1];exact h.put _
abbrev Tok:=Nat×ag
def aKS:∀s:ag,(aHX s).length<=s.length
 |[]=>aR _
 |a::r=>by
  simp only[aHX];split
  .exact aR _
  .have:=aKS r
   simp only[a_];omega
def ZE:∀(n:Nat) (s t:ag),aIn n s=some t->t.length<=s.length
 |0,_,_,h=>by cases h
 |n+1,s,t,h=>by
  rw[aIn]at h;split at h
  .obtain rfl:=bO h;exact aR _
  .split at h
   .rename_i t' ht
    have h1:=s_ 30 _ _ ht;have h2:=ZE n _ _ h;omega
   .cases h
def RD{s t:ag}(he:mP s=false)(h:nY s=some t):t.length<s.length:=by
 cases hu:fH 30 s with
 |none=>rw[R7 he hu]at h;cases h
 |some t'=>rw[K6 he hu]at h;have h1:=s_ 30 _ _ hu;have h2:=ZE _ _ _ h;omega
def Lt{a:UInt8}{r:ag}:0<gP (a::r)/\gP (a::r)<=(a::r).length:=by
 cases r with
 |nil=>exact⟨Nat.one_pos,aR _⟩
 |cons b r=>simp only[gP];split<;>simp
def kz(a:UInt8)(r:ag):Option (List Tok×ag):=
 if a=32\/a=9 then some ([],r)
 else if a=35 then some ([],aHX r)
 else if a=10 then some ([(2,[10])],r)
 else if tB a=true then some ([(1,(a::r).take (gP (a::r)))],(a::r).drop (gP (a::r)))
 else match nY (a::r)with
  |some t=>some ([(0,(a::r).take ((a::r).length-t.length))],t)
  |none=>none
def yK:Nat->ag->Option (List Tok)
 |0,_=>none
 |_+1,[]=>some []
 |n+1,a::r=>match kz a r with
  |some (l,t)=>match yK n t with
   |some m=>some (l++m)
   |none=>none
  |none=>none
def toks(s:ag):Option (List Tok):=yK (s.length+1) s
def KI{a:UInt8}{r t:ag}{l:List Tok}(h:kz a r=some (l,t)):t.length<=r.length/\l.length<=1:=by
 unfold kz at h;split at h
 .obtain⟨rfl,rfl⟩:=aIY .. ▸bO h
  exact⟨aR _,by simp⟩
 .split at h
  .obtain⟨rfl,rfl⟩:=aIY .. ▸bO h
   exact⟨aKS r,by simp⟩
  .split at h
   .obtain⟨rfl,rfl⟩:=aIY .. ▸bO h
    exact⟨aR _,by simp⟩
   .split at h
    .obtain⟨rfl,rfl⟩:=aIY .. ▸bO h
     have:=Lt (a:=a) (r:=r);refine⟨?_,by simp⟩;rw[j_];simp only[a_]at this⊢;omega
    .rename_i he
     split at h
     .rename_i t' ht
      obtain⟨rfl,rfl⟩:=aIY .. ▸bO h;have:=RD (s:=a::r) (by simpa[mP]using he) ht;simp only[a_]at this;exact⟨by omega,by simp⟩
     .cases h
def ab7:∀(n m:Nat) (s:ag),s.length<n->s.length<m->yK n s=yK m s
 |0,_,_,h,_=>by omega
 |_,0,_,_,h=>by omega
 |n+1,m+1,[],_,_=>rfl
 |n+1,m+1,a::r,hn,hm=>by
  simp only[a_]at hn hm;simp only[yK];cases h:kz a r with
  |none=>rfl
  |some x=>obtain⟨l,t⟩:=x;have:=(KI h).1;dsimp only;rw[ab7 n m t (by omega) (by omega)]
def ac4:toks []=some []:=rfl
def Li(a:UInt8)(r:ag):toks (a::r)=(kz a r).bind λx=>(toks x.2).map (x.1++·):=by
 show yK (r.length+1+1) (a::r)=_;simp only[yK];cases h:kz a r with
 |none=>rfl
 |some x=>
  obtain⟨l,t⟩:=x;have:=(KI h).1;dsimp only[Option.bind];rw[ab7 (r.length+1) (t.length+1) t (by omega) (by omega)];show _=(yK (t.length+1) t).map _
  cases yK (t.length+1) t<;>rfl
def tc(l:List Tok):List Value:=l.flatMap λx=>[.int .i64 (x.1:Int),.string (S x.2)]
def atc(l m:List Tok):tc (l++m)=tc l++tc m:=by simp[tc]
def iN(s:ag):List Tok×Int:=if 20000<s.length then([],2)else match toks s with
 |some l=>(l,0)
 |none=>([],80)
structure TS(w w1:World)(s s1:ag)(acc:List Tok):Prop where
 sc:Scan w1 (w.heap.size+2) s1
 li:∃p C,Row w1 w.heap.size 126 ⟨[.slice p acc.length C]⟩/\aS w1 (w.heap.size+3) 203 2 (.slice p acc.length C) acc.length (tc acc)
 er:Row w1 (w.heap.size+1) 28 ⟨[.int .i64 0]⟩
 still:Still w w1
 size:w.heap.size+3<=w1.heap.size
 all:(toks s1).map (acc++·)=toks s
 cB:acc.length+s1.length<=s.length
def TH{k:Int}{t:ag}:∀u∈[Value.int .i64 k,.string (S t)],u.oneCell'=true:=by intro u hu;simp only[gE,ug,uh]at hu;rcases hu with rfl|rfl<;>rfl
def S3(w:World)(t:TypeId)(x y:Value):0<1->∃a:Addr,(some (Addr.mk w.heap.size 0 none))=some a/\∀(j:Nat) (u:Value),[x,y][j]?=some u->(w.alloc (.cells #[x,y] t)).cell? (a.add j)=some u:=by refine λ_=>⟨_,rfl,λj u hu=>?_⟩;rw[bM,cL];exact(Row.new w t ⟨[x,y]⟩).dh (by simpa using hu)
def TS.qd{w w1 w2 w3:World}{s s1 t:ag}{acc:List Tok}{k:Nat}{x:ag}{p p3:Option Addr}{C C3:Nat}(h:TS w w1 s s1 acc)(hm:cU (w.heap.size+2) w1 w2)(hsc:Scan w2 (w.heap.size+2) t)
  (ho:aS w2 (w.heap.size+3) 203 2 (.slice p acc.length C) acc.length (tc acc))(hl:Row w2 w.heap.size 126 ⟨[.slice p acc.length C]⟩)
  (oX:aS w3 0 203 2 (Value.slice p3 (acc.length+1) C3) (acc.length+1) (tc acc++[.int .i64 (k:Int),.string (S x)])){o:Obj}(hg:(w2.alloc o).grownBy w3 (Value.ownBlock (Value.slice p acc.length C)))
  (hb:oh p p3 (acc.length+1) C C3 (w2.alloc o).heap.size)
  (hall:(toks t).map ((acc++[(k,x)])++·)=toks s)(agI:acc.length+1+t.length<=s.length):
  Wr w3 ⟨w.heap.size,0,none⟩/\TS w (w3.setCell ⟨w.heap.size,0,none⟩ (.slice p3 (acc.length+1) C3)) s t (acc++[(k,x)]):=by
 have hs1:=h.size;have hs2:w.heap.size+3<=w2.heap.size:=kf hs1 hm.size;have yG:Still w w2:=Mod.trans h.still hm (λ_ h=>h) (λi hi h=>by omega);have agJ:=ho.qd hs2 oX hb;have sM:=hl.qd ho (oB (by omega) (aR _)) hg;have aAz:=hsc.qd ho (by omega) hg;have aAA:=h.er.mod hm (by omega);have aAB:=aAA.qd ho (by omega) hg;have uZ:Still w w3:=yG.qd ho (by omega) hg;have hown:∀j,(Value.slice p3 (acc.length+1) C3).ownBlock=some j->w.heap.size+3<=j:=λj hj=>(agJ.lt j hj).1;refine⟨sM.wr 0 (by simp),?_⟩;refine⟨aAz.far (by simp) _,⟨p3,C3,?_,?_⟩,aAB.far (by simp) _,uZ.setCell (.inr (aR _)) _,?_,hall,by simp;omega⟩
 .have:=sM.aHE 0 (.slice p3 (acc.length+1) C3)
  simpa using this
 .have:=agJ.far (p:=⟨w.heap.size,0,none⟩) (λe=>by have:=hown _ e;dsimp only at this;omega) (.slice p3 (acc.length+1) C3)
  rw[atc];simpa[tc]using this
 .have h1:=hg.size
  simp only[World.size_alloc,World.size_setCell]at h1⊢;omega
def azd{w w3:World}{s:ag}{R:Ending->World->Prop}(nD:¬20000<s.length)(hno:toks s=none)(hst:Still w w3){x:Value}(hl:Row w3 w.heap.size 126 ⟨[x]⟩){y:Value}(he:Row w3 (w.heap.size+1) 28 ⟨[y]⟩)
  (hR:∀w',Still w w'->R (.returned (.tuple #[.slice none 0 0,.int .i64 80])) w'):
  CallsD aL aJ5 #[(.pointer (some (Addr.mk w.heap.size 0 none))),(.pointer (some (Addr.mk (w.heap.size+1) 0 none)))] (.panicking Ho) w3 (λdm ux w4=>(∃rv,dm=.returned rv)/\settle ux=.returning/\∃(v4:Option Addr) (cJ dZ:Nat),w4.cell? (Addr.mk w.heap.size 0 none)=some (.slice v4 cJ dZ)/\∃v5:Int,w4.cell? (Addr.mk (w.heap.size+1) 0 none)=some (.int .i64 v5)/\R (.returned (.tuple #[(.slice v4 cJ dZ),(.int .i64 v5)])) w4):=by
 have hne:w.heap.size≠w.heap.size+1:=by omega
 have tP:=he.drew.far (p:=⟨w.heap.size,0,none⟩) hne.symm (.slice none 0 0);have aH5:=hl.drew.aHE 0 (.slice none 0 0);refine(aof ⟨w.heap.size,0,none⟩ ⟨w.heap.size+1,0,none⟩ 80 w3 (hl.wr 0 (by simp)) (tP.wr 0 (by simp))).mono ?_;rintro _ u w4 ⟨rfl,hu,rfl⟩;have sM:=aH5.far (p:=⟨w.heap.size+1,0,none⟩) hne (.int .i64 80);have he3:=tP.aHE 0 (.int .i64 80);refine⟨⟨_,rfl⟩,hu,_,_,_,sM.dh rfl,_,he3.dh rfl,hR _ ?_⟩;exact(hst.drew.setCell (.inr (aR _)) _).setCell (.inr (aKn _)) _
set_option maxHeartbeats 2000000 in
def apT(s:ag):an QV #[.string (S s)] w
  (λe w'=>∃p C,e=.returned (.tuple #[.slice p (iN s).1.length C,.int .i64 (iN s).2])/\aS w' w.heap.size 203 2 (.slice p (iN s).1.length C) (iN s).1.length (tc (iN s).1)/\Still w w'):=by
 apply amm;have hl0:Row (w.alloc (.cells #[(.slice none 0 0)] 126)) w.heap.size 126 ⟨[.slice none 0 0]⟩:=Row.new _ _ _;have s1:(w.alloc (.cells #[(.slice none 0 0)] 126)).heap.size=w.heap.size+1:=World.size_alloc ..;have wG:Row ((w.alloc (.cells #[(.slice none 0 0)] 126)).alloc (.cells #[(.int .i64 0)] 28)) (w.heap.size+1) 28 ⟨[.int .i64 0]⟩:=by have:=Row.new (w.alloc (.cells #[(.slice none 0 0)] 126)) 28 ⟨[.int .i64 0]⟩;rwa[s1]at this
 have s2:((w.alloc (.cells #[(.slice none 0 0)] 126)).alloc (.cells #[(.int .i64 0)] 28)).heap.size=w.heap.size+2:=by rw[World.size_alloc,s1]
 have hl1:=hl0.alloc (.cells #[(.int .i64 0)] 28);have hst:Still w ((w.alloc (.cells #[(.slice none 0 0)] 126)).alloc (.cells #[(.int .i64 0)] 28)):=((Mod.refl _ _).alloc _).alloc _;have hne:w.heap.size≠w.heap.size+1:=by omega
 unfold Q5;rw[s1,s2];generalize(w.alloc (.cells #[(.slice none 0 0)] 126)).alloc (.cells #[(.int .i64 0)] 28)=w0 at wG s2 hl1 hst⊢;refine ax (λnD=>?_) (λnD=>?_)
 .have nD:=aQ nD
  have hres:iN s=([],2):=by unfold iN;rw[aN (by omega)]
  rw[hres];have tP:=wG.far (p:=⟨w.heap.size,0,none⟩) hne.symm (.slice none 0 0);have aH5:=(hl1.aHE 0 (.slice none 0 0)).far (p:=⟨w.heap.size+1,0,none⟩) hne (.int .i64 2);refine⟨hl1.wr 0 (by simp),tP.wr 0 (by simp),_,_,_,aH5.dh rfl,_,(tP.aHE 0 (.int .i64 2)).dh rfl,none,0,rfl,aS.nil _ _ _ _,?_⟩;exact(hst.setCell (.inr (aR _)) _).setCell (.inr (aKn _)) _
 have nD:¬20000<s.length:=by have:=aZ nD;omega
 have aAC:Scan (w0.alloc (.cells #[(.string (S s))] 200)) (w.heap.size+2) s:=by have:=Row.new w0 200 ⟨[.string (S s)]⟩;rwa[s2]at this
 refine⟨λw1=>∃s1 acc,TS w w1 s s1 acc,aJb (w.heap.size+2),⟨s,[],aAC,⟨none,0,hl1.alloc _,aS.nil _ _ _ _⟩,wG.alloc _,hst.alloc _,by rw[World.size_alloc,s2];exact aR _,by simp,by simp⟩,?_⟩;rintro _ w1 ⟨s1,acc,h⟩;have ri:=h.still;have agI:=h.cB;have hown:=h.li;obtain⟨p,C,sO,ho⟩:=hown;refine⟨s1,h.sc.cell,ax (λCo=>?_) (λCo=>?_)⟩
 .have Co:s1≠[]:=by simpa using Co
  obtain⟨a,r,rfl⟩:=aJl Co;simp only[a_]at agI;have hall:=h.all;rw[Li]at hall;have aze:aJb (w.heap.size+2) w1=r.length+1:=by rw[h.sc.len];rfl
  rw[aze]
  -- nothing is told here
  have quiet:∀(t:ag) (w3:World),t.length<=r.length->kz a r=some ([],t)->cU (w.heap.size+2) w1 w3->Scan w3 (w.heap.size+2) t->(∃s1 acc,TS w w3 s s1 acc)/\aJb (w.heap.size+2) w3<r.length+1:=by intro t w3 ht hone hm hsc;refine⟨⟨t,acc,hsc,⟨p,C,sO.mod hm (by omega),ho.mod hm (λk hk=>by have:=(ho.lt k hk).1;omega)⟩,h.er.mod hm (by omega),Mod.trans ri hm (λ_ h=>h) (λi hi h=>by omega),kf h.size hm.size,?_,by omega⟩,by rw[hsc.len];omega⟩;rw[hone]at hall;simpa using hall
  -- a token is told here
  have told:∀(k:Nat) (x t:ag),kz a r=some ([(k,x)],t)->(toks t).map ((acc++[(k,x)])++·)=toks s:=by
   intro k x t hone;rw[hone]at hall;have h2:(toks t).map ((acc++[(k,x)])++·)=Option.map (λy=>acc++y) (Option.map (λy=>[(k,x)]++y) (toks t)):=by cases toks t<;>simp
   rw[h2];exact hall
  refine⟨_,h.sc.cell,by decide,a,rfl,λx w2=>x=decide (a=32\/a=9)/\w2=w1,ax (λCY=>⟨?_,rfl⟩) (λCY=>⟨?_,rfl⟩),?_⟩
  .have CY:a=32:=ey.1 (aQ CY)
   rw[jc (.inl CY)]
  .have CY:¬a=32:=λe=>aZ CY (ey.2 e)
   apply aIU.2;exact⟨λh=>.inr (ey.1 h),λh=>h.elim (λh=>absurd h CY) (λh=>ey.2 h)⟩
  rintro _ _ w2 ⟨rfl,rfl⟩;refine ax (λmQ=>?_) (λmQ=>ax (λl5=>?_) (λl5=>ax (λh10=>?_) (λh10=>?_)))
  .have mQ:=aQ mQ
   refine(xy h.sc 1).mono λe w3 ht=>?_;rw[aN (by simp)]at ht;obtain⟨dx,rfl,h3⟩:=ht;exact .inl ⟨rfl,quiet r w3 (aR _) (by unfold kz;rw[aN mQ]) dx h3⟩
  .have mQ:=aZ mQ
   have l5:a=35:=ey.1 (aQ l5);refine(anF h.sc).mono ?_;rintro _ w3 ⟨dx,rfl,h3⟩;have hle:aHX (a::r)=aHX r:=by rw[l5];rfl
   rw[hle]at h3;exact .inl ⟨rfl,quiet (aHX r) w3 (aKS r) (by unfold kz;rw[aH mQ,aN l5]) dx h3⟩
  .have mQ:=aZ mQ
   have l5:¬a=35:=λe=>aZ l5 (ey.2 e);have h10:a=10:=ey.1 (aQ h10);refine(xy h.sc 1).mono λe w3 ht=>?_;rw[aN (by simp)]at ht;obtain⟨dx,rfl,h3⟩:=ht;have sM:=sO.mod dx (by omega);have oX:=ho.mod dx (λk hk=>by have:=(ho.lt k hk).1;omega);refine .inl ⟨rfl,_,_,_,sM.dh rfl,tc acc,[.int .i64 2,.string (S [10])],(oX.alloc _).aJO,rfl,TH,S3 _ _ _ _,by omega,by omega,λp3 C3 w4 qA IF hb4=>?_⟩;obtain⟨hwr,hts⟩:=h.qd (k:=2) (x:=[10]) (t:=r) dx h3 oX sM qA IF hb4 (told 2 [10] r (by unfold kz;rw[aH mQ,aH l5,aN h10])) (by omega);refine⟨hwr,⟨_,_,hts⟩,?_⟩;rw[hts.sc.len];omega
  .have mQ:=aZ mQ
   have l5:¬a=35:=λe=>aZ l5 (ey.2 e);have h10:¬a=10:=λe=>aZ h10 (ey.2 e);refine(ZD h.sc).mono ?_;rintro _ w3 ⟨rfl,rfl⟩;refine .inl ⟨_,rfl,ax (λhend=>?_) (λhend=>?_)⟩
   .have hend:tB a=true:=hend
    refine⟨λwq=>Row wq w.heap.size 126 ⟨[.slice p acc.length C]⟩,sO.drew,_,_,_,λwq hq=>hq.dh rfl,(arf h.sc.drew (Yo _ _)).mono ?_⟩;rintro _ w4 ⟨lY,rfl,h4⟩;have yL:cU (w.heap.size+2) w3 w4:=Mod.trans (Mod.refl (λi=>i=w.heap.size+2) w3).drew lY (λ_ h=>h) (λ_ _ h=>h);have A9:=sO.mod yL (by omega);have qA:=ho.mod yL (λk hk=>by have:=(ho.lt k hk).1;omega);have hol:=Lt (a:=a) (r:=r);refine .inl ⟨_,rfl,A9,A9.alloc _,tc acc,[.int .i64 1,.string (S ((a::r).take (gP (a::r))))],(qA.alloc _).aJO,rfl,TH,S3 _ _ _ _,by omega,by omega,λp3 C3 w5 rE WJ zg=>?_⟩;have hdl:((a::r).drop (gP (a::r))).length+gP (a::r)=r.length+1:=by rw[j_];simp only[a_]at hol⊢;omega
    obtain⟨hwr,hts⟩:=h.qd (k:=1) (x:=(a::r).take (gP (a::r))) (t:=(a::r).drop (gP (a::r))) yL h4 qA A9 rE WJ zg (told 1 _ _ (by unfold kz;rw[aH mQ,aH l5,aH h10,aN hend])) (by omega);refine⟨hwr,⟨_,_,hts⟩,?_⟩;rw[hts.sc.len];omega
   .have hend:tB a=false:=hend
    refine⟨λwq=>Row wq w.heap.size 126 ⟨[.slice p acc.length C]⟩,sO.drew,_,_,_,λwq hq=>hq.dh rfl,(ao1 h.sc.drew (by simp only[a_];omega)).mono ?_⟩;rintro e w4 ⟨lY,hw⟩;have yL:cU (w.heap.size+2) w3 w4:=Mod.trans (Mod.refl (λi=>i=w.heap.size+2) w3).drew lY (λ_ h=>h) (λ_ _ h=>h);have A9:=sO.mod yL (by omega);have qA:=ho.mod yL (λk hk=>by have:=(ho.lt k hk).1;omega);have he4:=h.er.mod yL (by omega);have aHS:Still w w4:=Mod.trans ri yL (λ_ h=>h) (λi hi h=>by omega);have hone:kz a r=match nY (a::r)with
     |some t=>some ([(0,(a::r).take ((a::r).length-t.length))],t)
     |none=>none:=by
     unfold kz;rw[aH mQ,aH l5,aH h10,aH (by rw[hend];decide)]
    cases hwd:nY (a::r)with
    |none=>
     rw[hwd]at hw hone;obtain⟨rfl,_⟩:=hw;rw[hone]at hall;have hno:toks s=none:=by rw[<-hall];rfl
     have hres:iN s=([],80):=by unfold iN;rw[aH nD,hno]
     rw[hres];refine .inr ⟨_,rfl,azd (R:=λe w'=>∃p C,e=.returned (.tuple #[.slice p (([],80):List Tok×Int).1.length C,.int .i64 (([],80):List Tok×Int).2])/\aS w' w.heap.size 203 2 (.slice p (([],80):List Tok×Int).1.length C) (([],80):List Tok×Int).1.length (tc (([],80):List Tok×Int).1)/\Still w w') nD hno aHS A9 he4 λw' h'=>⟨none,0,rfl,aS.nil _ _ _ _,h'⟩⟩
    |some t=>rw[hwd]at hw hone;obtain⟨rfl,h4,_⟩:=hw;have htl:=RD (s:=a::r) (by simpa[mP]using hend) hwd;simp only[a_]at htl;refine .inl ⟨_,rfl,A9,A9.alloc _,tc acc,[.int .i64 0,.string (S ((a::r).take ((a::r).length-t.length)))],(qA.alloc _).aJO,rfl,TH,S3 _ _ _ _,by omega,by omega,λp3 C3 w5 rE WJ zg=>?_⟩;obtain⟨hwr,hts⟩:=h.qd (k:=0) (x:=(a::r).take ((a::r).length-t.length)) (t:=t) yL h4 qA A9 rE WJ zg (told 0 _ _ hone) (by omega);refine⟨hwr,⟨_,_,hts⟩,?_⟩;rw[hts.sc.len];omega
 .have Co:s1=[]:=by simpa using Co
  subst Co;have hall:toks s=some acc:=by rw[<-h.all];simp[ac4]
  have hres:iN s=(acc,0):=by unfold iN;rw[aH nD,hall]
  rw[hres];have aH5:=sO.aHE 0 (.slice p acc.length C);have tP:=h.er.far (p:=⟨w.heap.size,0,none⟩) hne.symm (.slice p acc.length C);have hown:∀k,(Value.slice p acc.length C).ownBlock=some k->w.heap.size+3<=k:=λk hk=>(ho.lt k hk).1;refine⟨p,acc.length,C,sO.dh rfl,sO.wr 0 (by simp),tP.wr 0 (by simp),(apy _ _ _).mono ?_⟩;rintro _ u w4 ⟨rfl,rfl,rfl⟩;have sM:=aH5.far (p:=⟨w.heap.size+1,0,none⟩) hne (.int .i64 0);refine⟨⟨_,rfl⟩,rfl,p,acc.length,C,sM.dh rfl,0,(tP.aHE 0 (.int .i64 0)).dh rfl,p,C,rfl,?_,(ri.setCell (.inr (aR _)) _).setCell (.inr (aKn _)) _⟩;have o1:=ho.far (p:=⟨w.heap.size,0,none⟩) (λe=>by have:=hown _ e;dsimp only at this;omega) (.slice p acc.length C);have o2:=o1.far (p:=⟨w.heap.size+1,0,none⟩) (λe=>by have:=hown _ e;dsimp only at this;omega) (.int .i64 0);exact o2.base (λk hk=>by have:=hown k hk;omega)
def aHg.fields{F:Nat->Prop}{l:List Pt}{p:Option Addr}{n c:Nat}(h:aHg w F l (.slice p n c)){i:Nat}(hi:i<l.length):∃b wp wc,p=some b/\w.cell? (b.add (i*6))=some (.int .i64 l[i].k)/\w.cell? ((b.add (i*6)).add 1)=some (.bool l[i].q)/\w.cell? ((b.add (i*6)).add 2)=some (.string (S l[i].t))/\w.cell? ((b.add (i*6)).add 3)=some (.string (S l[i].n))/\w.cell? ((b.add (i*6)).add 4)=some (.string (S l[i].o))/\
  w.cell? ((b.add (i*6)).add 5)=some (.slice wp l[i].w.length wc)/\aHg w F l[i].w (.slice wp l[i].w.length wc):=by
 obtain⟨b,v,rfl,_,hc,hs⟩:=h.get (iy hi);obtain⟨wp,wc,rfl⟩:=hs.form;have a0:(b.add (i*6)).add 0=b.add (i*6):=by unfold Addr.add;simp
 refine⟨b,wp,wc,rfl,?_,hc 1 _ rfl,hc 2 _ rfl,hc 3 _ rfl,hc 4 _ rfl,hc 5 _ rfl,hs⟩;have:=hc 0 _ rfl;rwa[a0]at this
def take_one{α:Type}{l:List α}{k:Nat}(h:k<l.length):l.take (k+1)=l.take k++[l[k]]:=by rw[FH,iy h];rfl
def ad2{l:List Pt}{k:Nat}(h:k<l.length):aHf (l.take k)+l[k].wt<=aHf l:=by
 have e:l=l.take k++(l[k]::l.drop (k+1)):=by rw[<-qM h,aIh]
 have h2:=Gk (l.take k) (l[k]::l.drop (k+1));rw[<-e]at h2;simp only[aHf]at h2;omega
def agK{x:Pt}{wp:Option Addr}{n wc:Nat}:∀v∈[Value.int .i64 x.k,.bool x.q,.string (S x.t),.string (S x.n),.string (S x.o),.slice wp n wc],v.oneCell'=true:=by simp[Value.oneCell']
def iR.nu{B:Nat}{l:List Pt}{v:Value}(h:iR w B l v){k:Nat}(hk:v.ownBlock=some k):B<=k/\k<w.heap.size:=by obtain⟨p,c,xs,rfl,ho,_⟩:=h;exact ho.lt k hk
abbrev rj(k:Nat):List PanicEntry:=[{v:=.iface 28 (.int .i64 (k:Int)),recovered:=false}]
def Pz(w:World)(g:Nat)(s:Ts):Prop:=∃a c,Row w g 131 ⟨[.slice a s.length c]⟩/\V7.At w (λk=>k<g) s (.slice a s.length c)
def Pz.lt{g:Nat}{s:Ts}(h:Pz w g s):g<w.heap.size:=by obtain⟨a,c,h,_⟩:=h;exact h.lt
def Pz.mod{S:Nat->Prop}{g:Nat}{s:Ts}{w':World}(h:Pz w g s)(hm:Mod S w w')(hS:∀k,k<=g->¬S k):Pz w' g s:=by obtain⟨a,c,h1,h2⟩:=h;exact⟨a,c,h1.mod hm (hS g (aR _)),h2.mod hm λk hk=>hS k (Kr hk)⟩
def Pz.still{g:Nat}{s:Ts}{w':World}(h:Pz w g s)(hm:Still w w'):Pz w' g s:=h.mod hm λ_ _ h=>h
def qb.zero{b:Addr}{x:Value}{xs:List Value}(h:qb w b (x::xs)):w.cell? b=some x:=by
 have a0:b.add 0=b:=by unfold Addr.add;simp
 have:=h 0 x rfl;rwa[a0]at this
def _root_.Go.Proofs.YtihaaoehhgmphaaGreatDoor.Still.only{g:Nat}{a b:World}(h:Still a b):cU g a b:=h.weaken λ_ h=>h.elim
def aa2(ok:Bool):an rQ #[.bool ok] w (λe w'=>e=(if ok=true then .returned (.tuple #[])else .panicked (rj 100))/\w'=w):=by
 apply amH;cases ok with
 |true=>exact⟨rfl,rfl⟩
 |false=>exact⟨rfl,rfl⟩
def yo{ok:Bool}{K:World->Prop}{R:Ending->World->Prop}(h1:ok=true->K w)(h2:ok=false->R (.panicked (rj 100)) w):an rQ #[.bool ok] w (λe w'=>(e=.returned (.tuple #[])/\K w')\/(∃c,e=.panicked c/\R (.panicked c) w')):=by
 refine(aa2 ok).mono ?_;rintro _ w1 ⟨rfl,rfl⟩;cases ok with
 |true=>exact .inl ⟨rfl,h1 rfl⟩
 |false=>exact .inr ⟨_,rfl,h2 rfl⟩
def K7(k:Nat):an aKC #[.int .i64 (k:Int)] w (λe w'=>e=(if k=0 then .returned (.tuple #[])else .panicked (rj k))/\w'=w):=by
 apply amQ;refine ax (λh=>?_) (λh=>?_)
 .have h:¬(k:Int)=0:=nt h
  rw[aH (by omega)];exact⟨rfl,rfl⟩
 .have h:(k:Int)=0:=nf h
  rw[aN (by omega)];exact⟨rfl,rfl⟩
def aI_{g:Nat}{s:Ts}(h:Pz w g s)(k:Nat):an qN #[.pointer (some ⟨g,0,none⟩),.int .i64 (k:Int)] w (λe w'=>e=.returned (.agg #[.int .i64 ((((s[k]?).getD (2,[])).1:Nat):Int),.string (S ((s[k]?).getD (2,[])).2)])/\Still w w'):=by
 apply akF;obtain⟨a,c,hr,ht⟩:=h;refine aO λw1 r1 s1 z1=>⟨a,s.length,c,(hr.still s1).ai rfl,ax (λhx=>?_) (λhx=>?_)⟩
 .have hx:s.length<=k:=by have:=aQ hx;omega
  rw[ud hx];exact bF r1 λw2 r2 m2 z2=>⟨_,_,r2.ai rfl,r2.ai rfl,rfl,s1.box (aR _) m2⟩
 .have hx:k<s.length:=by have:=aZ hx;omega
  obtain⟨b,cs,rfl,_,he,hc⟩:=(ht.still s1).get (iy hx);obtain rfl:cs=[.int .i64 (s[k].1:Int),.string (S s[k].2)]:=he;rw[iy hx,bW];exact⟨some b,s.length,c,(hr.still s1).ai rfl,by omega,by omega,_,_,hc.zero,hc 1 _ rfl,bF r1 λw2 r2 m2 z2=>⟨_,_,r2.ai rfl,r2.ai rfl,rfl,s1.box (aR _) m2⟩⟩
def DL{g:Nat}{x:Nat×ag}{r:Ts}(h:Pz w g (x::r)):an aJ0 #[.pointer (some ⟨g,0,none⟩)] w (λe w'=>e=.returned (.agg #[.int .i64 (x.1:Int),.string (S x.2)])/\cU g w w'/\Pz w' g r):=by
 apply akE;have hg:=h.lt;obtain⟨a,c,hr,ht⟩:=h;obtain⟨a,rfl⟩:=ht.ptr;have hlen:=ht.len.2;refine aO λw1 r1 s1 z1=>⟨_,_,_,(hr.still s1).ai rfl,by decide,by simp only[a_];omega,?_⟩;obtain⟨b,cs,hb,_,he,hc⟩:=(ht.still s1).get (i:=0) rfl;obtain rfl:=bO hb;obtain rfl:cs=[.int .i64 (x.1:Int),.string (S x.2)]:=he;refine⟨_,_,hc.zero,hc 1 _ rfl,aO λw2 r2 s2 z2=>bF r2 λw3 r3 m3 z3=>?_⟩;have hr3:=((hr.still s1).still s2).mod m3 (by intro e;omega);have ER:=(r1.still s2).mod m3 (by intro e;omega);have I2:=((ht.still s1).still s2).mod m3 (by intro k hk e;omega);refine⟨_,_,_,hr3.ai rfl,by decide,by simp only[a_];omega,?_⟩;refine bF hr3 λw4 r4 m4 z4=>⟨_,_,(r3.mod m4 (by intro e;omega)).ai rfl,(r3.mod m4 (by intro e;omega)).ai rfl,?_⟩;refine bF (ER.mod m4 (by intro e;omega)) λw5 r5 m5 z5=>⟨_,_,r5.ai rfl,r5.ai rfl,rfl,?_,?_⟩
 .have o3:cU g w w3:=((s1.trans s2).box (g:=w1.heap.size) (by omega) m3).only
  exact Mod.trans (Mod.trans o3 m4 (λ_ h=>h) (λ_ _ h=>h)) m5 (λ_ h=>h) (λi hi e=>by omega)
 .have ht5:=(I2.mod m4 (by intro k hk e;omega)).mod m5 (by intro k hk e;omega)
  have Oa:=r4.mod m5 (by intro e;omega);have Ob:=ht5.tail
  by_cases hc1:c=1
  .have aIB:r=[]:=by
    simp only[a_]at hlen;exact mC (by omega)
   subst aIB;have e:(if c=Int.toNat 1 then some a else Option.map (λx:Addr=>x.add (Int.toNat 1*2)) (some a))=some a:=aN (by rw[hc1];rfl);refine⟨some a,c-Int.toNat 1,?_,aHd.At.nil _ _ _ _ _⟩;rw[e]at Oa;exact Oa
  .have e:(if c=Int.toNat 1 then some a else Option.map (λx:Addr=>x.add (Int.toNat 1*2)) (some a))=some (a.add 2):=aH (λh=>hc1 h)
   refine⟨some (a.add 2),c-1,?_,?_⟩
   .rw[e]at Oa
    exact Oa
   .exact Ob
def Dy{p:Option Addr}{n C:Nat}{l:List ag}(h:cZ w p n l)(hn:n<1000)(x:ag):an zw #[.slice p n C,.string (S x)] w (λe w'=>e=.returned (.bool (l.contains x))/\Still w w'):=by
 apply Xp;have hlen:=h.1;have key:an Jq #[.slice p n C,.string (S x)] w (λe w'=>(∃z:Int,e=.returned (.int .i64 z)/\(0<=z↔x∈l))/\Still w w'):=by
  apply Xt;refine⟨λi w1=>∃k:Nat,i=(k:Int)/\k<=n/\x∉l.take k/\w1=w,λi _=>n-i.toNat,⟨0,rfl,dU _,by simp,rfl⟩,?_⟩;rintro _ _ w1 ⟨k,rfl,hk,hno,rfl⟩;refine ax (λhx=>?_) (λhx=>?_)
  .have hx:k<n:=by have:=aQ hx;omega
   have hkl:k<l.length:=by omega
   obtain⟨b,rfl,cb⟩:=h.get hx;refine⟨by omega,by omega,l[k],by rw[bW,aHA];exact cb,ax (λhe=>?_) (λhe=>?_)⟩
   .have he:x=l[k]:=aQ he
    exact⟨⟨_,rfl,⟨λ_=>by rw[he];exact kL hkl,λ_=>by omega⟩⟩,Still.refl _⟩
   .have he:¬x=l[k]:=aZ he
    have e1:i64.wrap ((k:Int)+1)=((k+1:Nat):Int):=wI;rw[e1];refine⟨⟨k+1,rfl,hx,?_,rfl⟩,by dsimp only;omega⟩;rw[take_one hkl];simp only[mE,jb,not_or];exact⟨hno,he⟩
  .have hx:k=n:=by have:=aZ hx;omega
   rw[hx,<-hlen,aH0]at hno;exact⟨⟨-1,rfl,⟨λh=>absurd h (by decide),λh=>absurd h hno⟩⟩,Still.refl _⟩
 refine key.mono ?_;rintro _ w1 ⟨⟨z,rfl,hz⟩,s1⟩;refine .inl ⟨_,rfl,?_,s1⟩;have:decide (0<=z)=l.contains x:=by rw[aIV,FD,List.contains_iff_mem];exact hz
 rw[this]
def wO(k:Nat)(l:List ag)(s:Ts):Bool:=decide (((s[0]?).getD (2,[])).1=k)&&l.contains ((s[0]?).getD (2,[])).2
def vV{g:Nat}{s:Ts}(h:Pz w g s)(k:Nat){q:Option Addr}{n c:Nat}{l:List ag}(hq:cZ w q n l)(hn:n<1000):an sY #[.pointer (some ⟨g,0,none⟩),.int .i64 (k:Int),.slice q n c] w (λe w'=>e=.returned (.bool (wO k l s))/\Still w w'):=by
 apply alf;have h1:=aI_ h 0;refine h1.mono ?_;rintro _ w1 ⟨rfl,s1⟩;unfold wO;generalize(s[0]?).getD (2,[])=x;refine .inl ⟨_,_,rfl,aO λw2 r2 s2 z2=>bF r2 λw3 r3 m3 z3=>?_⟩;have s3:Still w w3:=(s1.trans s2).box s1.size m3;refine⟨_,r3.ai rfl,ax (λhk=>?_) (λhk=>?_)⟩
 .have hk:x.1=k:=by have:=aQ hk;omega
  refine⟨_,r3.ai rfl,(Dy (hq.still s3) hn x.2).mono ?_⟩;rintro _ w4 ⟨rfl,s4⟩;refine .inl ⟨_,rfl,?_,s3.trans s4⟩;rw[jc hk,Br]
 .have hk:¬x.1=k:=by have:=aZ hk;omega
  rw[fY hk,Kg];exact⟨rfl,s3⟩
def Ab{k:Nat}{t:ag}(ht:t≠[])(s:Ts):wO k [t] s=cV k t s:=by
 unfold wO cV;cases s with
 |nil=>
  have:([t]:List ag).contains []=false:=by simp only[Dh,FI,Du,aLh];exact λe=>ht e.symm
  simp only[List.getElem?_nil,Option.getD_none,this,Kh,List.head?_nil];exact(fY (by simp)).symm
 |cons x r=>simp only[O7,Qu,Dh,FI,Du];rw[aIV,e_,FD,FD,DA];exact⟨λh=>fT some (Prod.ext h.1 h.2),λh=>by rw[bO h];exact⟨rfl,rfl⟩⟩
def S4{k:Nat}{t:ag}{l:List ag}(ht:t≠[])(s:Ts):wO k (t::l) s=(cV k t s||wO k l s):=by rw[<-Ab ht];unfold wO;simp only[Dh,FI,Du];cases decide (((s[0]?).getD (2,[])).1=k)<;>rfl
def qX{g:Nat}{s:Ts}(h:Pz w g s)(k:Nat){t:ag}(ht:t≠[]):an vE #[.pointer (some ⟨g,0,none⟩),.int .i64 (k:Int),.string (S t)] w (λe w'=>e=.returned (.bool (cV k t s))/\cU g w w'/\Pz w' g (if cV k t s=true then s.tail else s)):=by
 apply akA;refine aO λw1 r1 s1 z1=>(vV (h.still s1) k (cZ.row (l:=[t]) r1) (show 1<1000 by decide)).mono ?_;rintro _ w2 ⟨rfl,s2⟩;rw[Ab ht];have h2:=(h.still s1).still s2;refine .inl ⟨_,rfl,ax (λhx=>?_) (λhx=>?_)⟩
 .rw[DP hx]at h2
  rw[hx,aN rfl];refine(DL h2).mono ?_;rintro _ w3 ⟨rfl,o3,h3⟩;exact .inl ⟨_,_,rfl,rfl,Mod.trans (s1.trans s2) o3 (λ_ h=>h.elim) (λ_ _ h=>h),h3⟩
 .rw[hx,aH (by decide)]
  exact⟨rfl,(s1.trans s2).only,h2⟩
def B_(g:Nat)(w:World):Nat:=match w.cell? ⟨g,0,none⟩with
 |some (.slice _ n _)=>n
 |_=>0
def Pz.len{g:Nat}{s:Ts}(h:Pz w g s):B_ g w=s.length:=by obtain⟨a,c,hr,_⟩:=h;unfold B_;rw[hr.ai rfl]
def aKc{g:Nat}{s:Ts}(h:Pz w g s):an aJX #[.pointer (some ⟨g,0,none⟩)] w (λe w'=>e=.returned (.tuple #[])/\cU g w w'/\Pz w' g (fG s)):=by
 apply aj8;refine⟨λw1=>∃s1,Pz w1 g s1/\fG s1=fG s/\cU g w w1,B_ g,⟨s,h,rfl,Mod.refl _ _⟩,?_⟩;rintro _ w1 ⟨s1,h1,e1,o1⟩;refine(qX h1 2 (t:=[10]) (by decide)).mono ?_;rintro _ w2 ⟨rfl,o2,h2⟩;refine .inl ⟨_,rfl,ax (λhx=>?_) (λhx=>?_)⟩
 .rw[hx,aN rfl]at h2
  have hl:=GV hx;refine⟨⟨_,h2,?_,Mod.trans o1 o2 (λ_ h=>h) (λ_ _ h=>h)⟩,by rw[h2.len,h1.len];omega⟩;rw[<-e1,DP hx];simp only[fG,List.tail_cons];rw[aN (show((2,[10]):Nat×ag)=Ec from rfl)]
 .rw[hx,aH (by decide)]at h2
  refine⟨rfl,Mod.trans o1 o2 (λ_ h=>h) (λ_ _ h=>h),?_⟩;have:fG s1=s1:=by
   cases s1 with
   |nil=>rfl
   |cons x r=>simp only[fG];rw[aH];intro e;rw[e]at hx;exact absurd hx (by unfold cV;simp[Ec])
  rw[<-e1,this];exact h2
def ZF:an J8 #[] w (λe w'=>∃q,e=.returned (.slice q 8 8)/\cZ w' q 8 yj/\Still w w'):=by apply alO;exact aO λw1 r1 s1 z1=>⟨_,rfl,cZ.row (l:=yj) r1,s1⟩
def Sr{g:Nat}{s:Ts}(h:Pz w g s):an PN #[.pointer (some ⟨g,0,none⟩)] w (λe w'=>e=.returned (.bool (Aq s))/\Still w w'):=by
 apply akz;obtain⟨a,c,hr,_⟩:=id h;refine⟨_,_,_,hr.ai rfl,ax (λhx=>?_) (λhx=>?_)⟩
 .have:s=[]:=mC (by have:=aQ hx;omega)
  subst this;exact⟨rfl,Still.refl _⟩
 have hx:s≠[]:=by rintro rfl;exact aZ hx rfl
 obtain⟨x,r,rfl⟩:=aJl hx;refine aO λw1 r1 s1 z1=>(vV (h.still s1) 1 (cZ.row (l:=[Hz,Hl]) r1) (by decide)).mono ?_;rintro _ w2 ⟨rfl,s2⟩;have e1:wO 1 [Hz,Hl] (x::r)=(decide (x.1=1)&&(decide (x.2=Hz)||decide (x.2=Hl))):=by
  unfold wO;simp only[O7,Qu,Dh,FI,Du];have hb:∀a b:ag,(a==b)=decide (a=b):=λa b=>by rw[aIV,DA,FD]
  rw[hb,hb]
 have e2:Aq (x::r)=((decide (x.1=1)&&(decide (x.2=Hz)||decide (x.2=Hl)))||(decide (x.1=0)&&yj.contains x.2)):=rfl;rw[e2,<-e1];refine .inl ⟨_,rfl,ax (λhb=>?_) (λhb=>?_)⟩
 .rw[hb]
  exact⟨rfl,s1.trans s2⟩
 .rw[hb,aJA]
  refine ZF.mono ?_;rintro _ w3 ⟨q,rfl,hq,s3⟩;refine .inl ⟨_,_,_,rfl,(vV (((h.still s1).still s2).still s3) 0 hq (by decide)).mono ?_⟩;rintro _ w4 ⟨rfl,s4⟩;exact .inl ⟨_,rfl,rfl,((s1.trans s2).trans s3).trans s4⟩
def Zd{g:Nat}{s:Ts}(h:Pz w g s):an Ju #[.pointer (some ⟨g,0,none⟩)] w (λe w'=>e=.returned (.bool (th s))/\Still w w'):=by apply ajx;refine aO λw1 r1 s1 z1=>(vV (h.still s1) 1 (cZ.row (l:=[afv,aJn,aeO]) r1) (by decide)).mono ?_;rintro _ w2 ⟨rfl,s2⟩;refine .inl ⟨_,rfl,?_,s1.trans s2⟩;rw[S4 (by decide),S4 (by decide),Ab (by decide)];unfold th;rw[QU]
end Go.Proofs.YtihaaoehhgmphaaGreatDoor.L
namespace Go.Proofs.YtihaaoehhgmphaaGreatDoor.L
open IntKind Go.RowKit Vc
variable{w:World}{α β:Type}
def aHd.aHj(e:aHd α)(w:World)(B:Nat)(t:TypeId)(X:Nat->Prop)(gn:Nat)(l:List α)(v:Value):Prop:=∃p c xs,v=.slice p l.length c/\aS w B t e.sz v l.length xs/\(∀k,v.ownBlock=some k->X k/\k≠gn)/\e.Cs w (λk=>B<=k/\k<w.heap.size/\¬X k) l xs
def aHd.aHj.nil(e:aHd α)(w:World)(B:Nat)(t:TypeId)(X:Nat->Prop)(gn:Nat):e.aHj w B t X gn [] (.slice none 0 0):=⟨none,0,[],rfl,aS.nil _ _ _ _,λk hk=>(by cases hk),rfl⟩
section
variable{e:aHd α}{B gn:Nat}{t:TypeId}{X X':Nat->Prop}{l:List α}{v:Value}
def aHd.aHj.form(h:e.aHj w B t X gn l v):∃p c,v=.slice p l.length c:=by obtain⟨p,c,_,he,_⟩:=h;exact⟨p,c,he⟩
def aHd.aHj.at(h:e.aHj w B t X gn l v):e.At w (λk=>B<=k/\k<w.heap.size) l v:=by obtain⟨p,c,xs,rfl,ho,_,hc⟩:=h;obtain⟨p',c',he,hle⟩:=ho.cap;injection he with _ _ e3;subst e3;refine⟨p,c,rfl,hle,λhl=>?_⟩;have hn:0<l.length:=nj.2 hl;obtain⟨g,cap,he,hB,hg,_,hcell⟩:=ho.aKl hn;injection he with e1 e2 e3;subst e1;refine⟨_,xs,rfl,⟨hB,hg⟩,hc.dO (λk hk=>⟨hk.1,hk.2.1⟩) (λ_ _ _ h=>h),λj u hu=>?_⟩;rw[bM,cL];exact hcell j u hu
def aHd.aHj.mod{S:Nat->Prop}{w':World}(h:e.aHj w B t X gn l v)(hm:Mod S w w')(hS:∀k,B<=k->k<w.heap.size->S k->X k/\v.ownBlock≠some k)(hX:∀k,X k->X' k)(hX':∀k,X' k->X k\/w.heap.size<=k):e.aHj w' B t X' gn l v:=by
 obtain⟨p,c,xs,rfl,ho,hg,hc⟩:=h;refine⟨p,c,xs,rfl,ho.mod hm λk hk hs=>(hS k (ho.lt k hk).1 (ho.lt k hk).2 hs).2 hk,λk hk=>⟨hX k (hg k hk).1,(hg k hk).2⟩,hc.dO (λk hk=>⟨hk.1,oB hk.2.1 hm.size,λhx=>?_⟩) λa v ⟨k,hk,ea⟩ hcell=>vQ hm (by rw[ea];exact λhs=>hk.2.2 (hS k hk.1 hk.2.1 hs).1) hcell⟩;rcases hX' k hx with hx|hx
 .exact hk.2.2 hx
 .omega
def aHd.aHj.push{bytes:Nat}{p:Option Addr}{n c:Nat}{x:α}{cs:List Value}{K:Option Addr->Nat->World->Prop}{Sw:World->Prop}(ho:e.aHj w B t X gn l (.slice p n c))(hB:B<=w.heap.size)(hXs:∀k,X k->k<w.heap.size)(gY:gn<w.heap.size)
  (hS:∀w1,Still w w1->Sw w1)(hx:e.E w (λk=>B<=k/\k<w.heap.size/\¬X k) x cs)(hs:n+1<=9223372036854775807)(hb:(n+1)*bytes<=140737488355328)
  (h:∀p' c' w',e.aHj w' B t (λk=>X k\/(Value.slice p' (n+1) c').ownBlock=some k) gn (l++[x]) (.slice p' (n+1) c')->Mod (λk=>(Value.slice p n c).ownBlock=some k) w w'->(∀k,(Value.slice p' (n+1) c').ownBlock=some k->X k\/w.heap.size<=k)->(∀k,(Value.slice p' (n+1) c').ownBlock=some k->k<w'.heap.size)->K p' c' w'):
  cP (w.alloc (.cells ⟨cs⟩ t)) (λw2=>Sw w2/\eW w2 t e.sz bytes p n c (some (Addr.mk w.heap.size 0 none)) 1 K):=by
 obtain⟨p0,c0,xs,he,ho,hg,hc⟩:=ho;injection he with e1 e2 e3;subst e1 e2 e3;have hl:=e.len hx;refine aO λw1 hr hst hz=>⟨hS w1 hst,?_⟩;refine rT (ho.still hst) (by omega) cs (by omega) (e.one hx) (λ_=>⟨_,rfl,λj u hu=>?_⟩) hs hb λp' c' w' ho' hm hk=>?_
 .rw[bM,cL]
  exact hr.dh (by simpa using hu)
 have hz':=hm.size;have hown:∀k,(Value.slice p' (l.length+1) c').ownBlock=some k->(X k/\k≠gn)\/w.heap.size+1=k:=by
  intro k hk';rcases hk.own (n:=l.length)with hk|hk
  .exact .inl (hg k (hk.symm.trans hk'))
  .rw[hk']at hk
   have:=bO hk;exact .inr (by omega)
 refine h p' c' w' ⟨p',c',xs++cs,by rw[aHb];rfl,by rw[aHb];exact ho',λk hk'=>⟨.inr hk',?_⟩,?_⟩ (Mod.trans hst hm (λ_ h=>h.elim) (λ_ _ h=>h)) (λk hk'=>?_) λk hk'=>(ho'.lt k hk').2
 .rcases hown k hk' with h|h
  .exact h.2
  .omega
 .refine(hc.append (aHd.Cs.single hx)).dO (λk hk=>⟨hk.1,by omega,λhx=>?_⟩) λa v ⟨k,hk,ea⟩ hcell=>vQ hm (by rw[ea];exact λh=>hk.2.2 (hg k h).1) (hst.cell hcell)
  rcases hx with hx|hx
  .exact hk.2.2 hx
  .rcases hown k hx with h|h
   .exact hk.2.2 h.1
   .omega
 .rcases hown k hk' with h|h
  .exact .inl h.1
  .exact .inr (by omega)
def aHd.aHj.row{g:Nat}{xs:List Value}(hr:Row w g t ⟨xs⟩)(hB:B<=g)(hg:g≠gn)(hX:X g)(hm:l.length<=1000000)(hc:e.Cs w (λk=>B<=k/\k<w.heap.size/\¬X k) l xs):e.aHj w B t X gn l (.slice (some ⟨g,0,none⟩) l.length l.length):=by
 have hl:=hc.len;refine⟨_,_,xs,rfl,⟨hl,.inr ⟨g,l.length,⟨xs⟩,rfl,hB,hr,aR _,kf hm (by decide),hl,?_⟩⟩,λk hk=>?_,hc⟩
 .rw[<-hl]
  exact aH0
 .obtain rfl:=bO hk
  exact⟨hX,hg⟩
end
def aHd.aHj.apart{e:aHd α}{f:aHd β}{B gn:Nat}{t u:TypeId}{X:Nat->Prop}{l:List α}{m:List β}{v v':Value}(h:e.aHj w B t X gn l v)(h':f.aHj w B u X gn m v')(hne:t≠u){k:Nat}(hk:v.ownBlock=some k):v'.ownBlock≠some k:=by obtain⟨_,_,_,_,ho,_⟩:=h;obtain⟨_,_,_,_,ho',_⟩:=h';exact ho.apart ho' hne hk
structure NB(w0 w:World)(g gn B:Nat)(X:Nat->Prop)(x:Nd)(vw va vr vo vk:Value):Prop where
 row:Row w gn 66 ⟨jg x vw va vr vo vk⟩
 only:cU g w0 w
 hg:g<w0.heap.size
 hB:w0.heap.size<=B
 gY:B<=gn
 xs:∀k,X k->k<w.heap.size/\B<=k
 xg:X gn
 ow:wE.aHj w B 49 X gn x.ws vw
 oa:aIb.aHj w B 208 X gn x.aHv va
 ord:aIb.aHj w B 138 X gn x.rs vr
 oo:EO.aHj w B 9 X gn x.os vo
 ok:vf.aHj w B 66 X gn x.ks vk
section
variable{w0 w1 w':World}{g gn B:Nat}{X:Nat->Prop}{x:Nd}{vw va vr vo vk:Value}
def NB.mod{S:Nat->Prop}(h:NB w0 w g gn B X x vw va vr vo vk)(hm:Mod S w w')(hS:∀k,S k->k=g\/w.heap.size<=k):NB w0 w' g gn B X x vw va vr vo vk:=by
 have hz:=hm.size;have key:∀k,B<=k->k<w.heap.size->S k->False:=λk h1 h2 h3=>by have:=h.hg;have:=h.hB;rcases hS k h3 with h4|h4<;>omega
 have n1:¬S gn:=λhs=>key gn h.gY (h.xs _ h.xg).1 hs;refine⟨h.row.mod hm n1,Mod.trans h.only hm (λ_ h=>h) (λi hi hs=>?_),h.hg,h.hB,h.gY,λk hk=>⟨oB (h.xs k hk).1 hz,(h.xs k hk).2⟩,h.xg,?_,?_,?_,?_,?_⟩
 .have:=h.only.size
  rcases hS _ hs with h4|h4<;>omega
 .exact h.ow.mod hm (λk h1 h2 h3=>(key k h1 h2 h3).elim) (λ_ h=>h) (λ_ h=>.inl h)
 .exact h.oa.mod hm (λk h1 h2 h3=>(key k h1 h2 h3).elim) (λ_ h=>h) (λ_ h=>.inl h)
 .exact h.ord.mod hm (λk h1 h2 h3=>(key k h1 h2 h3).elim) (λ_ h=>h) (λ_ h=>.inl h)
 .exact h.oo.mod hm (λk h1 h2 h3=>(key k h1 h2 h3).elim) (λ_ h=>h) (λ_ h=>.inl h)
 .exact h.ok.mod hm (λk h1 h2 h3=>(key k h1 h2 h3).elim) (λ_ h=>h) (λ_ h=>.inl h)
def NB.on(h:NB w0 w g gn B X x vw va vr vo vk)(hm:cU g w w'):NB w0 w' g gn B X x vw va vr vo vk:=h.mod hm λ_ h=>.inl h
def NB.still(h:NB w0 w g gn B X x vw va vr vo vk)(hm:Still w w'):NB w0 w' g gn B X x vw va vr vo vk:=h.mod hm λ_ h=>h.elim
def NB.put(h:NB w0 w g gn B X x vw va vr vo vk)(hm:Mod (λk=>k=gn) w w'){y:Nd}{uw ua ur uo uk:Value}(hr:Row w' gn 66 ⟨jg y uw ua ur uo uk⟩)(hw:wE.aHj w' B 49 X gn y.ws uw\/y.ws=x.ws/\uw=vw)(ha:y.aHv=x.aHv/\ua=va)(hrr:y.rs=x.rs/\ur=vr)(ho:EO.aHj w' B 9 X gn y.os uo\/y.os=x.os/\uo=vo)(hk:vf.aHj w' B 66 X gn y.ks uk\/y.ks=x.ks/\uk=vk):NB w0 w' g gn B X y uw ua ur uo uk:=by
 have hz:=hm.size;have own:∀{v:Value},(∀k,v.ownBlock=some k->X k/\k≠gn)->v.ownBlock≠some gn:=λhv he=>(hv gn he).2 rfl;refine⟨hr,Mod.trans h.only hm (λ_ h=>h) (λi hi e=>?_),h.hg,h.hB,h.gY,λk hk=>⟨oB (h.xs k hk).1 hz,(h.xs k hk).2⟩,h.xg,?_,?_,?_,?_,?_⟩
 .have:=h.gY
  have:=h.hB;omega
 .rcases hw with hw|hw
  .exact hw
  rw[hw.1,hw.2];obtain⟨_,_,_,_,_,hg,_⟩:=id h.ow;exact h.ow.mod hm (λk _ _ e=>by subst e;exact⟨h.xg,own hg⟩) (λ_ h=>h) (λ_ h=>.inl h)
 .rw[ha.1,ha.2]
  obtain⟨_,_,_,_,_,hg,_⟩:=id h.oa;exact h.oa.mod hm (λk _ _ e=>by subst e;exact⟨h.xg,own hg⟩) (λ_ h=>h) (λ_ h=>.inl h)
 .rw[hrr.1,hrr.2]
  obtain⟨_,_,_,_,_,hg,_⟩:=id h.ord;exact h.ord.mod hm (λk _ _ e=>by subst e;exact⟨h.xg,own hg⟩) (λ_ h=>h) (λ_ h=>.inl h)
 .rcases ho with ho|ho
  .exact ho
  rw[ho.1,ho.2];obtain⟨_,_,_,_,_,hg,_⟩:=id h.oo;exact h.oo.mod hm (λk _ _ e=>by subst e;exact⟨h.xg,own hg⟩) (λ_ h=>h) (λ_ h=>.inl h)
 .rcases hk with hk|hk
  .exact hk
  rw[hk.1,hk.2];obtain⟨_,_,_,_,_,hg,_⟩:=id h.ok;exact h.ok.mod hm (λk _ _ e=>by subst e;exact⟨h.xg,own hg⟩) (λ_ h=>h) (λ_ h=>.inl h)
def NB.grow{Y:Nat->Prop}(h:NB w0 w g gn B X x vw va vr vo vk)(hY:∀k,Y k->X k\/(k<w.heap.size/\B<=k))(hX:∀k,X k->Y k)(hc:∀k,Y k->¬X k->False):NB w0 w g gn B Y x vw va vr vo vk:=by have e:X=Y:=funext λk=>propext ⟨hX k,λhy=>Classical.byContradiction λhn=>hc k hy hn⟩;rw[<-e];exact h
def NB.nde(h:NB w0 w g gn B X x vw va vr vo vk):dR w (λk=>B<=k/\k<w.heap.size) x (jg x vw va vr vo vk):=
 dR.of h.ow.at h.oa.at h.ord.at h.oo.at h.ok.at
def NB.Oc{x:Nd}(hr:Row w gn 66 ⟨jg x (.slice none 0 0) (.slice none 0 0) (.slice none 0 0) (.slice none 0 0) (.slice none 0 0)⟩)(ho:cU g w0 w)(hg:g<w0.heap.size)(hB:w0.heap.size<=B)(gY:B<=gn)(hx:x.ws=[]/\x.aHv=[]/\x.rs=[]/\x.os=[]/\x.ks=[]):
  NB w0 w g gn B (λk=>k=gn) x (.slice none 0 0) (.slice none 0 0) (.slice none 0 0) (.slice none 0 0) (.slice none 0 0):=by
 obtain⟨h1,h2,h3,h4,h5⟩:=hx;refine⟨hr,ho,hg,hB,gY,λk hk=>by subst hk;exact⟨hr.lt,gY⟩,rfl,?_,?_,?_,?_,?_⟩
 .rw[h1];exact aHd.aHj.nil _ _ _ _ _ _
 .rw[h2];exact aHd.aHj.nil _ _ _ _ _ _
 .rw[h3];exact aHd.aHj.nil _ _ _ _ _ _
 .rw[h4];exact aHd.aHj.nil _ _ _ _ _ _
 .rw[h5];exact aHd.aHj.nil _ _ _ _ _ _
def NB.mkK{x y:Nd}{b:Nat}{cs:List Value}(hr:Row w gn 66 ⟨jg x (.slice none 0 0) (.slice none 0 0) (.slice none 0 0) (.slice none 0 0) (.slice (some ⟨b,0,none⟩) 1 1)⟩)(hb:Row w b 66 ⟨cs⟩)(hc:dR w (λk=>B<=k/\k<w.heap.size/\k≠gn/\k≠b) y cs)(ho:cU g w0 w)(hg:g<w0.heap.size)(hB:w0.heap.size<=B)(gY:B<=gn)(hbB:B<=b)(hne:b≠gn)(hx:x.ws=[]/\x.aHv=[]/\x.rs=[]/\x.os=[]/\x.ks=[y]):
  NB w0 w g gn B (λk=>k=gn\/k=b) x (.slice none 0 0) (.slice none 0 0) (.slice none 0 0) (.slice none 0 0) (.slice (some ⟨b,0,none⟩) 1 1):=by
 obtain⟨h1,h2,h3,h4,h5⟩:=hx;refine⟨hr,ho,hg,hB,gY,λk hk=>?_,.inl rfl,?_,?_,?_,?_,?_⟩
 .rcases hk with rfl|rfl
  .exact⟨hr.lt,gY⟩
  .exact⟨hb.lt,hbB⟩
 .rw[h1];exact aHd.aHj.nil _ _ _ _ _ _
 .rw[h2];exact aHd.aHj.nil _ _ _ _ _ _
 .rw[h3];exact aHd.aHj.nil _ _ _ _ _ _
 .rw[h4];exact aHd.aHj.nil _ _ _ _ _ _
 .rw[h5]
  exact aHd.aHj.row (l:=[y]) hb hbB hne (.inr rfl) (show 1<=1000000 by decide) (aHd.Cs.single (hc.mono λk hk=>⟨hk.1,hk.2.1,λh=>h.elim hk.2.2.1 hk.2.2.2⟩))
end
abbrev aHQ:List Value:=jg (.mk 0 false [] [] [] [] [] []) (.slice none 0 0) (.slice none 0 0) (.slice none 0 0) (.slice none 0 0) (.slice none 0 0)
def Ux(gn gr:Nat)(w:World)(R:Ending->World->Prop):Prop:=
 ∃bZ:Int,∃eH:Bool,∃b_:List UInt8,∃(aHq:Option Addr) (aHo eu:Nat),∃(aHm:Option Addr) (aHk aHl:Nat),∃(aHp:Option Addr) (eo aHn:Nat),∃(eL:Option Addr) (eD eE:Nat),∃(eF:Option Addr) (eA eB:Nat),w.cell? (Addr.mk gn 0 none)=some (.int .i64 bZ)/\w.cell? (Addr.mk gn 1 none)=some (.bool eH)/\w.cell? (Addr.mk gn 2 none)=some (.string (S b_))/\w.cell? (Addr.mk gn 3 none)=some (.slice aHq aHo eu)/\w.cell? (Addr.mk gn 4 none)=some (.slice aHm aHk aHl)/\w.cell? (Addr.mk gn 5 none)=some (.slice aHp eo aHn)/\w.cell? (Addr.mk gn 6 none)=some (.slice eL eD eE)/\w.cell? (Addr.mk gn 7 none)=some (.slice eF eA eB)/\cA (Addr.mk gr 0 none) (λ(w7:World)=>∃eC:Int,∃iP:Bool,∃eP:List UInt8,∃(iH:Option Addr) (iE iF:Nat),∃(iB:Option Addr) (iz iA:Nat),∃(iG:Option Addr) (iC iD:Nat),∃(iQ:Option Addr) (iK iL:Nat),∃(iM:Option Addr) (iI iJ:Nat),w7.cell? (Addr.mk gr 0 none)=some (.int .i64 eC)/\w7.cell? (Addr.mk gr 1 none)=some (.bool iP)/\w7.cell? (Addr.mk gr 2 none)=some (.string (S eP))/\w7.cell? (Addr.mk gr 3 none)=some (.slice iH iE iF)/\w7.cell? (Addr.mk gr 4 none)=some (.slice iB iz iA)/\w7.cell? (Addr.mk gr 5 none)=some (.slice iG iC iD)/\w7.cell? (Addr.mk gr 6 none)=some (.slice iQ iK iL)/\w7.cell? (Addr.mk gr 7 none)=some (.slice iM iI iJ)/\R (.returned (.agg #[(.int .i64 eC),(.bool iP),(.string (S eP)),(.slice iH iE iF),(.slice iB iz iA),(.slice iG iC iD),(.slice iQ iK iL),(.slice iM iI iJ)])) w7) 0 [(.int .i64 bZ),(.bool eH),(.string (S b_)),(.slice aHq aHo eu),(.slice aHm aHk aHl),(.slice aHp eo aHn),(.slice eL eD eE),(.slice eF eA eB)] w
def K8{w0:World}{g gn B:Nat}{X:Nat->Prop}{x:Nd}{vw va vr vo vk:Value}{R:Ending->World->Prop}(h:NB w0 w g gn B X x vw va vr vo vk)(hres:Row w w0.heap.size 66 ⟨aHQ⟩)(hB:w0.heap.size<B)
  (hR:∀w' cs,Mod (λk=>k=w0.heap.size) w w'->cU g w0 w'->dR w' (λk=>w0.heap.size<=k/\k<w'.heap.size) x cs->R (.returned (.agg ⟨cs⟩)) w'):Ux gn w0.heap.size w R:=by
 have hn:=h.nde;obtain⟨pw,cw,rfl⟩:=h.ow.form;obtain⟨pa,ca,rfl⟩:=h.oa.form;obtain⟨pr,cr,rfl⟩:=h.ord.form;obtain⟨po,co,rfl⟩:=h.oo.form;obtain⟨pk,ck,rfl⟩:=h.ok.form;have hr:=h.row;refine⟨_,_,_,_,_,_,_,_,_,_,_,_,_,_,_,_,_,_,hr.ai rfl,hr.ai rfl,hr.ai rfl,hr.ai rfl,hr.ai rfl,hr.ai rfl,hr.ai rfl,hr.ai rfl,bF hres λw' r' m' z'=>?_⟩;refine⟨_,_,_,_,_,_,_,_,_,_,_,_,_,_,_,_,_,_,r'.ai rfl,r'.ai rfl,r'.ai rfl,r'.ai rfl,r'.ai rfl,r'.ai rfl,r'.ai rfl,r'.ai rfl,hR w' _ m' (Mod.trans h.only m' (λ_ h=>h) (λi hi e=>by omega)) ?_⟩;exact(hn.mod m' λk hk e=>by omega).mono λk hk=>⟨by omega,by omega⟩
def arh{w0:World}{g:Nat}{X:Nat->Prop}{x:Nd}{vw va vr vo vk:Value}{R:Ending->World->Prop}(h:NB w0 w g w0.heap.size w0.heap.size X x vw va vr vo vk)
  (hR:∀w' cs,Mod (λk=>k=w0.heap.size) w w'->cU g w0 w'->dR w' (λk=>w0.heap.size<=k/\k<w'.heap.size) x cs->R (.returned (.agg ⟨cs⟩)) w'):Ux w0.heap.size w0.heap.size w R:=by
 have hr:=h.row;obtain⟨pw,cw,rfl⟩:=h.ow.form;obtain⟨pa,ca,rfl⟩:=h.oa.form;obtain⟨pr,cr,rfl⟩:=h.ord.form;obtain⟨po,co,rfl⟩:=h.oo.form;obtain⟨pk,ck,rfl⟩:=h.ok.form;refine⟨_,_,_,_,_,_,_,_,_,_,_,_,_,_,_,_,_,_,hr.ai rfl,hr.ai rfl,hr.ai rfl,hr.ai rfl,hr.ai rfl,hr.ai rfl,hr.ai rfl,hr.ai rfl,bF hr λw' r' m' z'=>?_⟩;have h':=h.put m' r' (.inr ⟨rfl,rfl⟩) ⟨rfl,rfl⟩ ⟨rfl,rfl⟩ (.inr ⟨rfl,rfl⟩) (.inr ⟨rfl,rfl⟩);exact⟨_,_,_,_,_,_,_,_,_,_,_,_,_,_,_,_,_,_,r'.ai rfl,r'.ai rfl,r'.ai rfl,r'.ai rfl,r'.ai rfl,r'.ai rfl,r'.ai rfl,r'.ai rfl,hR w' _ m' h'.only h'.nde⟩
end Go.Proofs.YtihaaoehhgmphaaGreatDoor.L
namespace Go.Proofs.YtihaaoehhgmphaaGreatDoor.L
open IntKind Go.RowKit Vc
variable{w:World}
abbrev Nd.Na(x:Nd)(y:List Pt):Nd:=.mk x.k x.neg x.nm (x.ws++[y]) x.aHv x.rs x.os x.ks
def NB.Na{w0 w1:World}{g gn B:Nat}{X:Nat->Prop}{x:Nd}{va vr vo vk:Value}{p:Option Addr}{n c:Nat}{y:List Pt}{cs:List Value}(h:NB w0 w1 g gn B X x (.slice p n c) va vr vo vk)(o:cU g w1 w)(hy:wE.E w (λk=>w1.heap.size<=k/\k<w.heap.size) y cs)(hn:x.ws.length<1000000){K:World->Prop}
  (hK:∀p' c' w' X',NB w0 w' g gn B X' (x.Na y) (.slice p' (n+1) c') va vr vo vk->Mod (λk=>B<=k) w w'->K w'):
  cP (w.alloc (.cells ⟨cs⟩ 49)) (λw2=>w2.cell? (Addr.mk gn 3 none)=some (.slice p n c)/\eW w2 49 1 24 p n c (some (Addr.mk w.heap.size 0 none)) 1 (λp' c' w9=>cA (Addr.mk gn 3 none) K 0 [.slice p' (n+1) c'] w9)):=by
 have h2:=h.on o;obtain⟨_,_,_,he,_,hg,_⟩:=id h2.ow;injection he with _ en _;have tN:=h2.row.lt;have hsz:=h.only.size;have WK:=o.size;have gY:=h2.gY;have hB:=h2.hB;refine aHd.aHj.push (Sw:=λwq=>wq.cell? (Addr.mk gn 3 none)=some (.slice p n c)) h2.ow (by omega) (λk hk=>(h2.xs k hk).1) tN (λwq hq=>(h2.row.still hq).ai rfl) (wE.dO (λk hk=>⟨?_,hk.2,λhx=>?_⟩) (λ_ _ _ h=>h) hy) (by omega) (by omega) λp' c' w9 mW lP vq zo=>?_
 .have:=h.row.lt
  omega
 .have:=(h.xs k hx).1
  omega
 have tU:=h2.row.mod lP (λhk=>(hg gn hk).2 rfl);refine bF tU λaP aHJ m10 aIt=>hK p' c' aP (λk=>X k\/(Value.slice p' (n+1) c').ownBlock=some k) ?_ ?_;rotate_left
 .exact Mod.trans lP m10 (λk hk=>(h2.xs k (hg k hk).1).2) (λk _ hk=>by omega)
 have A3:=lP.size;have Vk:=m10.size;have nJ:∀{β:Type} {f:aHd β} {u:TypeId} {m:List β} {v':Value},f.aHj w B u X gn m v'->(∀k,(Value.slice p n c).ownBlock=some k->v'.ownBlock≠some k)->f.aHj aP B u (λk=>X k\/(Value.slice p' (n+1) c').ownBlock=some k) gn m v':=by intro β f u m v' hf hne;obtain⟨_,_,_,_,_,qG,_⟩:=id hf;exact(hf.mod lP (λk _ _ hs=>⟨(hg k hs).1,hne k hs⟩) (λ_ h=>.inl h) (λk hk=>hk.elim .inl (λh=>vq k h))).mod m10 (λk _ _ e=>by subst e;exact⟨.inl h2.xg,λhk=>(qG _ hk).2 rfl⟩) (λ_ h=>h) (λ_ h=>.inl h)
 have yp:=mW.mod m10 (X':=λk=>X k\/(Value.slice p' (n+1) c').ownBlock=some k) (λk _ _ e=>by subst e;obtain⟨_,_,_,_,_,qG,_⟩:=id mW;exact⟨.inl h2.xg,λhk=>(qG _ hk).2 rfl⟩) (λ_ h=>h) (λ_ h=>.inl h);have yM:∀k,(Value.slice p' (n+1) c').ownBlock=some k->B<=k:=λk hk=>by
  rcases vq k hk with hk|hk
  .exact(h2.xs k hk).2
  .omega
 refine⟨aHJ,Mod.trans (Mod.trans h2.only lP (λ_ h=>h) (λi hi hk=>by have:=(h2.xs _ (hg _ hk).1).2;omega)) m10 (λ_ h=>h) (λi hi e=>by omega),h2.hg,hB,gY,λk hk=>?_,.inl h2.xg,yp,nJ h2.oa (λk hk=>h2.ow.apart h2.oa (by decide) hk),nJ h2.ord (λk hk=>h2.ow.apart h2.ord (by decide) hk),nJ h2.oo (λk hk=>h2.ow.apart h2.oo (by decide) hk),nJ h2.ok (λk hk=>h2.ow.apart h2.ok (by decide) hk)⟩;rcases hk with hk|hk
 .have:=h2.xs k hk
  exact⟨by omega,this.2⟩
 .have:=zo k hk
  exact⟨by omega,yM k hk⟩
abbrev Nd.Nb(x:Nd)(y:ag×List Pt):Nd:=.mk x.k x.neg x.nm x.ws (x.aHv++[y]) x.rs x.os x.ks
def NB.Nb{w0 w1:World}{g gn B:Nat}{X:Nat->Prop}{x:Nd}{vw vr vo vk:Value}{p:Option Addr}{n c:Nat}{y:ag×List Pt}{cs:List Value}(h:NB w0 w1 g gn B X x vw (.slice p n c) vr vo vk)(o:cU g w1 w)(hy:aIb.E w (λk=>w1.heap.size<=k/\k<w.heap.size) y cs)(hn:x.aHv.length<1000000){K:World->Prop}
  (hK:∀p' c' w' X',NB w0 w' g gn B X' (x.Nb y) vw (.slice p' (n+1) c') vr vo vk->Mod (λk=>B<=k) w w'->K w'):
  cP (w.alloc (.cells ⟨cs⟩ 208)) (λw2=>w2.cell? (Addr.mk gn 4 none)=some (.slice p n c)/\eW w2 208 2 40 p n c (some (Addr.mk w.heap.size 0 none)) 1 (λp' c' w9=>cA (Addr.mk gn 4 none) K 0 [.slice p' (n+1) c'] w9)):=by
 have h2:=h.on o;obtain⟨_,_,_,he,_,hg,_⟩:=id h2.oa;injection he with _ en _;have tN:=h2.row.lt;have hsz:=h.only.size;have WK:=o.size;have gY:=h2.gY;have hB:=h2.hB;refine aHd.aHj.push (Sw:=λwq=>wq.cell? (Addr.mk gn 4 none)=some (.slice p n c)) h2.oa (by omega) (λk hk=>(h2.xs k hk).1) tN (λwq hq=>(h2.row.still hq).ai rfl) (aIb.dO (λk hk=>⟨?_,hk.2,λhx=>?_⟩) (λ_ _ _ h=>h) hy) (by omega) (by omega) λp' c' w9 mW lP vq zo=>?_
 .have:=h.row.lt
  omega
 .have:=(h.xs k hx).1
  omega
 have tU:=h2.row.mod lP (λhk=>(hg gn hk).2 rfl);refine bF tU λaP aHJ m10 aIt=>hK p' c' aP (λk=>X k\/(Value.slice p' (n+1) c').ownBlock=some k) ?_ ?_;rotate_left
 .exact Mod.trans lP m10 (λk hk=>(h2.xs k (hg k hk).1).2) (λk _ hk=>by omega)
 have A3:=lP.size;have Vk:=m10.size;have nJ:∀{β:Type} {f:aHd β} {u:TypeId} {m:List β} {v':Value},f.aHj w B u X gn m v'->(∀k,(Value.slice p n c).ownBlock=some k->v'.ownBlock≠some k)->f.aHj aP B u (λk=>X k\/(Value.slice p' (n+1) c').ownBlock=some k) gn m v':=by intro β f u m v' hf hne;obtain⟨_,_,_,_,_,qG,_⟩:=id hf;exact(hf.mod lP (λk _ _ hs=>⟨(hg k hs).1,hne k hs⟩) (λ_ h=>.inl h) (λk hk=>hk.elim .inl (λh=>vq k h))).mod m10 (λk _ _ e=>by subst e;exact⟨.inl h2.xg,λhk=>(qG _ hk).2 rfl⟩) (λ_ h=>h) (λ_ h=>.inl h)
 have yp:=mW.mod m10 (X':=λk=>X k\/(Value.slice p' (n+1) c').ownBlock=some k) (λk _ _ e=>by subst e;obtain⟨_,_,_,_,_,qG,_⟩:=id mW;exact⟨.inl h2.xg,λhk=>(qG _ hk).2 rfl⟩) (λ_ h=>h) (λ_ h=>.inl h);have yM:∀k,(Value.slice p' (n+1) c').ownBlock=some k->B<=k:=λk hk=>by
  rcases vq k hk with hk|hk
  .exact(h2.xs k hk).2
  .omega
 refine⟨aHJ,Mod.trans (Mod.trans h2.only lP (λ_ h=>h) (λi hi hk=>by have:=(h2.xs _ (hg _ hk).1).2;omega)) m10 (λ_ h=>h) (λi hi e=>by omega),h2.hg,hB,gY,λk hk=>?_,.inl h2.xg,nJ h2.ow (λk hk=>h2.oa.apart h2.ow (by decide) hk),yp,nJ h2.ord (λk hk=>h2.oa.apart h2.ord (by decide) hk),nJ h2.oo (λk hk=>h2.oa.apart h2.oo (by decide) hk),nJ h2.ok (λk hk=>h2.oa.apart h2.ok (by decide) hk)⟩;rcases hk with hk|hk
 .have:=h2.xs k hk
  exact⟨by omega,this.2⟩
 .have:=zo k hk
  exact⟨by omega,yM k hk⟩
def NB.azf{w0 w1:World}{g gn B:Nat}{X:Nat->Prop}{x:Nd}{vw vr vo vk:Value}{p:Option Addr}{n c:Nat}{y:ag×List Pt}{cs:List Value}(h:NB w0 w1 g gn B X x vw (.slice p n c) vr vo vk)(o:cU g w1 w)(hy:aIb.E w (λk=>w1.heap.size<=k/\k<w.heap.size) y cs)(hn:x.aHv.length<1000000){K:World->Prop}
  (hK:∀p' c' w' X',NB w0 w' g gn B X' (x.Nb y) vw (.slice p' (n+1) c') vr vo vk->Mod (λk=>B<=k) w w'->K w'):
  cP (w.alloc (.cells ⟨cs⟩ 208)) (λw2=>eW w2 208 2 40 p n c (some (Addr.mk w.heap.size 0 none)) 1 (λp' c' w9=>cA (Addr.mk gn 4 none) K 0 [.slice p' (n+1) c'] w9)):=by
 have h0:=h.Nb o hy hn hK;exact h0.2
abbrev Nd.yD(x:Nd)(y:ag×List Pt):Nd:=.mk x.k x.neg x.nm x.ws x.aHv (x.rs++[y]) x.os x.ks
def NB.yD{w0 w1:World}{g gn B:Nat}{X:Nat->Prop}{x:Nd}{vw va vo vk:Value}{p:Option Addr}{n c:Nat}{y:ag×List Pt}{cs:List Value}(h:NB w0 w1 g gn B X x vw va (.slice p n c) vo vk)(o:cU g w1 w)(hy:aIb.E w (λk=>w1.heap.size<=k/\k<w.heap.size) y cs)(hn:x.rs.length<1000000){K:World->Prop}
  (hK:∀p' c' w' X',NB w0 w' g gn B X' (x.yD y) vw va (.slice p' (n+1) c') vo vk->Mod (λk=>B<=k) w w'->K w'):
  cP (w.alloc (.cells ⟨cs⟩ 138)) (λw2=>w2.cell? (Addr.mk gn 5 none)=some (.slice p n c)/\eW w2 138 2 40 p n c (some (Addr.mk w.heap.size 0 none)) 1 (λp' c' w9=>cA (Addr.mk gn 5 none) K 0 [.slice p' (n+1) c'] w9)):=by
 have h2:=h.on o;obtain⟨_,_,_,he,_,hg,_⟩:=id h2.ord;injection he with _ en _;have tN:=h2.row.lt;have hsz:=h.only.size;have WK:=o.size;have gY:=h2.gY;have hB:=h2.hB;refine aHd.aHj.push (Sw:=λwq=>wq.cell? (Addr.mk gn 5 none)=some (.slice p n c)) h2.ord (by omega) (λk hk=>(h2.xs k hk).1) tN (λwq hq=>(h2.row.still hq).ai rfl) (aIb.dO (λk hk=>⟨?_,hk.2,λhx=>?_⟩) (λ_ _ _ h=>h) hy) (by omega) (by omega) λp' c' w9 mW lP vq zo=>?_
 .have:=h.row.lt
  omega
 .have:=(h.xs k hx).1
  omega
 have tU:=h2.row.mod lP (λhk=>(hg gn hk).2 rfl);refine bF tU λaP aHJ m10 aIt=>hK p' c' aP (λk=>X k\/(Value.slice p' (n+1) c').ownBlock=some k) ?_ ?_;rotate_left
 .exact Mod.trans lP m10 (λk hk=>(h2.xs k (hg k hk).1).2) (λk _ hk=>by omega)
 have A3:=lP.size;have Vk:=m10.size;have nJ:∀{β:Type} {f:aHd β} {u:TypeId} {m:List β} {v':Value},f.aHj w B u X gn m v'->(∀k,(Value.slice p n c).ownBlock=some k->v'.ownBlock≠some k)->f.aHj aP B u (λk=>X k\/(Value.slice p' (n+1) c').ownBlock=some k) gn m v':=by intro β f u m v' hf hne;obtain⟨_,_,_,_,_,qG,_⟩:=id hf;exact(hf.mod lP (λk _ _ hs=>⟨(hg k hs).1,hne k hs⟩) (λ_ h=>.inl h) (λk hk=>hk.elim .inl (λh=>vq k h))).mod m10 (λk _ _ e=>by subst e;exact⟨.inl h2.xg,λhk=>(qG _ hk).2 rfl⟩) (λ_ h=>h) (λ_ h=>.inl h)
 have yp:=mW.mod m10 (X':=λk=>X k\/(Value.slice p' (n+1) c').ownBlock=some k) (λk _ _ e=>by subst e;obtain⟨_,_,_,_,_,qG,_⟩:=id mW;exact⟨.inl h2.xg,λhk=>(qG _ hk).2 rfl⟩) (λ_ h=>h) (λ_ h=>.inl h);have yM:∀k,(Value.slice p' (n+1) c').ownBlock=some k->B<=k:=λk hk=>by
  rcases vq k hk with hk|hk
  .exact(h2.xs k hk).2
  .omega
 refine⟨aHJ,Mod.trans (Mod.trans h2.only lP (λ_ h=>h) (λi hi hk=>by have:=(h2.xs _ (hg _ hk).1).2;omega)) m10 (λ_ h=>h) (λi hi e=>by omega),h2.hg,hB,gY,λk hk=>?_,.inl h2.xg,nJ h2.ow (λk hk=>h2.ord.apart h2.ow (by decide) hk),nJ h2.oa (λk hk=>h2.ord.apart h2.oa (by decide) hk),yp,nJ h2.oo (λk hk=>h2.ord.apart h2.oo (by decide) hk),nJ h2.ok (λk hk=>h2.ord.apart h2.ok (by decide) hk)⟩;rcases hk with hk|hk
 .have:=h2.xs k hk
  exact⟨by omega,this.2⟩
 .have:=zo k hk
  exact⟨by omega,yM k hk⟩
abbrev Nd.Nc(x:Nd)(y:Nd):Nd:=.mk x.k x.neg x.nm x.ws x.aHv x.rs x.os (x.ks++[y])
def NB.Nc{w0 w1:World}{g gn B:Nat}{X:Nat->Prop}{x:Nd}{vw va vr vo:Value}{p:Option Addr}{n c:Nat}{y:Nd}{cs:List Value}(h:NB w0 w1 g gn B X x vw va vr vo (.slice p n c))(o:cU g w1 w)(hy:vf.E w (λk=>w1.heap.size<=k/\k<w.heap.size) y cs)(hn:x.ks.length<1000000){K:World->Prop}
  (hK:∀p' c' w' X',NB w0 w' g gn B X' (x.Nc y) vw va vr vo (.slice p' (n+1) c')->Mod (λk=>B<=k) w w'->K w'):
  cP (w.alloc (.cells ⟨cs⟩ 66)) (λw2=>w2.cell? (Addr.mk gn 7 none)=some (.slice p n c)/\eW w2 66 8 152 p n c (some (Addr.mk w.heap.size 0 none)) 1 (λp' c' w9=>cA (Addr.mk gn 7 none) K 0 [.slice p' (n+1) c'] w9)):=by
 have h2:=h.on o;obtain⟨_,_,_,he,_,hg,_⟩:=id h2.ok;injection he with _ en _;have tN:=h2.row.lt;have hsz:=h.only.size;have WK:=o.size;have gY:=h2.gY;have hB:=h2.hB;refine aHd.aHj.push (Sw:=λwq=>wq.cell? (Addr.mk gn 7 none)=some (.slice p n c)) h2.ok (by omega) (λk hk=>(h2.xs k hk).1) tN (λwq hq=>(h2.row.still hq).ai rfl) (vf.dO (λk hk=>⟨?_,hk.2,λhx=>?_⟩) (λ_ _ _ h=>h) hy) (by omega) (by omega) λp' c' w9 mW lP vq zo=>?_
 .have:=h.row.lt
  omega
 .have:=(h.xs k hx).1
  omega
 have tU:=h2.row.mod lP (λhk=>(hg gn hk).2 rfl);refine bF tU λaP aHJ m10 aIt=>hK p' c' aP (λk=>X k\/(Value.slice p' (n+1) c').ownBlock=some k) ?_ ?_;rotate_left
 .exact Mod.trans lP m10 (λk hk=>(h2.xs k (hg k hk).1).2) (λk _ hk=>by omega)
 have A3:=lP.size;have Vk:=m10.size;have nJ:∀{β:Type} {f:aHd β} {u:TypeId} {m:List β} {v':Value},f.aHj w B u X gn m v'->(∀k,(Value.slice p n c).ownBlock=some k->v'.ownBlock≠some k)->f.aHj aP B u (λk=>X k\/(Value.slice p' (n+1) c').ownBlock=some k) gn m v':=by intro β f u m v' hf hne;obtain⟨_,_,_,_,_,qG,_⟩:=id hf;exact(hf.mod lP (λk _ _ hs=>⟨(hg k hs).1,hne k hs⟩) (λ_ h=>.inl h) (λk hk=>hk.elim .inl (λh=>vq k h))).mod m10 (λk _ _ e=>by subst e;exact⟨.inl h2.xg,λhk=>(qG _ hk).2 rfl⟩) (λ_ h=>h) (λ_ h=>.inl h)
 have yp:=mW.mod m10 (X':=λk=>X k\/(Value.slice p' (n+1) c').ownBlock=some k) (λk _ _ e=>by subst e;obtain⟨_,_,_,_,_,qG,_⟩:=id mW;exact⟨.inl h2.xg,λhk=>(qG _ hk).2 rfl⟩) (λ_ h=>h) (λ_ h=>.inl h);have yM:∀k,(Value.slice p' (n+1) c').ownBlock=some k->B<=k:=λk hk=>by
  rcases vq k hk with hk|hk
  .exact(h2.xs k hk).2
  .omega
 refine⟨aHJ,Mod.trans (Mod.trans h2.only lP (λ_ h=>h) (λi hi hk=>by have:=(h2.xs _ (hg _ hk).1).2;omega)) m10 (λ_ h=>h) (λi hi e=>by omega),h2.hg,hB,gY,λk hk=>?_,.inl h2.xg,nJ h2.ow (λk hk=>h2.ok.apart h2.ow (by decide) hk),nJ h2.oa (λk hk=>h2.ok.apart h2.oa (by decide) hk),nJ h2.ord (λk hk=>h2.ok.apart h2.ord (by decide) hk),nJ h2.oo (λk hk=>h2.ok.apart h2.oo (by decide) hk),yp⟩;rcases hk with hk|hk
 .have:=h2.xs k hk
  exact⟨by omega,this.2⟩
 .have:=zo k hk
  exact⟨by omega,yM k hk⟩
end Go.Proofs.YtihaaoehhgmphaaGreatDoor.L
