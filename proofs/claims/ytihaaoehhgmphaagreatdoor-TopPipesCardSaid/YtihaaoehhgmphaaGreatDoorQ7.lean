/- Texts of one proof, one behind the other. Conditions: as each theorem names them. -/
import Derived.Test.YtihaaoehhgmphaaGreatDoorQ6
import Derived.Lib.IndexMore
import Derived.Lib.ItoaLen
import Derived.Lib.RuneCount
set_option linter.all false
namespace Go.Proofs.YtihaaoehhgmphaaGreatDoor.P
open IntKind Go.RowKit Vc
variable{w:World}
abbrev Still(w w':World):Prop:=Mod (λ_=>False) w w'
def Still.trans{a b c:World}(h:Still a b)(k:Still b c):Still a c:=Mod.trans h k (λ_ h=>h) (λ_ _ h=>h)
def Still.Sa{w w':World}(h:Below w.heap.size w w'):Still w w':=Mod.Sa h
def aIZ(S:rI):List Value:=(List.range 256).map λi=>.bool (S (UInt8.ofNat i))
@[simp]theorem aGa(S:rI):(aIZ S).length=256:=by simp[aIZ]
def aaL{S:rI}{i:Nat}(h:i<256):(aIZ S)[i]?=some (.bool (S (UInt8.ofNat i))):=by simp[aIZ,h]
def Q9{S T:rI}(h:∀c,S c=T c):aIZ S=aIZ T:=by rw[show S=T from funext h]
def arh{S:rI}{i:Nat}(h:i<256)(b:Bool):(aIZ S).set i (.bool b)=aIZ (λc=>if c.toNat=i then b else S c):=by
 apply aJc;intro j;rw[Dd]
 by_cases hj:j<256
 .have hR:=aaL (S:=λc=>if c.toNat=i then b else S c) hj
  rw[hR]
  by_cases hij:i=j
  .subst hij
   have:(UInt8.ofNat i).toNat=i:=by simp;omega
   rw[aR rfl,aR (by simpa using h),aR this]
  .have:¬(UInt8.ofNat j).toNat=i:=by simp;omega
   rw[aL hij,aaL hj,aL this]
 .rw[th (l:=aIZ _) (i:=j) (by simp;omega),th (l:=aIZ _) (i:=j) (by simp;omega)]
  by_cases hij:i=j
  .omega
  .rw[aL hij]
section
variable{g o:Nat}{t:TypeId}{pre:List Value}{S:rI}
def _root_.Go.Proofs.YtihaaoehhgmphaaGreatDoor.Row.wrO(hr:Row w g t ⟨pre++aIZ S⟩)(ho:pre.length=o){k:Nat}(hk:k<256):Wr w ((Addr.mk g o none).add (k*1)):=by rw[bR,eX];exact hr.wr _ (by simp;omega)
def _root_.Go.Proofs.YtihaaoehhgmphaaGreatDoor.Row.UN(hr:Row w g t ⟨pre++aIZ S⟩)(ho:pre.length=o){k:Nat}(hk:k<256)(b:Bool):Row (w.setCell ((Addr.mk g o none).add (k*1)) (.bool b)) g t ⟨pre++aIZ (λc=>if c.toNat=k then b else S c)⟩:=by rw[bR,eX];have h:=hr.gZ (o+k) (.bool b);rw[C4 _ _ (by omega),<-ho,aLa,arh hk]at h;rw[<-ho];exact h
def _root_.Go.Proofs.YtihaaoehhgmphaaGreatDoor.Mod.UN{U:Nat->Prop}{a b:World}(h:Mod U a b)(hp:U g\/a.heap.size<=g)(k:Nat)(u:Value):Mod U a (b.setCell ((Addr.mk g o none).add (k*1)) u):=by rw[bR];exact h.setCell hp _
set_option maxRecDepth 10000 in
def GB(hr:Row w g t ⟨pre++aIZ S⟩)(ho:pre.length=o)(lo hi:UInt8):aH3 X7 #[.pointer (some ⟨g,o,none⟩),.int .u8 (lo.toNat:Int),.int .u8 (hi.toNat:Int)] w
  (λe w'=>e=.returned (.tuple #[])/\Mod (λi=>i=g) w w'/\Row w' g t ⟨pre++aIZ (yo S lo hi)⟩):=by
 refine alf _ _ _ _ _ ?_;have hl:=lo.toNat_lt;have hh:=hi.toNat_lt;unfold X8;rw[wrap_i64 (n:=(lo.toNat:Int)) (by omega) (by omega),wrap_i64 (n:=(hi.toNat:Int)) (by omega) (by omega)];refine⟨λx w1=>∃i:Nat,x=(i:Int)/\lo.toNat<=i/\i<=256/\(lo.toNat<=hi.toNat->i<=hi.toNat+1)/\(hi.toNat<lo.toNat->i=lo.toNat)/\Mod (λi=>i=g) w w1/\Row w1 g t ⟨pre++aIZ (λc=>S c||(decide (lo.toNat<=c.toNat)&&decide (c.toNat<i)))⟩,λx _=>(256-x).toNat,
  ⟨lo.toNat,rfl,aW _,by omega,by omega,by omega,Mod.refl _ _,?_⟩,?_⟩
 .rw[Q9 (T:=S) (λc=>by
   by_cases h1:lo.toNat<=c.toNat
   .have h2:¬c.toNat<lo.toNat:=by omega
    rw[aIl h2];simp
   .simp[h1])]
  exact hr
 rintro _ _ w1 ⟨i,rfl,hi1,hi2,hi3,hi4,hm,cG⟩;have e1:i64.wrap ((i:Int)+1)=((i+1:Nat):Int):=by rw[wrap_i64 (by omega) (by omega)];omega
 refine aB (λhx=>?_) (λhx=>?_)
 .have hx:=aT hx
  have hx':i<256:=by omega
  simp only[e1,bT];refine⟨by omega,by omega,cG.wrO ho hx',⟨i+1,rfl,by omega,by omega,by omega,by omega,hm.UN (.inl rfl) _ _,?_⟩,by omega⟩;have h:=cG.UN ho hx' true;rw[Q9 (T:=λc=>if c.toNat=i then true else S c||(decide (lo.toNat<=c.toNat)&&decide (c.toNat<i))) (λc=>by
   by_cases h1:c.toNat=i
   .rw[aR h1]
    have h2:lo.toNat<=c.toNat:=by omega
    have h3:c.toNat<i+1:=by omega
    simp[h2,h3]
   .rw[aL h1]
    have h2:(decide (c.toNat<i+1))=decide (c.toNat<i):=by apply qW.2;omega
    rw[h2])]
  exact h
 .have hx:=a_ hx
  refine⟨rfl,hm,?_⟩;rw[Q9 (S:=yo S lo hi) (T:=λc=>S c||(decide (lo.toNat<=c.toNat)&&decide (c.toNat<i))) (λc=>by
   unfold yo;congr 1
   by_cases h1:lo.toNat<=c.toNat
   .have h2:(decide (c.toNat<=hi.toNat))=decide (c.toNat<i):=by
     apply qW.2;constructor<;>intro<;>omega
    rw[h2]
   .simp[h1])]
  exact cG
end
def Z1{p:List UInt8}(h:p≠[]):aH3 Ke #[.string (S p)] w
  (λe w'=>e=.returned (.tuple #[.int .u8 ((single p).1.toNat:Int),.string (S (single p).2)])/\w'=w.drew):=by
 refine al5 _ _ _ ?_
 match p,h with
 |[a],_=>refine aB (λhx=>?_) (λ_=>⟨by decide,a,rfl,by decide,by simp,rfl,rfl⟩);have:=aT hx;simp at this
 |a::b::r,_=>
  refine aB (λ_=>⟨by decide,a,rfl,aB (λha=>?_) (λha=>?_)⟩) (λhx=>?_)
  .have ha:=aT ha
   have ha:a=92:=FF.1 (Int.ofNat_inj.1 ha);refine⟨by decide,b,rfl,by decide,?_,?_,rfl⟩
   .show(2:Int)<=((a::b::r).length:Int)
    simp only[bf];omega
   .simp only[single,aR ha];rfl
  .have ha:=a_ ha
   have ha:¬a=92:=λe=>ha (by rw[e];rfl);refine⟨by decide,a,rfl,by decide,?_,?_,rfl⟩
   .show(1:Int)<=((a::b::r).length:Int)
    simp only[bf];omega
   .simp only[single,aL ha];rfl
  .have:=a_ hx
   simp at this;omega
def ape(p:List UInt8):aH3 P3 #[.string (S p)] w (λe w'=>e=.returned (.bool (qu p))/\Still w w'):=by
 refine alN _ _ _ ?_;refine⟨λq w1=>qu q=qu p/\Still w w1,λq _=>q.length,⟨rfl,Mod.refl _ _⟩,?_⟩;rintro q _ w1 ⟨hq,hm⟩;rw[<-hq];refine aB (λhx=>?_) (λhx=>?_)
 .have hx:q≠[]:=by simpa using hx
  obtain⟨a,r,rfl⟩:=aKs hx;refine⟨by decide,a,rfl,(Tryz.strings_IndexByte (S [42,63,91]) _ _).mono ?_⟩;rintro _ w2 ⟨rfl,rfl⟩;rw[ao3];have hidx:Go.Lib.indexByte (S [42,63,91]).data.toList ((a.toNat:Int)).toNat.toUInt8=Go.Lib.indexByte [42,63,91] a:=by rw[bT];congr 1;simp
  rw[hidx];have hsg:decide ((0:Int)<=Go.Lib.indexByte [42,63,91] a)=DX a:=by
   unfold DX
   by_cases h1:a=42
   .subst h1;decide
   ·by_cases h2:a=63
    .subst h2;decide
    ·by_cases h3:a=91
     .subst h3;decide
     .have g1:¬(42:UInt8)=a:=λe=>h1 e.symm
      have g2:¬(63:UInt8)=a:=λe=>h2 e.symm;have g3:¬(91:UInt8)=a:=λe=>h3 e.symm;simp[Go.Lib.indexByte,h1,h2,h3,g1,g2,g3]
  refine .inl ⟨_,rfl,?_⟩
  try dsimp only[zR]
  rw[hsg];refine aB (λh=>⟨by rw[h];rfl,hm⟩) (λh=>?_);rw[h,vT];refine(Z1 hx).mono ?_;rintro _ w3 ⟨rfl,rfl⟩;refine .inl ⟨_,_,rfl,⟨?_,hm.drew⟩,Zb hx⟩;rfl
 .have hx:q=[]:=by simpa using hx
  subst hx;exact⟨rfl,hm⟩
def ari(p:List UInt8)(hp:p.length<1000000):aH3 FJ #[.string (S p)] w (λe w'=>e=.returned (.string (S (plain p)))/\Still w w'):=by
 refine ami _ _ _ ?_;have hpl:=Q4 p;refine aP λw1 r1 s1 z1=>?_;refine⟨λq w2=>∃l cs v,l++plain q=plain p/\cs.length=2/\ef w2 86 w.heap.size 0 w.heap.size cs v l/\Mod (λ_=>False) w w2,λq _=>q.length,⟨[],_,_,rfl,rfl,ef.fresh r1 rfl rfl,s1⟩,?_⟩;rintro q _ w2 ⟨l,cs,v,hl,hcs,hb,hm⟩;refine aB (λhx=>?_) (λhx=>?_)
 .have hx:q≠[]:=by simpa using hx
  refine(Z1 hx).mono ?_;rintro _ w3 ⟨rfl,rfl⟩;have EM:l.length<=p.length:=by
   have:(l++plain q).length=(plain p).length:=by rw[hl]
   simp at this;omega
  have hbD:=hb.still (Mod.refl (λ_=>False) w2).drew;have hmD:=hm.drew;refine .inl ⟨_,_,rfl,(Y3 hbD (by rw[hcs];exact DE) (single q).1 hmD.size (by omega)).mono ?_⟩;rintro _ w4 ⟨rfl,v',hb4,m4⟩;refine .inl ⟨_,rfl,rfl,⟨l++[(single q).1],_,v',?_,?_,hb4,?_⟩,Zb hx⟩
  .rw[<-hl,aqV hx]
   simp
  .simp[hcs]
  .refine Mod.trans hmD m4 (λ_ h=>h) (λi hi h=>?_)
   rcases h with h|h
   .omega
   .have:=(hb.own.lt i h).1;omega
 .have hx:q=[]:=by simpa using hx
  subst hx;have hl:l=plain p:=by simpa[plain]using hl
  subst hl;refine(xF hb (by omega)).mono ?_;rintro _ w4 ⟨rfl,m4⟩;refine .inl ⟨_,rfl,rfl,Mod.trans hm m4 (λ_ h=>h) (λi hi h=>?_)⟩;have:=(hb.own.lt i h).1;omega
end Go.Proofs.YtihaaoehhgmphaaGreatDoor.P
namespace Go.Proofs.YtihaaoehhgmphaaGreatDoor
open IntKind Go.RowKit Vc
set_option maxRecDepth 100000
variable{w wb w0:World}
def aeS{B:Nat}{p:Option Addr}{n c:Nat}{l:List F.Sg}(h:aV w B Ms 2 (.slice p l.length c) l.length (F.CI l)):F.Ac w p l.length l:=⟨rfl,At.own h⟩
def pW:Pr (List F.Sg×List A.Vr)->List A.Vr->List F.Sg×List A.Vr×Nat
 |.ok p,_=>(p.1,p.2,0)
 |.bad k,V=>([],V,k)
def as4{V:List A.Vr}{st:Int}(he:Env w){vp:Option Addr}{vc:Nat}(hv:A.dz w vp V.length vc V){ps:List L.Pt}{p:Option Addr}{n c:Nat}{D:Nat->Prop}(hs:L.cv w D ps (.slice p n c))(hV:rV V)(hb:V.length+nW ps<=50000)(hn:ps.length<=900){r:Pr (List F.Sg×List A.Vr)}(hr:aJ3 ps V=some r)(hlen:(pW r V).1.length<=1000)(hbig:F.eZ (pW r V).1<=500000)(b:Bool):
  aH3 QD #[.slice p n c,.agg #[.slice vp V.length vc,.slice none 0 0,.int .i64 st],.slice none 0 0,.bool b] w (λe w'=>∃q D,e=.returned (.tuple #[.string (S (F.joined b (pW r V).1)),.agg #[.slice q (pW r V).2.1.length D,.slice none 0 0,.int .i64 st],.int .i64 ((pW r V).2.2:Int)])/\A.dz w' q (pW r V).2.1.length D (pW r V).2.1/\Still w w'):=by
 refine amZ _ _ _ _ _ _ _ _ _ _ _ _ _ _ _ _ ?_;refine aP λw1 r1 s1 z1=>aP λw2 r2 s2 z2=>?_;have q1:=r1.still s2;have cZ:=s1.trans s2;refine⟨_,_,_,_,_,_,_,q1.aj rfl,q1.aj rfl,q1.aj rfl,(SC (he.still cZ) (hv.still cZ) (hs.still cZ) hV hb hn hr).mono ?_⟩;intro e w3 h3;have:∃xb,e=.returned (.tuple #[.pointer (some ⟨xb,0,none⟩),.int .i64 ((pW r V).2.2:Int)])/\iD w2 w3 xb (pW r V).2.1 st (pW r V).1:=by
  cases r with
  |ok q=>obtain⟨xb,h1,h2,_⟩:=h3;exact⟨xb,h1,h2⟩
  |bad k=>obtain⟨xb,h1,h2⟩:=h3;exact⟨xb,h1,h2⟩
 clear h3;obtain⟨xb,rfl,h3⟩:=this;generalize(pW r V).1=gs at*;generalize(pW r V).2.1=V' at*;generalize(pW r V).2.2=k at*;have sD:Still w3 w3.drew:=(Still.refl _).cK;obtain⟨vq,aKa,op,oc,hrow,CL,ho⟩:=(h3.on sD).row;refine .inl ⟨_,_,rfl,λwq=>Row wq xb wT ⟨[.slice vq V'.length aKa,.slice none 0 0,.int .i64 st,.slice none 0 0,.slice op gs.length oc]⟩,hrow,_,_,_,λwq hq=>hq.aj rfl,_,_,_,_,_,_,_,λwq hq=>hq.aj rfl,λwq hq=>hq.aj rfl,λwq hq=>hq.aj rfl,?_⟩;refine(F.ap7 (aeS (n:=0) ho) b hlen hbig).mono ?_;rintro _ w4 ⟨rfl,s4⟩;have Ns:Row w4 w1.heap.size 109 ⟨[.slice none 0 0,.slice none 0 0,.int .i64 0]⟩:=((r2.still h3.still).still sD).still s4;refine .inl ⟨_,rfl,hrow.still s4,aH5 (g:=w1.heap.size) (o:=0) Ns (by simp) (by simp[Value.oneCell']) λw5 r5 m5 z5=>?_⟩;have s25:Still w w5:=(((cZ.trans h3.still).trans sD).trans s4).box (by omega) m5;refine⟨_,_,_,_,_,_,_,r5.aj rfl,r5.aj rfl,r5.aj rfl,_,_,rfl,?_,s25⟩;refine dz.yw (CL.still s4) m5 λh0 a ha hk=>?_;obtain⟨a',cs,h1,h2⟩:=(CL.still s4).2.2.2 h0;rw[ha]at h1;obtain rfl:=bM h1;exact h2.ne Ns (by decide) hk
def afI(T:Tree)(t:ag)(r:List ag):Prop:=∀(w w0:World) (a g pb:Nat),fN w0->Still w0 w->cQ w w0.heap.size a g none 0 T->iC w pb a->aH3 Q2 #[.pointer (some ⟨pb,0,none⟩),.string (S t)] w (λe w'=>∃p c,e=.returned (.slice p r.length c)/\c_ w' p r.length r/\Still w w')
def HV(T:Tree):List ag->List ag->Prop
 |[],r=>r=[]
 |t::ts,r=>∃r1 r2,afI T t r1/\HV T ts r2/\r=r1++r2
def arj{T:Tree}{t:ag}(h:P.qu t=false)(hl:t.length<1000000):afI T t [P.plain t]:=by intro w w0 a g pb he h0 hst hp;refine anN _ _ _ _ ?_;refine(P.ape t).mono ?_;rintro _ w1 ⟨rfl,s1⟩;refine .inl ⟨_,rfl,aB (λhb=>by rw[h]at hb;cases hb) (λ_=>(P.ari t hl).mono ?_)⟩;rintro _ w2 ⟨rfl,s2⟩;refine .inl ⟨_,rfl,aP λw3 r3 s3 z3=>⟨_,_,rfl,c_.row r3,(s1.trans s2).trans s3⟩⟩
def aJ4(V:List A.Vr):ag:=if(A.get [73,70,83] V).isSome then(A.getD [73,70,83] V).value else[32,9,10]
def au5{xb:Nat}{V:List A.Vr}{st:Int}{l:List F.Sg}(h:iD wb w xb V st l)(hV:rV V)(hn:V.length<1000000):aH3 Pe #[.pointer (some ⟨xb,0,none⟩)] w (λe w'=>e=.returned (.string (S (aJ4 V)))/\Still w w'):=by
 refine akv _ _ _ ?_;obtain⟨vp,vc,op,oc,hr,hv,ho⟩:=h.row;refine⟨_,_,_,hr.aj rfl,(A.au2 hv hV.agO hn _).mono ?_⟩;rintro _ w1 ⟨rfl,s1⟩;refine .inl ⟨_,_,_,_,_,rfl,aP λw2 r2 s2 z2=>aH5 (g:=w1.heap.size) (o:=0) r2 (by simp) (by simp[Value.oneCell']) λw3 r3 m3 z3=>?_⟩;have s3:Still w w3:=s1.trans (s2.box (aW _) m3);unfold aJ4;refine aB (λhb=>⟨_,r3.aj rfl,?_,s3⟩) (λhb=>⟨?_,s3⟩)
 .rw[aR hb]
 .rw[aL (by rw[hb];decide)]
def ap9{V:List A.Vr}{st:Int}(aH9:fN w0)(h0:Still w0 w){a g pb:Nat}{T:Tree}(hst:cQ w w0.heap.size a g none 0 T)(vv:iC w pb a){vp:Option Addr}{vc:Nat}(hv:A.dz w vp V.length vc V){ps:List L.Pt}{p:Option Addr}{n c:Nat}{D:Nat->Prop}(hs:L.cv w D ps (.slice p n c))(hV:rV V)(hb:V.length+nW ps<=50000)(hn:ps.length<=900){gs:List F.Sg}{V':List A.Vr}(hr:aJ3 ps V=some (.ok (gs,V')))(hlen:gs.length<=1000)(hbig:F.eZ gs<=500000)(azz:(aJ4 V').length<=1000000){out:List ag}(hg:HV T (F.pQ (aJ4 V') gs) out)(hol:out.length<=100000)(hfl:(F.pQ (aJ4 V') gs).length<=100000):
  aH3 FI #[.pointer (some ⟨pb,0,none⟩),.slice p n c,.agg #[.slice vp V.length vc,.slice none 0 0,.int .i64 st],.slice none 0 0] w (λe w'=>∃o oc q D,e=.returned (.tuple #[.slice o out.length oc,.agg #[.slice q V'.length D,.slice none 0 0,.int .i64 st],.int .i64 0])/\aV w' w.heap.size b6 1 (.slice o out.length oc) out.length (bI out)/\A.dz w' q V'.length D V'/\rV V'/\V'.length<=V.length+nW ps/\Still w w'):=by
 refine Yd _ _ _ _ _ _ _ _ _ _ _ _ _ _ _ _ ?_;refine aP λw1 r1 s1 z1=>aP λw2 r2 s2 z2=>?_;have q1:=r1.still s2;have cZ:=s1.trans s2;refine⟨_,_,_,_,_,_,_,q1.aj rfl,q1.aj rfl,q1.aj rfl,(SC ((aH9.still h0).env.still cZ) (hv.still cZ) (hs.still cZ) hV hb hn hr).mono ?_⟩;rintro e w3 ⟨xb,rfl,h3,hV',hl'⟩;have sD:Still w3 w3.drew:=(Still.refl _).cK;have aIK:=h3.on sD;obtain⟨vq,aKa,op,oq,hrow,CL,ho⟩:=aIK.row;refine .inl ⟨_,_,rfl,aB (λhb=>by simp at hb) (λ_=>?_)⟩;refine⟨λwq=>Row wq xb wT ⟨[.slice vq V'.length aKa,.slice none 0 0,.int .i64 st,.slice none 0 0,.slice op gs.length oq]⟩,hrow,_,_,_,λwq hq=>hq.aj rfl,(au5 aIK hV' (by omega)).mono ?_⟩;rintro _ w4 ⟨rfl,s4⟩;refine .inl ⟨_,rfl,hrow.still s4,(F.ap6 (aeS (n:=0) (ho.still s4)) _ hlen hbig azz).mono ?_⟩;rintro _ w5 ⟨fq,fD,rfl,hf,s5⟩;have ET:=(sD.trans s4).trans s5;have od:Still w w5:=(cZ.trans h3.still).trans ET;generalize hfs:F.pQ (aJ4 V') gs=fs at*;refine .inl ⟨_,_,_,rfl,λo on oc x w6=>∃(i:Nat) (l1 l2:List ag),x=(i:Int)/\i<=fs.length/\on=l1.length/\aV w6 w.heap.size b6 1 (.slice o on oc) on (bI l1)/\HV T (fs.drop i) l2/\out=l1++l2/\Still w5 w6,λ_ _ _ x _=>(fs.length-x).toNat,⟨0,[],out,rfl,dx _,rfl,aV.nil _ _ _ _,hg,rfl,Still.refl _⟩,?_⟩;rintro o _ oc x _ w6 ⟨i,l1,l2,rfl,hi,rfl,yS,EU,NM,s6⟩;have oe:=od.trans s6;refine aB (λhx=>?_) (λhx=>?_)
 .have hx:i<fs.length:=by have:=aT hx;omega
  rw[mI hx]at EU;obtain⟨ra,rb,ha,aKG,rfl⟩:=EU;obtain⟨af,rfl,hcell⟩:=(hf.still s6).get hx;have axN:w6.cell? (af.add (Int.toNat (i:Int)*1))=some (.string (S fs[i])):=by rw[bT,eX];exact hcell
  refine⟨by omega,by omega,_,axN,(ha w6 w0 a g pb aH9 (h0.trans oe) (hst.still oe) (vv.still oe)).mono ?_⟩;rintro _ w7 ⟨gp,gc,rfl,hra,s7⟩;refine .inl ⟨_,_,_,rfl,aP λw8 r8 s8 z8=>?_⟩;have hlo:l1.length+ra.length<=100000:=by rw[NM]at hol;simp only[aIa]at hol;omega
  refine(apc r8 (c_.of ((yS.still s7).still s8)) (hra.still s8) (by omega)).mono ?_;rintro _ w9 ⟨np,nc,rfl,mu,s9⟩;have IX:=(s7.trans s8).trans s9;have hz:=((oe.trans s7).trans s8).size;refine .inl ⟨_,_,_,rfl,?_⟩;rw[wrap_i64 (by omega) (by omega)];refine⟨⟨i+1,l1++ra,rb,by omega,by omega,rfl,mu.base λk hk=>by have:=(mu.lt k hk).1;omega,aKG,by rw[NM,mL],s6.trans IX⟩,by dsimp only;omega⟩
 .have hx:i=fs.length:=by have:=a_ hx;omega
  subst hx;rw[vP]at EU;have EU:l2=[]:=EU;subst EU;rw[zl]at NM;subst NM;have sE:Still w6 w6.drew:=(Still.refl _).cK;have yT:=(ET.trans s6).trans sE;have h6:=h3.on yT;have jW:=((s4.trans s5).trans s6).trans sE;have ayp:=hrow.still jW;refine⟨λwq=>Row wq xb wT ⟨[.slice vq V'.length aKa,.slice none 0 0,.int .i64 st,.slice none 0 0,.slice op gs.length oq]⟩,ayp,_,_,_,_,_,_,_,λwq hq=>hq.aj rfl,λwq hq=>hq.aj rfl,λwq hq=>hq.aj rfl,?_⟩;have AR:Row w6.drew w1.heap.size 109 ⟨[.slice none 0 0,.slice none 0 0,.int .i64 0]⟩:=(r2.still h3.still).still yT;refine aH5 (g:=w1.heap.size) (o:=0) AR (by simp) (by simp[Value.oneCell']) λw7 r7 m7 z7=>?_;have agR:=yS.still sE;refine⟨_,_,_,_,_,_,_,r7.aj rfl,r7.aj rfl,r7.aj rfl,_,_,_,_,rfl,agR.mod m7 λk hk e=>agR.cY AR (by decide) (by rw[hk,e]),?_,hV',hl',(oe.trans sE).box (by omega) m7⟩;refine dz.yw (CL.still jW) m7 λh0 a ha hk=>?_;obtain⟨a',cs,h1,h2⟩:=(CL.still jW).2.2.2 h0;rw[ha]at h1;obtain rfl:=bM h1;exact h2.ne AR (by decide) hk
end Go.Proofs.YtihaaoehhgmphaaGreatDoor
namespace Go.Proofs.YtihaaoehhgmphaaGreatDoor
open IntKind Go.RowKit Vc
set_option maxRecDepth 100000
variable{w w0:World}{K:Kx}{s:Sh}
def G2(what:ag)(k:Nat):ag:=what++[58,32,101,114,114,111,114,32]++Lib.itoa k++[10]
def ap_(what:ag)(k:Nat)(hk:k<=255):(G2 what k).length<=what.length+30:=by
 have h:(Lib.itoa (k:Int)).length<=20:=by unfold Lib.itoa;rw[aL (by omega)];have:=GZ (n:=k) hk;simpa using this
 simp only[G2,aIa,bf,cm];omega
def as5(aH9:fN w0)(h0:Still w0 w)(h:bF w w0 K s)(what:ag)(k:Nat)(hk:k<=255)(hw:what.length<=1000)(he:s.err.length<=900000):
  aH3 Da #[.pointer (some ⟨K.hb,0,none⟩),.string (S what),.int .i64 (k:Int)] w (λe w'=>e=.returned (.tuple #[])/\bF w' w0 K {s with err:=s.err++G2 what k,st:=1}/\cA (Ft K w) w (Ft K w') w'):=by
 refine ak4 _ _ _ _ _ ?_;have sD:Still w w.drew:=(Still.refl _).cK;have hD:=h.still sD;obtain⟨vp,vc,hh,hv⟩:=hD.aIx;have hil:(Lib.itoa (k:Int)).length<=20:=by unfold Lib.itoa;rw[aL (by omega)];have:=GZ (n:=k) hk;simpa using this
 refine⟨λwq=>Row wq K.hb fX ⟨iu K vp vc s⟩,hh,_,λwq hq=>hq.aj rfl,by simp;omega,(aKW ((aH9.still h0).env.still sD) (k:Int) (by omega) (by omega)).mono ?_⟩;rintro _ w1 ⟨rfl,s1⟩;have h1:=hD.still s1;have el:=ap_ what k hk;have g1:=(h.gone (sD.trans s1));have hz:=(h0.trans (sD.trans s1)).size;refine .inl ⟨_,rfl,hh.still s1,by simp;omega,by simp;omega,(h1.acQ hz (G2 what k) (by omega)).mono ?_⟩;rintro _ w2 ⟨rfl,h2,g2⟩;refine .inl ⟨_,_,rfl,rfl,h2.Mr 1 λw3 h3 g3 m3=>⟨rfl,h3,(g1.trans g2).trans g3⟩⟩
def afJ(s:Sh)(k:Nat):Sh:={s with err:=s.err++G2 [115,104] k,st:=1,way:=4}
def acT(w:World)(K:Kx):aH3 Bk #[.pointer (some ⟨K.hb,0,none⟩),.int .i64 0] w (λe w'=>e=.returned (.bool true)/\w'=w):=by refine XH _ _ _ _ ?_;exact aB (λh=>by simp at h) (λ_=>⟨rfl,rfl⟩)
def as6(aH9:fN w0)(h0:Still w0 w)(h:bF w w0 K s)(k:Nat)(hk0:k≠0)(hk:k<=255)(he:s.err.length<=900000):
  aH3 Bk #[.pointer (some ⟨K.hb,0,none⟩),.int .i64 (k:Int)] w (λe w'=>e=.returned (.bool false)/\bF w' w0 K (afJ s k)/\cA (Ft K w) w (Ft K w') w'):=by
 refine XH _ _ _ _ ?_;refine aB (λ_=>(as5 aH9 h0 h [115,104] k hk (by decide) he).mono ?_) (λh=>by simp at h;omega);rintro _ w1 ⟨rfl,h1,g1⟩;refine .inl ⟨rfl,h1.axJ 4 λw2 h2 g2 m2=>⟨?_,h2,g1.trans g2⟩⟩;rw[aIl (show¬(k:Int)=0 by omega)]
def ark{ps:List L.Pt}{p:Option Addr}{n c:Nat}{D:Nat->Prop}(hs:L.cv w D ps (.slice p n c))(hn:∀x∈ps,x.k≠2)(hl:ps.length<=100000):
  aH3 PZ #[.slice p n c] w (λe w'=>e=.returned (.slice none 0 0)/\Still w w'):=by
 obtain⟨rfl,hc⟩:=hs.len;refine alL _ _ _ _ _ ?_;refine⟨λo on oc x w1=>o=none/\on=0/\oc=0/\(∃i:Nat,x=(i:Int)/\i<=ps.length)/\Still w w1,λ_ _ _ x _=>(ps.length-x).toNat,⟨rfl,rfl,rfl,⟨0,rfl,dx _⟩,Still.refl _⟩,?_⟩;rintro _ _ _ x _ w1 ⟨rfl,rfl,rfl,⟨i,rfl,hi⟩,s1⟩;refine aB (λhx=>?_) (λhx=>⟨rfl,s1⟩);have hx:i<ps.length:=by have:=aT hx;omega
 obtain⟨b,v,rfl,hD,hcell,hsv⟩:=(hs.still s1).get (gJ hx);obtain⟨wp,wc,rfl⟩:=hsv.form;have cl:∀(j:Nat) (u:Value),(L.h_ ps[i] (.slice wp ps[i].w.length wc))[j]?=some u->w1.cell? ((b.add (Int.toNat (i:Int)*6)).add j)=some u:=λj u hu=>by rw[bT];exact hcell j u hu
 have c0:w1.cell? (b.add (Int.toNat (i:Int)*6))=some (.int .i64 ps[i].k):=cl 0 _ rfl;refine⟨by omega,by omega,_,_,_,_,_,_,_,_,c0,cl 1 _ rfl,cl 2 _ rfl,cl 3 _ rfl,cl 4 _ rfl,cl 5 _ rfl,?_⟩;refine aP λw2 r2 s2 z2=>aH5 (g:=w1.heap.size) (o:=0) r2 (by simp) (by simp[Value.oneCell']) λw3 r3 m3 z3=>?_;refine⟨_,r3.aj rfl,aB (λh=>absurd (aT h) (hn _ (ou hx))) (λ_=>?_)⟩;rw[wrap_i64 (by omega) (by omega)];exact⟨⟨rfl,rfl,rfl,⟨i+1,by omega,by omega⟩,s1.trans (s2.box (aW _) m3)⟩,by dsimp only;omega⟩
def Zg(w:World)(K:Kx){ps:List L.Pt}{p:Option Addr}{n c:Nat}{D:Nat->Prop}(hs:L.cv w D ps (.slice p n c))(hn:∀x∈ps,x.k≠2)(hl:ps.length<=100000):
  aH3 JF #[.pointer (some ⟨K.hb,0,none⟩),.slice p n c] w (λe w'=>e=.returned (.tuple #[.slice none 0 0,.bool true])/\Still w w'):=by
 refine aj7 _ _ _ _ _ _ ?_;refine(ark hs hn hl).mono ?_;rintro _ w1 ⟨rfl,s1⟩;refine .inl ⟨_,_,_,rfl,λo on oc x w2=>o=none/\on=0/\oc=0/\x=0/\w2=w1,λ_ _ _ _ _=>0,⟨rfl,rfl,rfl,rfl,rfl⟩,?_⟩;rintro _ _ _ _ _ w2 ⟨rfl,rfl,rfl,rfl,rfl⟩;exact aB (λh=>by simp at h) (λ_=>⟨rfl,s1⟩)
structure AF(V:List A.Vr)(ps:List L.Pt)(r:Pr (List F.Sg×List A.Vr)):Prop where
 Wg:rV V
 eZ:V.length+nW ps<=50000
 len:ps.length<=900
 cmd:∀x∈ps,x.k≠2
 run:aJ3 ps V=some r
 agS:(pW r V).1.length<=1000
 agT:F.eZ (pW r V).1<=500000
def awo(aH9:fN w0)(h0:Still w0 w)(h:bF w w0 K s){ps:List L.Pt}{p:Option Addr}{n c:Nat}{D:Nat->Prop}(hs:L.cv w D ps (.slice p n c))(hD:Kept D (Ft K w) w){gs:List F.Sg}{V':List A.Vr}(ok:AF s.V ps (.ok (gs,V')))(b:Bool)(hl:(F.joined b gs).length<=10000):
  aH3 Fy #[.pointer (some ⟨K.hb,0,none⟩),.slice p n c,.bool b] w (λe w'=>e=.returned (.tuple #[.string (S (F.joined b gs)),.bool true])/\bF w' w0 K {s with V:=V'}/\cA (Ft K w) w (Ft K w') w'):=by
 refine ald _ _ _ _ _ _ _ ?_;refine(Zg w K hs ok.cmd (by have:=ok.len;omega)).mono ?_;rintro _ w1 ⟨rfl,s1⟩;have h1:=h.still s1;obtain⟨vp,vc,hh,hv⟩:=h1.aIx;refine .inl ⟨_,_,_,_,rfl,aB (λh=>by cases h) (λ_=>?_)⟩;refine⟨_,_,_,_,_,_,_,hh.aj rfl,hh.aj rfl,hh.aj rfl,(as4 ((aH9.still h0).env.still s1) hv (hs.still s1) ok.Wg ok.eZ ok.len ok.run ok.agS ok.agT b).mono ?_⟩;rintro _ w2 ⟨q,qD,rfl,AH,s2⟩;refine .inl ⟨_,_,_,_,_,_,_,_,_,rfl,aP λw3 r3 s3 z3=>aH5 (g:=w2.heap.size) (o:=0) r3 (by simp) (by simp[Value.oneCell']) λw4 r4 m4 z4=>?_⟩;have lz:Still w2 w4:=s3.box (aW _) m4;have iL:=(s1.trans s2).trans lz;refine⟨λx wq=>x=0/\wq=w4,⟨λx wq=>x=false/\wq=w4,aB (λ_=>⟨aIl (by show¬(10000:Int)<((F.joined b gs).length:Int);omega),rfl⟩) (λ_=>⟨rfl,rfl⟩),?_⟩,?_⟩
 .rintro _ _ w5 ⟨rfl,rfl⟩
  exact aB (λh=>by cases h) (λ_=>⟨rfl,rfl⟩)
 rintro _ _ w5 ⟨rfl,rfl⟩;refine(acT w5 K).mono ?_;rintro _ w5 ⟨rfl,rfl⟩;refine .inl ⟨_,rfl,aB (λh=>by cases h) (λ_=>?_)⟩;refine⟨_,_,_,_,_,_,_,r4.aj rfl,r4.aj rfl,r4.aj rfl,?_⟩;refine(h.still iL).setState (AH.still lz) s.st λw6 h6 g6 m6=>⟨rfl,h6,(h.gone iL).trans g6⟩
def Eb(T:Tree)(V:List A.Vr)(ps:List L.Pt)(out:List ag)(V':List A.Vr)(k:Nat):Prop:=
 (k=0/\∃gs,AF V ps (.ok (gs,V'))/\(aJ4 V').length<=1000000/\HV T (F.pQ (aJ4 V') gs) out/\out.length<=1000/\(F.pQ (aJ4 V') gs).length<=1000)\/
 (k≠0/\k<=255/\AF V ps (.bad k)/\out=[]/\V'=V)
def Eb.wd{T:Tree}{V V':List A.Vr}{ps:List L.Pt}{out:List ag}{k:Nat}(h:Eb T V ps out V' k):ps.length<=900/\(∀x∈ps,x.k≠2)/\k<=255:=by
 rcases h with⟨rfl,gs,h,_⟩|⟨_,hk,h,_⟩
 .exact⟨h.len,h.cmd,by decide⟩
 .exact⟨h.len,h.cmd,hk⟩
def aaM{V:List A.Vr}{st:Int}(aH9:fN w0)(h0:Still w0 w){a g pb:Nat}{T:Tree}(hst:cQ w w0.heap.size a g none 0 T)(vv:iC w pb a){vp:Option Addr}{vc:Nat}(hv:A.dz w vp V.length vc V){ps:List L.Pt}{p:Option Addr}{n c:Nat}{D:Nat->Prop}(hs:L.cv w D ps (.slice p n c)){out:List ag}{V':List A.Vr}{k:Nat}(hf:Eb T V ps out V' k):
  aH3 FI #[.pointer (some ⟨pb,0,none⟩),.slice p n c,.agg #[.slice vp V.length vc,.slice none 0 0,.int .i64 st],.slice none 0 0] w (λe w'=>∃o oc q D,e=.returned (.tuple #[.slice o out.length oc,.agg #[.slice q V'.length D,.slice none 0 0,.int .i64 st],.int .i64 (k:Int)])/\aV w' w.heap.size b6 1 (.slice o out.length oc) out.length (bI out)/\A.dz w' q V'.length D V'/\Still w w'):=by
 rcases hf with⟨rfl,gs,ok,h1,h2,h3,h4⟩|⟨hk0,hk,ok,rfl,rfl⟩
 .refine(ap9 (st:=st) aH9 h0 hst vv hv hs ok.Wg ok.eZ ok.len ok.run ok.agS ok.agT h1 h2 (by omega) (by omega)).mono ?_
  rintro _ w' ⟨o,oc,q,D,rfl,a1,a2,a3,a4,a5⟩;exact⟨o,oc,q,D,rfl,a1,a2,a5⟩
 .refine Yd _ _ _ _ _ _ _ _ _ _ _ _ _ _ _ _ ?_
  refine aP λw1 r1 s1 z1=>aP λw2 r2 s2 z2=>?_;have q1:=r1.still s2;have cZ:=s1.trans s2;refine⟨_,_,_,_,_,_,_,q1.aj rfl,q1.aj rfl,q1.aj rfl,(SC ((aH9.still h0).env.still cZ) (hv.still cZ) (hs.still cZ) ok.Wg ok.eZ ok.len ok.run).mono ?_⟩;rintro e w3 ⟨xb,rfl,h3⟩;have sD:Still w3 w3.drew:=(Still.refl _).cK;have aKH:=h3.still.trans sD;refine .inl ⟨_,_,rfl,aB (λ_=>?_) (λhb=>by simp at hb;omega)⟩;refine⟨λwq=>Row wq w.heap.size 109 ⟨[.slice vp V'.length vc,.slice none 0 0,.int .i64 st]⟩,q1.still aKH,_,_,_,_,_,_,_,λwq hq=>hq.aj rfl,λwq hq=>hq.aj rfl,λwq hq=>hq.aj rfl,?_⟩;have AR:=r2.still aKH;refine aH5 (g:=w1.heap.size) (o:=0) AR (by simp) (by simp[Value.oneCell']) λw7 r7 m7 z7=>?_;refine⟨_,_,_,_,_,_,_,r7.aj rfl,r7.aj rfl,r7.aj rfl,none,0,vp,vc,rfl,aV.nil _ _ _ _,?_,(cZ.trans aKH).box (by omega) m7⟩;have hv7:=hv.still (cZ.trans aKH);refine dz.yw hv7 m7 λh0 a ha hk=>?_;obtain⟨a',cs,h1,h2⟩:=hv7.2.2.2 h0;rw[ha]at h1;obtain rfl:=bM h1;exact h2.ne AR (by decide) hk
def Ev(T:Tree):List (List L.Pt)->List A.Vr->List ag->List A.Vr->Nat->Prop
 |[],V,out,V',k=>out=[]/\V'=V/\k=0
 |ps::r,V,out,V',k=>∃V1 o1 k1,Eb T V ps o1 V1 k1/\(k1≠0/\out=o1/\V'=V1/\k=k1\/k1=0/\∃o2,Ev T r V1 o2 V' k/\out=o1++o2)
def b8(l:List ag):Nat:=(l.map λx=>x.length+1).sum
def we(l m:List ag):b8 (l++m)=b8 l+b8 m:=by simp[b8]
def DN(l:List ag):l.length<=b8 l:=by
 induction l with
 |nil=>simp[b8]
 |cons a r ih=>simp only[b8,fW,aIV,bf]at ih⊢;omega
def apf(aH9:fN w0)(h0:Still w0 w)(h:bF w w0 K s){ws:List (List L.Pt)}{p:Option Addr}{n c:Nat}{D:Nat->Prop}(hs:L.aKm.At w D ws (.slice p n c))(hD:Kept D (Ft K w) w){out:List ag}{V':List A.Vr}{k:Nat}(hf:Ev s.T ws s.V out V' k)(hsz:b8 out<=10000)(CD:ws.length<=10000)(he:s.err.length<=900000):
  aH3 aLw #[.pointer (some ⟨K.hb,0,none⟩),.slice p n c] w (λe w'=>(if k=0 then(∃o oc,e=.returned (.tuple #[.slice o out.length oc,.bool true])/\aV w' w.heap.size b6 1 (.slice o out.length oc) out.length (bI out)/\bF w' w0 K {s with V:=V'})else(e=.returned (.tuple #[.slice none 0 0,.bool false])/\bF w' w0 K (afJ {s with V:=V'} k)))/\cA (Ft K w) w (Ft K w') w'):=by
 obtain⟨rfl,hc⟩:=hs.len;refine akp _ _ _ _ _ _ ?_;refine⟨λo on oc size x w1=>∃(i:Nat) (l1 l2:List ag) (Vi:List A.Vr),x=(i:Int)/\i<=ws.length/\on=l1.length/\aV w1 w.heap.size b6 1 (.slice o on oc) on (bI l1)/\out=l1++l2/\size=(b8 l1:Int)/\bF w1 w0 K {s with V:=Vi}/\cA (Ft K w) w (Ft K w1) w1/\Ev s.T (ws.drop i) Vi l2 V' k,λ_ _ _ _ x _=>(ws.length-x).toNat,⟨0,[],out,s.V,rfl,dx _,rfl,aV.nil _ _ _ _,rfl,rfl,h,cA.refl _,hf⟩,?_⟩;rintro o _ oc _ x _ w1 ⟨i,l1,l2,Vi,rfl,hi,rfl,mj,rfl,rfl,h1,g1,hfi⟩;have qP:Still w0 w1:=Mod.trans h0 g1.mod (λ_ h=>h) λj hj hk=>by have:=(h.lt hk).1;omega
 refine aB (λhx=>?_) (λhx=>?_)
 .have hx:i<ws.length:=by have:=aT hx;omega
  rw[mI hx]at hfi;obtain⟨V1,o1,k1,hw1,uC⟩:=hfi;have hs1:=hs.mod g1.mod λj hj hk=>(hD j hj).2 hk;obtain⟨b,cs,rfl,Wh,⟨v,rfl,gT⟩,hcell⟩:=hs1.get (gJ hx);obtain⟨wp,wc,rfl⟩:=gT.form;have c0:w1.cell? (b.add (Int.toNat (i:Int)*1))=some (.slice wp ws[i].length wc):=by rw[bT];exact hcell 0 _ rfl
  obtain⟨wl,wcm,wk⟩:=hw1.wd;have hlo:b8 l1+b8 o1<=10000:=by
   rcases uC with⟨_,rfl,_⟩|⟨_,o2,_,rfl⟩
   .rw[we]at hsz;exact hsz
   .rw[we,we]at hsz;omega
  have hol:=DN o1;have EM:=DN l1;refine⟨λo' on' oc' size' bW=>k1=0/\on'=(l1++o1).length/\aV bW w.heap.size b6 1 (.slice o' on' oc') on' (bI (l1++o1))/\size'=(b8 (l1++o1):Int)/\bF bW w0 K {s with V:=V1}/\cA (Ft K w) w (Ft K bW) bW,⟨by omega,by omega,_,_,_,c0,(Zg w1 K gT wcm (by omega)).mono ?_⟩,?_⟩
  .rintro _ w2 ⟨rfl,s2⟩
   refine .inl ⟨_,_,_,_,rfl,aB (λh=>by cases h) (λ_=>?_)⟩;have sD:Still w2 w2.drew:=(Still.refl _).cK;have eN:=s2.trans sD;have h2:=h1.still eN;obtain⟨vp,vc,hh,hv⟩:=h2.aIx;have yU:=qP.trans eN;refine⟨λf fn fc st ex w9=>∃fb,st=some ⟨fb,0,none⟩/\fn=o1.length/\ex=(k1:Int)/\aV w9 w2.heap.size b6 1 (.slice f fn fc) fn (bI o1)/\Still w2 w9/\∃q qD,Row w9 fb 109 ⟨[.slice q V1.length qD,.slice none 0 0,.int .i64 s.st]⟩/\A.dz w9 q V1.length qD V1,⟨λwq=>Row wq K.hb fX ⟨iu K vp vc {s with V:=Vi}⟩,hh,_,λwq hq=>hq.aj rfl,_,_,_,_,_,_,_,λwq hq=>hq.aj rfl,λwq hq=>hq.aj rfl,λwq hq=>hq.aj rfl,?_,?_⟩,?_⟩
   .refine(aaM (st:=s.st) aH9 yU h2.dh h2.iM hv (gT.still eN) hw1).mono ?_
    rintro _ w3 ⟨f,fc,q,qD,rfl,aKb,NN,s3⟩;refine .inl ⟨_,_,_,_,_,_,_,_,_,_,_,rfl,aP λw4 r4 s4 z4=>⟨(hh.still s3).still s4,aH5 (g:=w3.heap.size) (o:=0) r4 (by simp) (by simp[Value.oneCell']) λw5 r5 m5 z5=>?_⟩⟩;have ET:Still w3 w5:=s4.box (aW _) m5;exact⟨w3.heap.size,rfl,rfl,rfl,aKb.still ET,(sD.trans s3).trans ET,q,qD,r5,NN.still ET⟩
   .refine aP λw6 r6 s6 z6=>⟨hh.still s6,(aaM (st:=s.st) aH9 (yU.trans s6) (h2.dh.still s6) (h2.iM.still s6) (hv.still s6) ((gT.still eN).still s6) hw1).mono ?_⟩
    rintro _ w7 ⟨f,fc,q,qD,rfl,aKb,NN,s7⟩;have IL:=r6.still s7;have hz:=s6.size;refine .inl ⟨_,_,_,_,_,_,_,_,_,_,_,rfl,aH5 (g:=w2.drew.heap.size) (o:=0) IL (by simp) (by simp[Value.oneCell']) λw8 r8 m8 z8=>?_⟩;refine⟨w2.heap.size,rfl,rfl,rfl,(aKb.base λj hj=>by have:=(aKb.lt j hj).1;have e:w2.drew.heap.size=w2.heap.size:=rfl;omega).mod m8 λj hj e=>aKb.cY IL (by decide) (by rw[hj,e]),((sD.trans s6).trans s7).box (aW _) m8,q,qD,r8,?_⟩;refine dz.yw NN m8 λh0 a ha hk=>?_;obtain⟨a',cs,h1,h2⟩:=NN.2.2.2 h0;rw[ha]at h1;obtain rfl:=bM h1;exact h2.ne IL (by decide) hk
   .rintro f _ fc _ _ _ w9 ⟨fb,rfl,rfl,rfl,aKb,s9,q,qD,Wi,I4⟩
    have lB:=s2.trans s9;have h9:=h1.still lB;have g9:=g1.trans (h1.gone lB);have Wj:=qP.trans lB;refine⟨λB4 x1 aO=>∃j:Nat,x1=(j:Int)/\j<=o1.length/\B4=(b8 l1+b8 (o1.take j):Nat)/\aO=w9,λ_ x1 _=>(o1.length-x1).toNat,⟨0,rfl,dx _,by simp[b8],rfl⟩,?_⟩;rintro _ _ _ aO ⟨j,rfl,hj,rfl,rfl⟩;have htk:b8 (o1.take j)<=b8 o1:=by
     conv=>rhs;rw[<-oQ j o1,we]
     omega
    refine aB (λhx1=>?_) (λhx1=>?_)
    .have hx1:j<o1.length:=by have:=aT hx1;omega
     obtain⟨gf,rfl,Wd⟩:=aKb.aKq hx1;have hts:b8 (o1.take (j+1))=b8 (o1.take j)+(o1[j].length+1):=by rw[ze hx1,we];simp[b8]
     have aGD:b8 (o1.take (j+1))<=b8 o1:=by
      conv=>rhs;rw[<-oQ (j+1) o1,we]
      omega
     refine⟨by omega,by omega,_,Wd,?_⟩;have e1:i64.wrap ((o1[j].length:Int)+1)=(o1[j].length:Int)+1:=wrap_i64 (by omega) (by omega)
     try dsimp only[zR]
     rw[e1,wrap_i64 (by omega) (by omega),wrap_i64 (by omega) (by omega)];exact⟨⟨j+1,by omega,by omega,by omega,rfl⟩,by(try dsimp only);omega⟩
    have hx1:j=o1.length:=by have:=a_ hx1;omega
    subst hx1;rw[oT]at htk⊢;refine⟨λex wq=>ex=(k1:Int)/\wq=aO,⟨λb wq=>b=false/\wq=aO,aB (λ_=>⟨aIl (by omega),rfl⟩) (λ_=>⟨rfl,rfl⟩),?_⟩,?_⟩
    .rintro _ _ aX ⟨rfl,rfl⟩
     exact aB (λh=>by cases h) (λ_=>⟨rfl,rfl⟩)
    rintro _ _ aH4 ⟨rfl,rfl⟩
    by_cases hk1:k1=0
    .subst hk1
     refine(acT aH4 K).mono ?_;rintro _ bl ⟨rfl,rfl⟩;refine .inl ⟨_,rfl,aB (λh=>by cases h) (λ_=>?_)⟩;refine⟨_,_,_,_,_,_,_,Wi.aj rfl,Wi.aj rfl,Wi.aj rfl,?_⟩;refine h9.setState I4 s.st λbH qc g14 m14=>?_;have UO:=g9.trans g14;have azA:w.heap.size<=bH.heap.size:=UO.mod.size;have Ij:aV bH w.heap.size b6 1 (.slice o l1.length oc) l1.length (bI l1):=(mj.still lB).mod g14.mod λj hj hk=>by obtain⟨cur,hr⟩:=(mj.still lB).typed hj;exact h9.apart hr (by decide) (by decide) (by decide) (by decide) (by decide) hk
     have ayq:aV bH w2.heap.size b6 1 (.slice f o1.length fc) o1.length (bI o1):=aKb.mod g14.mod λj hj hk=>by obtain⟨cur,hr⟩:=aKb.typed hj;exact h9.apart hr (by decide) (by decide) (by decide) (by decide) (by decide) hk
     refine qq Ij azA (bI o1) (by simp[bI]) (λu hu=>by obtain⟨x,_,rfl⟩:=eo.1 hu;rfl) (λhp=>(c_.of ayq).2 hp) (by omega) (by omega) λp' c' bQ NO m15 bk=>?_;refine⟨rfl,by simp,by rw[KS];exact NO,by rw[we],?_,?_⟩
     .refine⟨qc.toaJ_.mod m15 λj hj _=>?_,qc.dh.mod m15 λj hj hk=>?_⟩
      .obtain⟨cur,hr⟩:=Ij.typed hj
       have hfree:=qc.apart hr (by decide) (by decide) (by decide) (by decide) (by decide);refine⟨λe=>hfree (.inl e),λe=>hfree (.inr (.inr (.inr (.inl e)))),hr.ne qc.iM (by decide),aIY qc.fns hr,λt cs hr'=>?_⟩;have e:t=b6:=Fj λhne=>hr'.ne hr hne rfl;subst e;exact⟨by decide,by decide,by decide⟩
      .obtain⟨cur,hr⟩:=Ij.typed hk
       have hfree:=qc.apart hr (by decide) (by decide) (by decide) (by decide) (by decide);rcases hj with rfl|rfl|⟨t,ht,_⟩
       .exact hfree (.inr (.inl rfl))
       .exact hfree (.inr (.inr (.inl rfl)))
       .cases ht
     .refine⟨Mod.trans UO.mod m15 (λ_ h=>h) λj hj hk=>by have:=(Ij.lt j hk).1;omega,λj hj=>?_⟩
      have MV:¬(Value.slice o l1.length oc).ownBlock=some K.sb:=λe=>by obtain⟨cur,hr⟩:=Ij.typed e;exact qc.apart hr (by decide) (by decide) (by decide) (by decide) (by decide) (.inr (.inr (.inr (.inl rfl))))
      have:Ft K bH j:=by
       rcases hj with e|e
       .exact .inl e
       .exact .inr ((Fc.same λo=>qc.G1 m15 MV o).1 e)
      exact UO.new j this
    .refine(as6 aH9 Wj h9 k1 hk1 wk he).mono ?_
     rintro _ bl ⟨rfl,aKr,g13⟩;refine .inl ⟨_,rfl,aB (λ_=>?_) (λh=>by cases h)⟩;rcases uC with⟨_,rfl,rfl,rfl⟩|⟨e,_⟩
     .rcases hw1 with⟨e,_⟩|⟨_,_,_,_,rfl⟩
      .exact absurd e hk1
      .refine⟨?_,g9.trans g13⟩
       rw[aL hk1];exact⟨rfl,aKr⟩
     .exact absurd e hk1
  .rintro o' _ oc' _ _ bW ⟨hk1,rfl,Ik,rfl,aIH,g16⟩
   rw[wrap_i64 (by omega) (by omega)];rcases uC with⟨e,_⟩|⟨_,o2,hf2,rfl⟩
   .exact absurd hk1 e
   .exact⟨⟨i+1,l1++o1,o2,V1,by omega,by omega,rfl,Ik,by rw[mL],rfl,aIH,g16,hf2⟩,by dsimp only;omega⟩
 .have hx:i=ws.length:=by have:=a_ hx;omega
  subst hx;rw[vP]at hfi;obtain⟨rfl,rfl,rfl⟩:=hfi;refine⟨?_,g1⟩;rw[aR rfl,zl];exact⟨o,oc,rfl,mj,h1⟩
end Go.Proofs.YtihaaoehhgmphaaGreatDoor
namespace Go.Proofs.YtihaaoehhgmphaaGreatDoor
open IntKind Go.RowKit Vc
set_option maxRecDepth 100000
variable{w w0:World}
def aIj(w:World)(p:Option Addr)(c:Nat)(l:List ag):Prop:=l.length<=c/\(l≠[]->∃g o,p=some ⟨g,o,none⟩/\g<w.heap.size/\∀j u,(bI l)[j]?=some u->w.cell? ⟨g,o+j,none⟩=some u)
def aIj.still{p:Option Addr}{c:Nat}{l:List ag}{w':World}(h:aIj w p c l)(hm:Still w w'):aIj w' p c l:=⟨h.1,λhl=>by obtain⟨g,o,h1,h2,h3⟩:=h.2 hl;exact⟨g,o,h1,mK h2 hm.size,λj u hu=>hm.cell (h3 j u hu)⟩⟩
def aIj.of{B:Nat}{p:Option Addr}{c:Nat}{l:List ag}(h:aV w B b6 1 (.slice p l.length c) l.length (bI l)):aIj w p c l:=⟨aV.afC h,λhl=>by obtain⟨g,cap,cur,hv,_⟩:=h.row (mJ.2 hl);injection hv with e1 e2 e3;subst e1;exact⟨g,0,rfl,(h.lt g rfl).2,λj u hu=>by rw[cE];exact h.cells rfl j u hu⟩⟩
def aIj.tail{x:ag}{p:Option Addr}{c:Nat}{l:List ag}(h:aIj w p c (x::l)):aIj w (if c=Int.toNat 1 then p else Option.map (·.add (Int.toNat 1*1)) p) (c-Int.toNat 1) l:=by have hc:=h.1;simp only[bf]at hc;refine⟨by show l.length<=c-1;omega,λhl=>?_⟩;have:=mJ.2 hl;obtain⟨g,o,rfl,h2,h3⟩:=h.2 (by simp);rw[aL (by show¬c=1;omega)];refine⟨g,o+1,rfl,h2,λj u hu=>?_⟩;rw[show o+1+j=o+(j+1) by omega];exact h3 (j+1) u (by simpa[bI]using hu)
def aIj.get{p:Option Addr}{c:Nat}{l:List ag}(h:aIj w p c l){j:Nat}(hj:j<l.length):∃a,p=some a/\w.cell? (a.add (j*1))=some (.string (S l[j])):=by obtain⟨g,o,rfl,h2,h3⟩:=h.2 (mJ.1 (by omega));exact⟨_,rfl,by rw[eX,bR];exact h3 j _ (acM hj)⟩
def RH{p:Option Addr}{c:Nat}{l:List ag}(h:aIj w p c l)(sep:ag)(hl:l.length<=1000000)(hj:(Lib.join l sep).length<=140737488355328):
  aH3 zw #[.slice p l.length c,.string (S sep)] w (λe w'=>e=.returned (.string (S (Lib.join l sep)))/\Still w w'):=by
 by_cases h0:l=[]
 .subst h0
  refine(Tryz.strings_Join_none p c (S sep) w).mono ?_;rintro _ w' ⟨rfl,rfl⟩;exact⟨rfl,Still.refl _⟩
 .obtain⟨g,o,rfl,h2,h3⟩:=h.2 h0
  have hm:(l.map S).map (·.data.toList)=l:=by rw[Dm];exact QB l
  have hJ:=Tryz.strings_Join g o c (l.map S) (S sep) w (λj x hx=>by
   rw[vM]at hx;cases hj:l[j]? with
   |none=>rw[hj]at hx;cases hx
   |some y=>rw[hj]at hx;obtain rfl:=bM hx;exact h3 j _ (by simp[bI,hj])) h2 (by rw[aIB];omega) (by rw[aIB];exact h.1) (by rw[hm];exact hj)
  rw[aIB,hm]at hJ;refine hJ.mono ?_;rintro _ w' ⟨rfl,hb⟩;exact⟨rfl,Mod.Sa hb⟩
def R1(s:ag):aH3 aJk #[.string (S s)] w (λe w'=>e=.returned (.tuple #[.agg #[.int .i64 0,.string (S s),.string (S [])],.bool true])/\Still w w'):=by refine amU _ _ _ ?_;refine aP λw1 r1 s1 z1=>aH5 (g:=w.heap.size) (o:=0) r1 (by simp) (by simp[Value.oneCell']) λw2 r2 m2 z2=>?_;exact⟨_,_,_,r2.aj rfl,r2.aj rfl,r2.aj rfl,rfl,s1.box (aW _) m2⟩
def aI2(fn:FuncId)(args:List ag)(aG:ag)(st:Int)(out:ag):Prop:=∀(w:World) (p:Option Addr) (c:Nat),fN w->aIj w p c args->aH3 fn #[.slice p args.length c,.string (S aG)] w (λe w'=>e=.returned (.tuple #[.agg #[.int .i64 st,.string (S out),.string (S [])],.bool true])/\Still w w')
def abR{args:List ag}(aG:ag)(hl:args.length<=100000)(hj:(Lib.join args [32]).length<=1000000):aI2 Dp args aG 0 (Lib.join args [32]++[10]):=by intro w p c he h;refine amN _ _ _ _ _ _ ?_;refine aP λw1 r1 s1 z1=>(RH (h.still s1) [32] (by omega) (by omega)).mono ?_;rintro _ w2 ⟨rfl,s2⟩;refine .inl ⟨_,rfl,by simp;omega,(R1 _).mono ?_⟩;rintro _ w3 ⟨rfl,s3⟩;have r3:=(r1.still s2).still s3;refine .inl ⟨_,_,_,_,rfl,aH5 (g:=w.heap.size) (o:=0) r3 (by simp) (by simp[Value.oneCell']) λw4 r4 m4 z4=>?_⟩;exact⟨_,_,_,r4.aj rfl,r4.aj rfl,r4.aj rfl,rfl,((s1.trans s2).trans s3).box (aW _) m4⟩
def acU{l:List ag}{x:ag}(h:x∈l):x.length<=b8 l:=by
 induction l with
 |nil=>cases h
 |cons a r ih=>
  simp only[b8,fW,aIV]at ih⊢;rcases iQ.1 h with rfl|h
  .omega
  .have:=ih h;omega
def cR(s:ag):List ag:=if s=[]then[]else lX (Lib.trimSuffix s [10]) [10]
def QI(s t:ag):(Lib.trimSuffix s t).length<=s.length:=by
 unfold Lib.trimSuffix;split
 .simp
 .exact aW _
def Dy(s:ag):(cR s).length<=s.length+1:=by
 unfold cR;split
 .simp
 .have:=(K4 (Lib.trimSuffix s [10]) [10] (by decide)).2
  have:=QI s [10];omega
def tF(he:fN w){s:ag}(hs:s.length<=900000):aH3 zx #[.string (S s)] w (λe w'=>∃p c,e=.returned (.slice p (cR s).length c)/\aV w' w.heap.size b6 1 (.slice p (cR s).length c) (cR s).length (bI (cR s))/\Still w w'):=by
 refine amz _ _ _ ?_;refine aB (λh=>?_) (λh=>?_)
 .have e:cR s=[]:=aR (aT h)
  rw[e];exact⟨none,0,rfl,aV.nil _ _ _ _,Still.refl _⟩
 .have e:cR s=lX (Lib.trimSuffix s [10]) [10]:=aL (a_ h)
  refine(Tryz.strings_TrimSuffix (S s) (S [10]) w (by show s.length<=_;omega)).mono ?_;rintro _ w1 ⟨rfl,rfl⟩;have hl:=QI s [10];refine .inl ⟨Lib.trimSuffix s [10],rfl,(Ge he (by omega) (by decide)).mono ?_⟩;rintro _ w2 ⟨p,c,rfl,ho,s2⟩;rw[e];exact .inl ⟨_,_,_,rfl,p,c,rfl,ho,s2⟩
def qy(l:List ag):ag:=l.flatMap λx=>x++[10]
def aLb(l:List ag):(qy l).length=b8 l:=by
 induction l with
 |nil=>rfl
 |cons a r ih=>simp only[qy,oS,aIa,bf,cm,b8,fW,aIV]at ih⊢;omega
def RI{p:Option Addr}{c:Nat}{l:List ag}(h:aIj w p c l)(hl:b8 l<=10000000):aH3 zo #[.slice p l.length c] w (λe w'=>e=.returned (.string (S (qy l)))/\Still w w'):=by
 have hlen:=DN l;refine amd _ _ _ _ _ ?_;refine aP λw1 r1 s1 z1=>?_;refine⟨λx w2=>∃(k:Nat) (q:Option Addr) (v:Value),x=(k:Int)/\k<=l.length/\ef w2 86 w.heap.size 0 (w.heap.size+1) [.pointer q,v] v (qy (l.take k))/\Still w w2,λx _=>(l.length-x).toNat,⟨0,none,.slice none 0 0,rfl,dx _,ef.fresh r1 rfl rfl,s1⟩,?_⟩;rintro x _ w2 ⟨k,q,v,rfl,hk,hb,s2⟩;have l1:∀a b,mS 86 (([a,b]:List Value).length) 0:=λ_ _=>DE;have hB:=hb.row.lt;have htk:∀k,b8 (l.take k)<=b8 l:=λk=>by
  conv=>rhs;rw[<-oQ k l,we]
  omega
 refine aB (λhx=>?_) (λhx=>?_)
 .have hx:k<l.length:=by have:=aT hx;omega
  obtain⟨a,rfl,hcell⟩:=(h.still s2).get hx;have e1:qy (l.take (k+1))=qy (l.take k)++(l[k]++[10]):=by rw[qy,qy,ze hx,XM];rw[List.flatMap_singleton]
  have hlk:l[k].length<=b8 l:=acU (ou hx);have hjk:=aLb (l.take k);have aGE:=htk k;refine⟨by omega,by omega,_,by rw[bT];exact hcell,by simp;omega,?_⟩;refine(aKu hb (l1 _ _) (l[k]++[10]) hB (by simp;omega)).mono ?_;rintro _ w3 ⟨rfl,v',hb',m3⟩;refine .inl ⟨_,_,rfl,rfl,?_⟩;rw[wrap_i64 (by omega) (by omega)];refine⟨⟨k+1,_,v',by omega,by omega,by rw[e1];exact hb',Mod.trans s2 m3 (λ_ h=>h) λi hi e=>?_⟩,by dsimp only;omega⟩;rcases e with rfl|e
  .omega
  .have:=(hb.own.lt i e).1;omega
 .have hx:k=l.length:=by have:=a_ hx;omega
  subst hx;rw[oT]at hb;refine(xF hb (by rw[aLb];omega)).mono ?_;rintro _ w3 ⟨rfl,m3⟩;refine .inl ⟨_,rfl,rfl,Mod.trans s2 m3 (λ_ h=>h) λi hi e=>by have:=(hb.own.lt i e).1;omega⟩
def Q_{B:Nat}{p:Option Addr}{c:Nat}{l:List ag}(h:aV w B b6 1 (.slice p l.length c) l.length (bI l))(hl:b8 l<=10000000):aH3 zo #[.slice p l.length c] w (λe w'=>e=.returned (.string (S (qy l)))/\Still w w'):=RI (aIj.of h) hl
def aIj.drop{p:Option Addr}{c:Nat}{l:List ag}(h:aIj w p c l){k:Nat}(hk:k<=l.length):aIj w (if c=k then p else Option.map (·.add (k*1)) p) (c-k) (l.drop k):=by have hc:=h.1;refine⟨by rw[jx];omega,λhl=>?_⟩;have:=mJ.2 hl;rw[jx]at this;obtain⟨g,o,rfl,h2,h3⟩:=h.2 (mJ.1 (by omega));rw[aL (by omega)];refine⟨g,o+k,by simp[bR],h2,λj u hu=>?_⟩;rw[show o+k+j=o+(k+j) by omega];exact h3 (k+j) u (by simpa[bI,Bl]using hu)
def aIj.take{p:Option Addr}{c:Nat}{l:List ag}(h:aIj w p c l)(k:Nat):aIj w p c (l.take k):=⟨by rw[eH];have:=h.1;omega,λhl=>by
 obtain⟨g,o,e,h2,h3⟩:=h.2 (λe=>hl (by rw[e,List.take_nil]));refine⟨g,o,e,h2,λj u hu=>h3 j u ?_⟩;simp only[bI,vM,XA]at hu⊢;obtain⟨x,hx,rfl⟩:=hu;rw[zk]at hx;split at hx
 .exact⟨x,hx,rfl⟩
 .cases hx⟩
def aok:dP aM Qf=true:=by kernel_rfl
def am5{p:Option Addr}{c:Nat}{l:List ag}{f:FuncId}(hf:dP aM f=true)(h:aIj w p c l)(hl:l.length<=1000000)(hp:∀x∈l,∀w,aH3 f #[.string (S x)] w λe w'=>e=.returned (.bool false)/\w'=w):
  aH3 Ov #[.slice p l.length c,.func (.func f) #[] #[]] w (λe w'=>e=.returned (.bool false)/\w'=w):=by
 refine aju _ _ _ _ _ _ ?_;refine(show aH3 Ff #[.slice p l.length c,.func (.func f) #[] #[]] w (λe w'=>e=.returned (.int .i64 (-1))/\w'=w)from ?_).mono ?_
 .refine Xh _ _ _ _ _ _ ?_
  refine⟨λi w1=>(∃k:Nat,i=(k:Int)/\k<=l.length)/\w1=w,λi _=>(l.length-i).toNat,⟨⟨0,rfl,dx _⟩,rfl⟩,?_⟩;rintro _ _ w1 ⟨⟨k,rfl,hk⟩,rfl⟩;refine aB (λhx=>?_) (λ_=>⟨rfl,rfl⟩);have hx:k<l.length:=by have:=aT hx;omega
  obtain⟨a,rfl,hc⟩:=h.get hx;refine⟨by omega,by omega,_,by rw[bT];exact hc,zG (cap:=[]) (aB (λ_=>(hp _ (ou hx) w1).mono ?_) (λh=>by rw[hf]at h;cases h))⟩;rintro _ _ ⟨rfl,rfl⟩;refine .inl ⟨_,rfl,aB (λh=>by cases h) (λ_=>?_)⟩;rw[wrap_i64 (by omega) (by omega)];exact⟨⟨⟨k+1,by omega,by omega⟩,rfl⟩,by dsimp only;omega⟩
 .rintro _ _ ⟨rfl,rfl⟩
  exact .inl ⟨_,rfl,rfl,rfl⟩
def Zs{p:Option Addr}{c:Nat}{l:List ag}(h:aIj w p c l)(hl:l.length<=1)(x:ag):aH3 zf #[.slice p l.length c,.string (S x)] w (λe w'=>e=.returned (.bool (decide (x∈l)))/\w'=w):=by
 match l,hl,h with
 |[],_,h=>refine(Tryz.slices_Contains_string_empty p c (S x) w).mono ?_;rintro _ _ ⟨rfl,rfl⟩;exact⟨by simp,rfl⟩
 |[y],_,h=>
  obtain⟨g,o,rfl,h2,h3⟩:=h.2 (by simp);refine(Tryz.slices_Contains_string g o 1 c [S y] (S x) w (by simp) (by decide) (λj hj=>?_)).mono ?_
  .have:j=0:=by simpa using hj
   subst this;exact h3 0 _ rfl
  .rintro _ _ ⟨rfl,rfl⟩
   refine⟨?_,rfl⟩;have e:Lib.containsS [S y] (S x)=decide (x∈[y]):=by rw[r_,Lib.containsS_iff,Fv,aIA,aIA];exact⟨λh=>str_inj (gK Value.string h),λh=>by rw[h]⟩
   rw[vK (by simp),e]
def apg{B:Nat}{p:Option Addr}{c:Nat}{l:List ag}(h:aV w B b6 1 (.slice p l.length c) l.length (bI l))(hl:l.length<=1000000):
  aH3 Xn #[.slice p l.length c] w λe w'=>e=.returned (.tuple #[])/\aV w' B b6 1 (.slice p l.length c) l.length (bI l.reverse)/\Mod (λk=>(Value.slice p l.length c).ownBlock=some k) w w':=by
 by_cases h0:l.length=0
 .obtain rfl:=mH h0
  refine(Tryz.slices_Reverse_string_empty p c w).mono ?_;rintro _ _ ⟨rfl,rfl⟩;exact⟨rfl,by simpa using h,Mod.refl _ _⟩
 .obtain⟨g,cap,cur,hv,hb,⟨fz,hr,hf⟩,hc,hsz,ht⟩:=h.row (by omega)
  injection hv with e1 e2 e3;subst e1 e3;have hcap:c<=maxLen:=by
   rcases h.2 with⟨e,_⟩|⟨g',cap',cur',e,_,_,_,hm,_⟩
   .cases e
   .injection e with e1 e2 e3;omega
  rw[eX]at ht hsz;have hH:Sort.Holds Go.Proofs.encStr w g 0 l.toArray:=by
   intro j hj;have hj':j<l.length:=by simpa using hj
   have h1:cur.toList[j]?=(bI l)[j]?:=by rw[<-ht,Xu hj']
   refine⟨?_,?_⟩
   .have:=(show Row w g b6 cur from⟨fz,hr,hf⟩).cell j
    rw[cE,this,<-JI,h1];simp[bI,hj',Go.Proofs.encStr]
   .rw[cE]
    exact(show Row w g b6 cur from⟨fz,hr,hf⟩).frozen (by omega)
  refine(Tryz.slices_Reverse_string g 0 c l w hH (by omega)).mono ?_;rintro _ w' ⟨rfl,n,rfl⟩;rw[<-Go.Sort.grow_empty (Sort.putRow Go.Proofs.encStr (Sort.ahead w n) g 0 l.reverse.toArray)];have hg:=Go.grownBy_sorted (w:=w) (g:=g) (n:=n) (os:=#[]) l.reverse.toArray;refine⟨rfl,⟨by simp[KT],.inr ⟨g,c,_,rfl,hb,⟨fz,Go.heap_sorted _ hr,?_⟩,hc,hcap,by simp[Sort.putCells,hsz],?_⟩⟩,(Mod.refl _ _).grown hg λk hk=>.inl hk⟩
  .simpa[HY,Sort.putCells]using hf
  .have h2:=Go.take_putCells cur l.reverse (by rw[XQ];omega)
   rw[XQ]at h2;rw[eX];exact h2
def arl(b:UInt8)(k:Nat)(s:ag):b8 (Lib.splitK [b] 0 k s)<=s.length+1:=by
 induction k generalizing s with
 |zero=>simp[Lib.splitK,b8]
 |succ k ih=>
  rw[Lib.splitK];split
  .simp[b8]
  ·next h=>have hr:Lib.index s [b]≠-1:=λe=>h (by rw[e];rfl);have hg:=Lib.index_ge s [b];have hm:=Lib.index_room s [b] (by omega);have:=ih (s.drop ((Lib.index s [b]).toNat+1));simp only[b8,fW,aIV,eH,jx,bf,cm,cE,FO]at this hm⊢;omega
def aaN(s:ag)(b:UInt8):b8 (lX s [b])<=s.length+1:=arl b _ s
def acV{l l':List ag}(h:l.Perm l'):b8 l=b8 l':=by unfold b8;exact(h.map _).sum_nat
def xG(s:ag):b8 (cR s)<=s.length+1:=by
 unfold cR;split
 .simp[b8]
 ·next h=>have:=aaN (Lib.trimSuffix s [10]) 10;have:=QI s [10];omega
def HW(args:List ag)(aG:ag):ag:=qy (if args=[]then gY (cR aG)else(gY (cR aG)).reverse)
def R2{args:List ag}(ha:args=[]\/args=[[45,114]]){aG:ag}(hi:aG.length<=900000):aI2 Bo args aG 0 (HW args aG):=by
 intro w p c he h;have NG:args.length<=1:=by rcases ha with rfl|rfl<;>simp
 refine amQ _ _ _ _ _ _ ?_;refine aP λw1 r1 s1 z1=>?_;refine(am5 aok (h.still s1) (by omega) λx hx w=>?_).mono ?_
 .refine ame _ _ _ ?_
  rcases ha with rfl|rfl
  .cases hx
  .obtain rfl:=aIA.1 hx
   exact⟨rfl,rfl⟩
 rintro _ w1 ⟨rfl,rfl⟩;refine .inl ⟨_,rfl,aB (λh=>by cases h) (λ_=>?_)⟩;refine(tF (he.still s1) hi).mono ?_;rintro _ w2 ⟨p2,c2,rfl,o2,s2⟩;have I5:=Dy aG;refine .inl ⟨_,_,_,rfl,(abL o2 (by omega)).mono ?_⟩;rintro _ w3 ⟨rfl,o3,m3⟩;have s3:Still w1 w3:=Mod.trans s2 m3 (λ_ h=>h) λi hi e=>by have:=(o2.lt i e).1;omega
 refine .inl ⟨rfl,λq qL qC w7=>q=p2/\qL=(cR aG).length/\qC=c2/\w7=w3,?_,?_⟩
 .refine(Zs ((h.still s1).still s3) NG [45,117]).mono ?_
  rintro _ w7 ⟨rfl,rfl⟩;refine .inl ⟨_,rfl,aB (λhx=>?_) (λ_=>⟨rfl,rfl,rfl,rfl⟩)⟩;have:=aT hx;rcases ha with rfl|rfl<;>simp at this
 rintro q qL qC aKl w7 ⟨rfl,rfl,rfl,rfl⟩;refine⟨λaO=>aV aO w1.heap.size b6 1 (.slice q (cR aG).length qC) (cR aG).length (bI (if args=[]then gY (cR aG)else(gY (cR aG)).reverse))/\Still w1 aO,?_,?_⟩
 .refine(Zs ((h.still s1).still s3) NG [45,114]).mono ?_
  rintro _ w7 ⟨rfl,rfl⟩;refine .inl ⟨_,rfl,aB (λhx=>?_) (λhx=>?_)⟩
  .have hx:=aT hx
   have hne:args≠[]:=by rintro rfl;cases hx
   rw[aL hne];have o3':aV w7 w1.heap.size b6 1 (.slice q (gY (cR aG)).length qC) (gY (cR aG)).length (bI (gY (cR aG))):=by rw[aKX];exact o3
   have hr:=apg o3' (by rw[aKX];omega);rw[aKX]at hr;refine hr.mono ?_;rintro _ w8 ⟨rfl,o8,m8⟩;exact .inl ⟨rfl,o8,Mod.trans s3 m8 (λ_ h=>h) λi hi e=>by have:=(o3.lt i e).1;omega⟩
  .have hx:=a_ hx
   have aKp:args=[]:=by
    rcases ha with rfl|rfl;·rfl
    .simp at hx
   rw[aR aKp];exact⟨o3,s3⟩
 rintro VG aO ⟨aJL,iN⟩;have hlen:(if args=[]then gY (cR aG)else(gY (cR aG)).reverse).length=(cR aG).length:=by split<;>simp[aKX]
 have hfs:b8 (if args=[]then gY (cR aG)else(gY (cR aG)).reverse)<=aG.length+1:=by
  have hp:(if args=[]then gY (cR aG)else(gY (cR aG)).reverse).Perm (cR aG):=by
   split
   .exact Fs _ _
   .exact(Yb _).trans (Fs _ _)
  rw[acV hp];exact xG aG
 rw[<-hlen]at aJL;have hj:=Q_ aJL (by omega);rw[hlen]at hj;refine hj.mono ?_;rintro _ aX ⟨rfl,gU⟩;refine .inl ⟨_,rfl,(R1 _).mono ?_⟩;rintro _ aH4 ⟨rfl,eN⟩;have ey:=((r1.still iN).still gU).still eN;refine .inl ⟨_,_,_,_,rfl,aH5 (g:=w.heap.size) (o:=0) ey (by simp) (by simp[Value.oneCell']) λbl jE m13 vz=>?_⟩;exact⟨_,_,_,jE.aj rfl,jE.aj rfl,jE.aj rfl,rfl,(((s1.trans iN).trans gU).trans eN).box (aW _) m13⟩
def abS(args:List ag)(aG:ag):(HW args aG).length<=aG.length+1:=by
 unfold HW;rw[aLb];have hp:(if args=[]then gY (cR aG)else(gY (cR aG)).reverse).Perm (cR aG):=by
  split
  .exact Fs _ _
  .exact(Yb _).trans (Fs _ _)
 rw[acV hp];exact xG aG
def BD{B:Nat}{aX:World}{st0:Int}{o0 e0:ag}(s1:Still w aX)(r1:Row aX B 35 ⟨[.int .i64 st0,.string (S o0),.string (S e0)]⟩)(hB:w.heap.size<=B)(out:ag):
  aH3 aJk #[.string (S out)] aX (λed aH4=>(∃aIm:Int,∃aIu:List UInt8,∃gu:List UInt8,∃r4:Bool,ed=.returned (.tuple #[(.agg #[(.int .i64 aIm),(.string (S aIu)),(.string (S gu))]),(.bool r4)])/\cJ (Addr.mk B 0 none) (λ(w6:World)=>∃dK:Int,∃gb:List UInt8,∃gd:List UInt8,w6.cell? (Addr.mk B 0 none)=some (.int .i64 dK)/\w6.cell? (Addr.mk B 1 none)=some (.string (S gb))/\w6.cell? (Addr.mk B 2 none)=some (.string (S gd))/\
   (λe w'=>e=Ending.returned (.tuple #[.agg #[.int .i64 0,.string (S out),.string (S [])],.bool true])/\Still w w') (.returned (.tuple #[(.agg #[(.int .i64 dK),(.string (S gb)),(.string (S gd))]),(.bool r4)])) w6) 0 [(.int .i64 aIm),(.string (S aIu)),(.string (S gu))] aH4)\/(∃ch,ed=.panicked ch/\(λe w'=>e=Ending.returned (.tuple #[.agg #[.int .i64 0,.string (S out),.string (S [])],.bool true])/\Still w w') (.panicked ch) aH4)):=by
 refine(R1 out).mono ?_;rintro _ aH4 ⟨rfl,eN⟩;refine .inl ⟨_,_,_,_,rfl,aH5 (g:=B) (o:=0) (r1.still eN) (by simp) (by simp[Value.oneCell']) λbl jE m13 vz=>?_⟩;exact⟨_,_,_,jE.aj rfl,jE.aj rfl,jE.aj rfl,rfl,(s1.trans eN).box hB m13⟩
def abT(he:fN w){d:ag}{n:Nat}(hd:nT d=some n)(hl:d.length<=9){p:Option Addr}{c:Nat}(h:aIj w p c [[45,110],d]):
  aH3 Ky #[.slice p 2 c] w (λe w'=>e=.returned (.tuple #[.int .i64 n,.bool true])/\Still w w'):=by
 obtain⟨a,hp,h0⟩:=h.get (j:=0) (by simp);obtain⟨a',hp',h1⟩:=h.get (j:=1) (by simp);subst hp;obtain rfl:=bM hp';refine amV _ _ _ _ _ ?_;refine aB (λh=>by simp at h) (λ_=>aB (λ_=>⟨by decide,by decide,_,h0,?_⟩) (λh=>by simp at h));refine aB (λ_=>⟨by decide,by decide,_,h1,?_⟩) (λh=>by simp at h);refine(ZU he.env d (by omega)).mono ?_;rintro _ w1 ⟨⟨m,ok,rfl,hm⟩,s1⟩;rw[hd]at hm;obtain⟨rfl,rfl⟩:=hm;exact .inl ⟨_,_,rfl,rfl,s1⟩
def acW(l:List ag)(k:Nat):b8 (l.take k)<=b8 l:=by
 conv=>rhs;rw[<-oQ k l,we]
 omega
def Ls(l:List ag)(k:Nat):b8 (l.drop k)<=b8 l:=by
 conv=>rhs;rw[<-oQ k l,we]
 omega
def as7{d:ag}{n:Nat}(hd:nT d=some n)(hl:d.length<=9){aG:ag}(hi:aG.length<=900000):aI2 FQ [[45,110],d] aG 0 (qy ((cR aG).take n)):=by
 intro w p c he h;refine amO _ _ _ _ _ _ ?_;refine aP λw1 r1 s1 z1=>?_;refine(abT (he.still s1) hd hl (h.still s1)).mono ?_;rintro _ w2 ⟨rfl,s2⟩;refine .inl ⟨_,_,rfl,aB (λh=>by cases h) (λ_=>?_)⟩;have cZ:=s1.trans s2;refine(tF (he.still cZ) hi).mono ?_;rintro _ w3 ⟨p3,c3,rfl,o3,s3⟩;have hA:=aIj.of o3;have hc:=hA.1;have hfz:=xG aG;have e1:(if((cR aG).length:Int)<(n:Int)then((cR aG).length:Int)else(n:Int))=(((cR aG).take n).length:Int):=by rw[eH];split<;>omega
 refine .inl ⟨_,_,_,rfl,?_⟩
 try dsimp only[zR]
 rw[e1];refine⟨by omega,by rw[eH];omega,?_⟩;rw[bT];have iK:=cZ.trans s3;refine(RI (hA.take n) (by have:=acW (cR aG) n;omega)).mono ?_;rintro _ w4 ⟨rfl,s4⟩;refine .inl ⟨_,rfl,?_⟩;have iL:=iK.trans s4;have r4:=((r1.still s2).still s3).still s4;exact BD iL r4 (aW _) _
def as8{d:ag}{n:Nat}(hd:nT d=some n)(hl:d.length<=9)(hn:n<=1000000){aG:ag}(hi:aG.length<=900000):aI2 FR [[45,110],d] aG 0 (qy ((cR aG).drop ((cR aG).length-n))):=by
 intro w p c he h;refine amP _ _ _ _ _ _ ?_;refine aP λw1 r1 s1 z1=>?_;refine(abT (he.still s1) hd hl (h.still s1)).mono ?_;rintro _ w2 ⟨rfl,s2⟩;refine .inl ⟨_,_,rfl,aB (λh=>by cases h) (λ_=>?_)⟩;have cZ:=s1.trans s2;refine(tF (he.still cZ) hi).mono ?_;rintro _ w3 ⟨p3,c3,rfl,o3,s3⟩;have hA:=aIj.of o3;have hc:=hA.1;have hfz:=xG aG;have EM:=Dy aG;have e0:i64.wrap (((cR aG).length:Int)-(n:Int))=((cR aG).length:Int)-(n:Int):=wrap_i64 (by omega) (by omega);have e1:(if i64.wrap (((cR aG).length:Int)-(n:Int))>0 then i64.wrap (((cR aG).length:Int)-(n:Int))else 0)=(((cR aG).length-n:Nat):Int):=by rw[e0];split<;>omega
 refine .inl ⟨_,_,_,rfl,?_⟩
 try dsimp only[zR]
 rw[e1];refine⟨by omega,by omega,?_⟩;rw[bT];have iK:=cZ.trans s3;have Wk:=hA.drop (k:=(cR aG).length-n) (by omega);have hj:=RI Wk (by have:=Ls (cR aG) ((cR aG).length-n);omega);rw[jx]at hj;refine hj.mono ?_;rintro _ w4 ⟨rfl,s4⟩;refine .inl ⟨_,rfl,?_⟩;exact BD (iK.trans s4) (((r1.still s2).still s3).still s4) (aW _) _
def sw(c:Nat):Bool:=decide ((c:Int)=32)||(decide ((c:Int)=9)||decide ((c:Int)=10))
def yz(s:ag):Nat->Nat->Bool->Nat->Nat
 |0,_,_,n=>n
 |f+1,p,jG,n=>if p<s.length then yz s f (p+(Utf8.decode ⟨⟨s⟩⟩ p).2) (sw (Utf8.decode ⟨⟨s⟩⟩ p).1) (if jG&& !sw (Utf8.decode ⟨⟨s⟩⟩ p).1 then n+1 else n)else n
def au6{s:ag}{f p:Nat}{jG:Bool}{n:Nat}(h:¬p<s.length):yz s f p jG n=n:=by
 cases f with
 |zero=>rfl
 |succ f=>rw[yz,aL h]
def wG(s:ag):Nat:=yz s (s.length+1) 0 true 0
def aqa{s:ag}(hs:s.length<=900000):aH3 Qm #[.string (S s)] w (λe w'=>e=.returned (.int .i64 (wG s))/\wG s<=s.length/\Still w w'):=by
 refine amA _ _ _ ?_;refine l9 ?_;refine⟨λn jG w1=>∃(p f k:Nat),n=(k:Int)/\w1.heap[w.heap.size]?=some (.stringIter ⟨⟨s⟩⟩ p)/\s.length<p+f/\k<=p/\k<=s.length/\yz s f p jG k=wG s/\Still w w1,λ_ _ w1=>match w1.heap[w.heap.size]? with
  |some (.stringIter _ k)=>s.length-k
  |_=>0,⟨0,s.length+1,0,rfl,L.acL _ _,by omega,dx _,dx _,rfl,(Mod.refl _ _).alloc _⟩,?_⟩
 rintro _ jG _ w2 ⟨p,f,k,rfl,hk,hf,hkp,hks,hw,s2⟩;refine⟨rfl,s,p,hk,aB (λhx=>?_) (λhx=>?_)⟩;rotate_left
 .have hx:=a_ hx
  rw[au6 hx]at hw;exact⟨by rw[<-hw],by omega,s2⟩
 have hx:=aT hx;have h1:=Lib.decode_width_pos ⟨⟨s⟩⟩ p hx;refine l9 ?_;have s3:Still w (w2.iterAt w.heap.size ⟨⟨s⟩⟩ (p+(Utf8.decode ⟨⟨s⟩⟩ p).2)):=L.aaF s2 (aW _) _ _;have k3:(w2.iterAt w.heap.size ⟨⟨s⟩⟩ (p+(Utf8.decode ⟨⟨s⟩⟩ p).2)).heap[w.heap.size]?=some (.stringIter ⟨⟨s⟩⟩ (p+(Utf8.decode ⟨⟨s⟩⟩ p).2)):=Lib.iterAt_heap _ _ _ _ _ hk;obtain⟨f,rfl⟩:∃f',f=f'+1:=by
  cases f with
  |zero=>omega
  |succ f=>exact⟨f,rfl⟩
 rw[yz,aR hx]at hw;have on:∀(b:Bool) (m:Nat) (z:Int),b=sw (Utf8.decode ⟨⟨s⟩⟩ p).1->m=(if jG&& !sw (Utf8.decode ⟨⟨s⟩⟩ p).1 then k+1 else k)->z=(m:Int)->∀w4,w4=w2.iterAt w.heap.size ⟨⟨s⟩⟩ (p+(Utf8.decode ⟨⟨s⟩⟩ p).2)->
   (∃(p f k:Nat),z=(k:Int)/\w4.heap[w.heap.size]?=some (.stringIter ⟨⟨s⟩⟩ p)/\s.length<p+f/\k<=p/\k<=s.length/\yz s f p b k=wG s/\Still w w4)/\(match w4.heap[w.heap.size]? with
  |some (.stringIter _ k)=>s.length-k
  |_=>0)<(match w2.heap[w.heap.size]? with
  |some (.stringIter _ k)=>s.length-k
  |_=>0):=by
  rintro b m z rfl rfl rfl _ rfl;have hm:(if jG&& !sw (Utf8.decode ⟨⟨s⟩⟩ p).1 then k+1 else k)<=k+1:=by split<;>omega
  refine⟨⟨_,f,_,rfl,k3,by omega,by omega,by omega,hw,s3⟩,?_⟩;rw[k3,hk];show s.length-(p+(Utf8.decode ⟨⟨s⟩⟩ p).2)<s.length-p
  omega
 refine aB (λvA=>?_) (λvA=>?_)
 .have hb:sw (Utf8.decode ⟨⟨s⟩⟩ p).1=true:=by rw[sw,vA];rfl
  exact aB (λ_=>on true k _ hb.symm (by rw[hb];simp) rfl _ rfl) (λ_=>on true k _ hb.symm (by rw[hb];simp) rfl _ rfl)
 refine aB (λh9=>?_) (λh9=>?_)
 .have hb:sw (Utf8.decode ⟨⟨s⟩⟩ p).1=true:=by rw[sw,h9];simp
  exact aB (λ_=>on true k _ hb.symm (by rw[hb];simp) rfl _ rfl) (λ_=>on true k _ hb.symm (by rw[hb];simp) rfl _ rfl)
 have hb:sw (Utf8.decode ⟨⟨s⟩⟩ p).1=decide (((Utf8.decode ⟨⟨s⟩⟩ p).1:Int)=10):=by rw[sw,vA,h9];simp
 refine aB (λhw1=>aB (λh10=>?_) (λh10=>?_)) (λhw1=>?_)
 .refine on _ (k+1) _ hb.symm ?_ ?_ _ rfl
  .rw[hb,hw1,h10];rfl
  .rw[wrap_i64 (by omega) (by omega)];omega
 .refine on _ k _ hb.symm ?_ rfl _ rfl
  rw[hb,hw1,h10];rfl
 .refine on _ k _ hb.symm ?_ rfl _ rfl
  rw[hw1];rfl
def Wl(s:ag):ag:=Lib.join [Lib.itoa (Lib.countByte s 10),Lib.itoa (wG s),Lib.itoa s.length] [32]++[10]
def awp{aG:ag}(hi:aG.length<=900000):aI2 aLk [] aG 0 (Wl aG):=by
 intro w p c he h;refine anJ _ _ _ _ _ _ ?_;refine aP λw1 r1 s1 z1=>?_;refine(Tryz.strings_Count_one (S aG) 10 w1).mono ?_;rintro _ w1 ⟨rfl,rfl⟩;have hcb:Lib.countByte aG 10<=aG.length:=O9;refine .inl ⟨_,rfl,(aKW (he.still s1).env _ (by omega) (by show((Lib.countByte aG 10:Nat):Int)<_;omega)).mono ?_⟩;rintro _ w3 ⟨rfl,s3⟩;have iK:=s1.trans s3;refine .inl ⟨_,rfl,(aqa hi).mono ?_⟩;rintro _ w4 ⟨rfl,hwn,s4⟩;have iL:=iK.trans s4;refine .inl ⟨_,rfl,(aKW (he.still iL).env _ (by omega) (by omega)).mono ?_⟩;rintro _ w5 ⟨rfl,s5⟩;have od:=iL.trans s5;refine .inl ⟨_,rfl,(aKW (he.still od).env _ (by omega) (by omega)).mono ?_⟩;rintro _ w6 ⟨rfl,s6⟩;have oe:=od.trans s6;refine .inl ⟨_,rfl,aP λw7 r7 s7 z7=>?_⟩;have Wm:=oe.trans s7;refine⟨λ_=>False,?_,λ_ _ h=>h.elim⟩;refine aP λw8 r8 s8 z8=>?_;have vB:=Wm.trans s8;refine(RH (h.still vB) [32] (by simp) (by simp[Lib.join])).mono ?_;rintro _ w9 ⟨rfl,s9⟩;have r9:=r8.still s9;have aKc:=vB.trans s9;refine .inl ⟨_,rfl,(Tryz.slices_Index_string w7.heap.size 0 3 3 [S [45,108],S [45,119],S [45,99]] (S (Lib.join [] [32])) w9 (by simp) (by decide) λj hj=>?_).mono ?_⟩
 .have hj:j<3:=hj
  rw[cE]
  match j,hj with
  |0,_=>exact r9.aj rfl
  |1,_=>exact r9.aj rfl
  |2,_=>exact r9.aj rfl
 rintro _ w9 ⟨rfl,rfl⟩;refine .inl ⟨_,rfl,aB (λ_=>?_) (λh=>by simp at h)⟩;have hl:∀n:Int,0<=n->n<=900000->(Lib.itoa n).length<=21:=λn h1 h2=>Lib.itoa_length_le n (by omega) (by omega);have l1:=hl (Lib.countByte aG 10) (by omega) (by omega);have l2:=hl (wG aG) (by omega) (by omega);have l3:=hl aG.length (by omega) (by omega);have hjl:(Lib.join [Lib.itoa (Lib.countByte aG 10),Lib.itoa (wG aG),Lib.itoa aG.length] [32]).length<=100:=by simp[Lib.join];omega
 have rA:aIj w9 (some ⟨w6.heap.size,0,none⟩) 3 [Lib.itoa (Lib.countByte aG 10),Lib.itoa (wG aG),Lib.itoa aG.length]:=by have r7':=(r7.still s8).still s9;refine⟨by simp,λ_=>⟨_,_,rfl,r7'.lt,λj u hu=>?_⟩⟩;rw[cE];exact r7'.aj hu
 refine(RH rA [32] (by simp) (by omega)).mono ?_;rintro _ aX ⟨rfl,gU⟩;refine .inl ⟨_,rfl,by simp only[bf,cm];omega,?_⟩;exact BD (aKc.trans gU) ((((((((r1.still s3).still s4).still s5).still s6).still s7).still s8).still s9).still gU) (aW _) _
def awq{aG:ag}(hi:aG.length<=900000):(Wl aG).length<=100:=by
 have hcb:Lib.countByte aG 10<=aG.length:=O9;have hwn:wG aG<=aG.length:=by
  have key:∀f p jG n,n<=p->n<=aG.length->yz aG f p jG n<=aG.length:=by
   intro f
   induction f with
   |zero=>intro p jG n _ h;exact h
   |succ f ih=>
    intro p jG n h1 h2;rw[yz];split
    ·next hx=>
     have:=Lib.decode_width_pos ⟨⟨aG⟩⟩ p hx;have hm:(if jG&& !sw (Utf8.decode ⟨⟨aG⟩⟩ p).1 then n+1 else n)<=n+1:=by split<;>omega
     exact ih _ _ _ (by omega) (by omega)
    .exact h2
  exact key _ _ _ _ (aW _) (dx _)
 have hl:∀n:Int,0<=n->n<=900000->(Lib.itoa n).length<=21:=λn h1 h2=>Lib.itoa_length_le n (by omega) (by omega);have l1:=hl (Lib.countByte aG 10) (by omega) (by omega);have l2:=hl (wG aG) (by omega) (by omega);have l3:=hl aG.length (by omega) (by omega);simp[Wl,Lib.join];omega
def aIj.mod{D:Nat->Prop}{p:Option Addr}{c:Nat}{l:List ag}{w':World}(h:aIj w p c l)(hm:Mod D w w')(hd:∀a,p=some a->¬D a.block):aIj w' p c l:=⟨h.1,λhl=>by obtain⟨g,o,h1,h2,h3⟩:=h.2 hl;exact⟨g,o,h1,mK h2 hm.size,λj u hu=>(World.cell?_of_block (a:=⟨g,o+j,none⟩) (hm.block g h2 (hd _ h1))).trans (h3 j u hu)⟩⟩
def jO(x:ag)(r:List ag):Nat:=(r.takeWhile λy=>decide (y=x)).length
def acX(x:ag)(r:List ag):jO x r<=r.length:=(XB _).length_le
def aaO{x:ag}:∀{r:List ag} {k:Nat},k<=jO x r->(hk:k<r.length)->(r[k]=x->k+1<=jO x r)/\(r[k]≠x->k=jO x r)
 |[],k,_,hk=>absurd hk (Nat.not_lt_zero _)
 |y::r,k,h,hk=>by
  unfold jO at h⊢;rw[aLj]at h⊢
  by_cases e:y=x
  .rw[aR (fV e)]at h⊢
   cases k with
   |zero=>exact⟨λ_=>by simp,λh=>absurd e h⟩
   |succ k=>have:=aaO (x:=x) (r:=r) (k:=k) (by simpa[jO]using h) (by simpa using hk);simp only[jO,List.getElem_cons_succ,bf]at this⊢;exact⟨λh=>by have:=this.1 h;omega,λh=>by have:=this.2 h;omega⟩
  .rw[aL (by simpa using e)]at h⊢
   have:k=0:=by simpa using h
   subst this;exact⟨λh=>absurd h e,λ_=>rfl⟩
def Ec(c:Bool)(n:Nat)(x:ag):ag:=(if c then Lib.itoa n++[32]else[])++(x++[10])
def wK(c:Bool):Nat->List ag->ag
 |0,_=>[]
 |_+1,[]=>[]
 |f+1,x::r=>Ec c (jO x r+1) x++wK c f (r.drop (jO x r))
def Mt(c:Bool)(s:ag):ag:=wK c (cR s).length (cR s)
def as9{c:Bool}{n:Nat}{x:ag}(h:n<=1000000):(Ec c n x).length<=x.length+23:=by have:=Lib.itoa_length_le (n:Int) (by omega) (by omega);unfold Ec;cases c<;>simp<;>omega
def R3{c:Bool}:∀(f:Nat) (l:List ag),l.length<=999999->(wK c f l).length<=23*b8 l
 |0,_,_=>dx _
 |_+1,[],_=>dx _
 |f+1,x::r,h=>by
  have hs:=acX x r;simp only[bf]at h;have h1:=as9 (c:=c) (n:=jO x r+1) (x:=x) (by omega);have h2:=R3 f (r.drop (jO x r)) (by rw[jx];omega) (c:=c);have h3:=Ls r (jO x r);have h4:b8 (x::r)=x.length+1+b8 r:=by simp[b8]
  rw[wK,aIa,h4];omega
def as_{c:Bool}{p:Option Addr}{cp:Nat}(h:aIj w p cp (if c then[[45,99]]else[])){g:Nat}(hr:Row w g b6 ⟨[.string (S [45,99])]⟩):aH3 Xo #[.slice p (if c then[[45,99]]else[]:List ag).length cp,.slice (some ⟨g,0,none⟩) 1 1] w (λe w'=>e=.returned (.bool c)/\Still w w'):=by
 cases c with
 |false=>refine(Tryz.slices_Equal_string_lens p (some ⟨g,0,none⟩) 0 cp 1 1 w (by decide)).mono ?_;rintro _ _ ⟨rfl,rfl⟩;exact⟨rfl,Still.refl _⟩
 |true=>
  obtain⟨ga,o,rfl,h2,h3⟩:=h.2 (by simp);refine(Tryz.slices_Equal_string ga o 1 cp g 0 1 1 [S [45,99]] [S [45,99]] w (by simp) (by simp) (by decide) (by decide) (λj hj=>?_) (λj hj=>?_)).mono ?_
  .have:j=0:=by simpa using hj
   subst this;exact h3 0 _ rfl
  .have:j=0:=by simpa using hj
   subst this;exact hr.aj rfl
  .rintro _ _ ⟨rfl,q,rfl⟩
   exact⟨by simp,by rw[<-Go.Sort.grow_empty (w.drewN q)];exact aaA w q #[]⟩
def abU(c:Bool){aG:ag}(hi:aG.length<=90000):aI2 Dq (if c then[[45,99]]else[]) aG 0 (Mt c aG):=by
 intro w p cp he h;refine amR _ _ _ _ _ _ ?_;refine aP λw1 r1 s1 z1=>?_;refine aP λw2 r2 s2 z2=>?_;have cZ:=s1.trans s2;refine(as_ (h.still cZ) r2).mono ?_;rintro _ w3 ⟨rfl,s3⟩;have iK:=cZ.trans s3;refine .inl ⟨_,rfl,λw5=>w5=w3,⟨λb w4=>b=false/\w4=w3,?_,?_⟩,?_⟩
 .cases c with
  |false=>exact aB (λh=>by simp at h) (λ_=>⟨rfl,rfl⟩)
  |true=>exact aB (λ_=>⟨rfl,rfl⟩) (λh=>by simp at h)
 .rintro _ _ w4 ⟨rfl,rfl⟩
  exact aB (λh=>by cases h) (λ_=>rfl)
 rintro _ w5 rfl;refine aP λw6 r6 s6 z6=>?_;have oe:=iK.trans s6;refine(tF (he.still oe) (by omega)).mono ?_;rintro _ w7 ⟨p7,c7,rfl,o7,s7⟩;have I5:=Dy aG;have hfz:=xG aG;have hul:=R3 (c:=c) (cR aG).length (cR aG) (by omega);obtain⟨L,hL⟩:∃L,L=cR aG:=⟨_,rfl⟩;unfold Mt;rw[<-hL]at o7 I5 hfz hul⊢;have l1:∀a b,mS 86 (([a,b]:List Value).length) 0:=λ_ _=>DE;have hblk:∀a,p7=some a->L≠[]->∃cs,Row w7 a.block b6 cs:=λa ha hne=>by obtain⟨gr,cap,cur,hv,_,hrow,_⟩:=o7.row (mJ.2 hne);injection hv with e1 e2 e3;rw[ha]at e1;obtain rfl:=bM e1;exact⟨_,hrow⟩
 refine .inl ⟨_,_,_,rfl,λq qL qC w8=>∃(l:List ag) (f:Nat) (t:ag) (bq:Option Addr) (v:Value),qL=l.length/\l.length<=f/\b8 l<=b8 L/\aIj w8 q qC l/\(∀a,q=some a->l≠[]->∃cs,Row w8 a.block b6 cs)/\ef w8 86 w5.heap.size 0 (w5.heap.size+1) [.pointer bq,v] v t/\t++wK c f l=wK c L.length L/\Row w8 w.heap.size 35 ⟨[.int .i64 0,.string (S []),.string (S [])]⟩/\Still w w8,
  λ_ n _ _=>n,⟨L,L.length,[],none,.slice none 0 0,rfl,aW _,aW _,aIj.of o7,hblk,(ef.fresh r6 rfl rfl).still s7,rfl,(((r1.still s2).still s3).still s6).still s7,oe.trans s7⟩,?_⟩
 rintro q _ qC _ w8 ⟨l,f,t,bq,v,rfl,hlf,hlz,ha,hty,hb,ht,EV,s8⟩;have aGF:=s8.size;have hB:=hb.row.lt;have aGG:=iK.size;have htl:t.length<=23*b8 L:=by have:=gK List.length ht;rw[aIa]at this;omega
 have EP:∀{wx:World} {vx:Value} {tx:ag} {bx:Option Addr},ef wx 86 w5.heap.size 0 (w5.heap.size+1) [.pointer bx,vx] vx tx->∀{k:Nat} {cs:Array Value},Row wx k b6 cs->¬(k=w5.heap.size\/vx.ownBlock=some k):=λhb k cs hr hk=>by
  rcases hk with rfl|e
  .exact hr.ne hb.row (by decide) rfl
  .obtain⟨cur,h2⟩:=hb.own.typed e
   exact hr.ne h2 (by decide) rfl
 have NH:∀{wx wy:World} {vx:Value} {tx:ag} {bx:Option Addr},Still w wx->ef wx 86 w5.heap.size 0 (w5.heap.size+1) [.pointer bx,vx] vx tx->Mod (λk=>k=w5.heap.size\/vx.ownBlock=some k) wx wy->Still w wy:=λhs hb hm=>Mod.trans hs hm (λ_ h=>h) λi hi e=>by
  rcases e with rfl|e
  .omega
  .have:=(hb.own.lt i e).1;omega
 have Wn:∀{wx:World} {vx:Value} {tx:ag} {bx:Option Addr},ef wx 86 w5.heap.size 0 (w5.heap.size+1) [.pointer bx,vx] vx tx->∀{k:Nat} {cs:Array Value},Row wx k 35 cs->¬(k=w5.heap.size\/vx.ownBlock=some k):=λhb k cs hr hk=>by
  rcases hk with rfl|e
  .exact hr.ne hb.row (by decide) rfl
  .obtain⟨cur,h2⟩:=hb.own.typed e
   exact hr.ne h2 (by decide) rfl
 refine aB (λhx=>?_) (λhx=>?_);rotate_left
 .have hl0:l=[]:=by
   cases l with
   |nil=>rfl
   |cons x r=>have:=a_ hx;simp only[bf]at this;omega
  subst hl0;have ht:t=wK c L.length L:=by rw[<-ht];cases f<;>simp[wK]
  refine(xF hb (by omega)).mono ?_;rintro _ bQ ⟨rfl,azB⟩;have m15:Mod (λk=>k=w5.heap.size\/v.ownBlock=some k) w8 bQ:=azB.weaken λ_ h=>.inr h;have aJM:=NH s8 hb m15;rw[<-ht];exact .inl ⟨_,rfl,BD aJM (EV.mod m15 (Wn hb EV)) (aW _) _⟩
 obtain⟨x,r,rfl⟩:∃x r,l=x::r:=by
  cases l with
  |nil=>simp at hx
  |cons x r=>exact⟨x,r,rfl⟩
 obtain⟨f,rfl⟩:∃f',f=f'+1:=by
  cases f with
  |zero=>simp at hlf
  |succ f=>exact⟨f,rfl⟩
 obtain⟨qa,rfl,hc0⟩:=ha.get (j:=0) (by simp);have hfx:b8 (x::r)=x.length+1+b8 r:=by simp[b8]
 have hlr:=DN (x::r);simp only[bf]at hlr hlf;have hsn:=acX x r;refine⟨λn w9=>∃k:Nat,n=((k+1:Nat):Int)/\k<=jO x r/\Still w8 w9,λn _=>((r.length:Int)+1-n).toNat,⟨0,rfl,dx _,Still.refl _⟩,?_⟩;rintro _ _ w9 ⟨k,rfl,hk,s9⟩;have sD:Still w9 w9.drew:=(Still.refl _).cK;refine⟨λb aO=>(b=true->k+1<=jO x r)/\(b=false->k=jO x r)/\aO=w9.drew,?_,?_⟩
 .refine aB (λhlt=>?_) (λhge=>?_)
  .have hlt:=aT hlt
   simp only[bf]at hlt;have hkr:k<r.length:=by omega
   obtain⟨qa',e,hck⟩:=(ha.still s9).get (j:=k+1) (by simp;omega);obtain rfl:=bM e;have hst:=aaO hk hkr;refine⟨by omega,by simp;omega,_,by rw[bT];exact hck,by decide,by simp,_,s9.cell hc0,λh=>hst.1 (aT h),λh=>hst.2 (a_ h),rfl⟩
  .have hge:=a_ hge
   simp only[bf]at hge;exact⟨λh=>(by cases h),λ_=>(by omega),rfl⟩
 rintro b _ aO ⟨sZ,A5,rfl⟩;refine aB (λjg=>?_) (λhb0=>?_)
 .have:=sZ jg
  rw[wrap_i64 (by omega) (by omega)];exact⟨⟨k+1,by omega,this,s9.trans sD⟩,by dsimp only;omega⟩
 have hkk:=A5 hb0;subst hkk;have sA:=s9.trans sD;have haA:=ha.still sA;have hbA:=hb.still sA;have azC:∃cs,Row w9.drew qa.block b6 cs:=by obtain⟨cs,h⟩:=hty qa rfl (by simp);exact⟨cs,h.still sA⟩
 obtain⟨csA,NP⟩:=azC;have UP:=EV.still sA;have ht':t++(Ec c (jO x r+1) x++wK c f (r.drop (jO x r)))=wK c L.length L:=ht;have hon:t.length+(Ec c (jO x r+1) x).length<=23*b8 L:=by have:=gK List.length ht';simp only[aIa]at this;omega
 refine⟨λbl=>∃(bq:Option Addr) (v:Value) (t1:ag),t1=t++(if c then Lib.itoa ((jO x r+1:Nat):Int)++[32]else[])/\ef bl 86 w5.heap.size 0 (w5.heap.size+1) [.pointer bq,v] v t1/\aIj bl (some qa) qC (x::r)/\(∃cs,Row bl qa.block b6 cs)/\Row bl w.heap.size 35 ⟨[.int .i64 0,.string (S []),.string (S [])]⟩/\Still w bl,?_,?_⟩
 .cases c with
  |false=>exact aB (λh=>by cases h) (λ_=>⟨bq,v,t,by simp,hbA,haA,⟨_,NP⟩,UP,s8.trans sA⟩)
  |true=>refine aB (λ_=>?_) (λh=>by cases h);refine(aKW ((he.still s8).still sA).env _ (by omega) (by omega)).mono ?_;rintro _ aX ⟨rfl,gU⟩;have hil:=Lib.itoa_length_le ((jO x r+1:Nat):Int) (by omega) (by omega);have Ew:=hbA.still gU;refine .inl ⟨_,rfl,by simp only[bf,cm];omega,(aKu Ew (l1 _ _) _ (by have:=Ew.row.lt;omega) (by rw[aIa];simp only[bf,cm];omega)).mono ?_⟩;rintro _ aH4 ⟨rfl,v',hb',m12⟩;refine .inl ⟨_,_,rfl,rfl,_,_,_,rfl,hb',(haA.still gU).mod m12 λa e=>?_,⟨_,(NP.still gU).mod m12 (EP Ew (NP.still gU))⟩,(UP.still gU).mod m12 (Wn Ew (UP.still gU)),NH ((s8.trans sA).trans gU) Ew m12⟩;obtain rfl:=bM e;exact EP Ew (NP.still gU)
 rintro _ bl ⟨bq1,v1,t1,ht1,Ex,agU,⟨azD,Ey⟩,afK,gy⟩;obtain⟨qa',e,azE⟩:=agU.get (j:=0) (by simp);obtain rfl:=bM e;have aGH:t1.length<=t.length+22:=by
  have hil:=Lib.itoa_length_le ((jO x r+1:Nat):Int) (by omega) (by omega);rw[ht1,aIa];split
  .rw[aIa];simp only[bf,cm];omega
  .simp only[cm];omega
 refine⟨by decide,by simp,_,azE,by simp;omega,(aKu Ex (l1 _ _) (x++[10]) (by have:=Ex.row.lt;omega) (by simp;omega)).mono ?_⟩;rintro _ bH ⟨rfl,v',hb',m14⟩;have azF:=agU.mod m14 λa e=>by obtain rfl:=bM e;exact EP Ex Ey
 have UQ:=Ey.mod m14 (EP Ex Ey);refine .inl ⟨_,_,rfl,rfl,by omega,by simp;omega,?_,by dsimp only;simp;omega⟩;rw[bT];have Wk:=azF.drop (k:=jO x r+1) (by simp;omega);have Nj:=Ls r (jO x r);refine⟨r.drop (jO x r),f,_,_,_,by simp,by rw[jx];omega,by omega,Wk,λa e _=>?_,hb',?_,afK.mod m14 (Wn Ex afK),NH gy Ex m14⟩
 .refine⟨azD,?_⟩
  have:a.block=qa.block:=by
   split at e
   .obtain rfl:=bM e;rfl
   .obtain rfl:=bM e;rfl
  rw[this];exact UQ
 .rw[<-ht',ht1,Ec]
  simp only[mL]
def aol:dP aM Kl=true:=by kernel_rfl
def hasB(b:UInt8)(x:ag):Bool:=decide (0<=Lib.indexByte x b)
def As(b:UInt8)(s:ag):List ag:=(cR s).filter λx=>hasB b x
def RJ(f:ag->Bool):∀l:List ag,b8 (l.filter f)<=b8 l
 |[]=>aW _
 |x::r=>by
  have:=RJ f r;simp only[b8]at this;rw[PU];split
  .simp only[b8,fW,aIV];omega
  .simp only[b8,fW,aIV];omega
def ata(b:UInt8){aG:ag}(hi:aG.length<=900000):aI2 FT [[b]] aG (if As b aG=[]then 1 else 0) (qy (As b aG)):=by
 intro w p cp he h;obtain⟨ga,oa,rfl,hlt,hcl⟩:=h.2 (by simp);have hc0:w.cell? (Addr.mk ga oa none)=some (.string (S [b])):=hcl 0 _ rfl;refine amS _ _ _ _ _ _ ?_;refine aP λw1 r1 s1 z1=>?_;refine aP λw2 r2 s2 z2=>?_;have cZ:=s1.trans s2;have ra2:=r1.still s2;refine⟨λq w7=>q=some ⟨w2.heap.size,0,none⟩/\Row w7 w2.heap.size 4 ⟨[.bool false]⟩/\Still w2 w7,⟨_,_,_,ra2.aj rfl,aB (λh=>by simp at h) (λ_=>?_)⟩,?_⟩
 .refine aP λw5 r5 s5 z5=>aH5 (g:=w2.heap.size) (o:=0) r5 (by simp) (by simp[Value.oneCell']) λw6 r6 m6 z6=>?_
  exact⟨rfl,r6,s5.box (aW _) m6⟩
 rintro _ _ w7 ⟨rfl,r7,s7⟩;have ra7:=ra2.still s7;refine⟨λw9=>w9=w7,⟨λb w8=>b=false/\w8=w7,⟨_,_,_,ra7.aj rfl,aB (λh=>by simp at h) (λ_=>⟨rfl,rfl⟩)⟩,?_⟩,?_⟩
 .rintro _ _ w8 ⟨rfl,rfl⟩
  exact aB (λh=>by cases h) (λ_=>rfl)
 rintro _ w9 rfl;have aKc:=cZ.trans s7;refine(tF (he.still aKc) hi).mono ?_;rintro _ aO ⟨qQ,EW,rfl,aJL,iN⟩;have I5:=Dy aG;have hfz:=xG aG;have qF:=aKc.trans iN;have CC:=aKc.size;have aGI:=s7.size;have agK:=cZ.size;have azG:=ra7.still iN;have azH:=r7.still iN;have hcA:aO.cell? (Addr.mk ga oa none)=some (.string (S [b])):=qF.cell hc0;have hpf:TR Kl [.pointer (some ⟨w.heap.size,0,none⟩),.pointer (some ⟨w2.heap.size,0,none⟩)] aO (λk=>(Value.slice qQ (cR aG).length EW).ownBlock=some k) (λx=>!hasB b x) (cR aG):=by
  refine⟨aol,λx hx wa ma=>?_⟩;have sD:Still wa wa.drew:=(Still.refl _).cK;have mD:Mod (λk=>(Value.slice qQ (cR aG).length EW).ownBlock=some k) aO wa.drew:=ma.trans sD (λ_ h=>h) (λ_ _ h=>h.elim);have low:∀k,k<w9.heap.size->¬(Value.slice qQ (cR aG).length EW).ownBlock=some k:=λk hk e=>by have:=(aJL.lt k e).1;omega
  have q1:=azG.mod mD (low _ (by have:=r7.lt;have:=r1.lt;omega));have q2:=azH.mod mD (low _ r7.lt);have q3:wa.drew.cell? (Addr.mk ga oa none)=some (.string (S [b])):=(World.cell?_of_block (a:=⟨ga,oa,none⟩) (mD.block ga (by have:=qF.size;omega) (low _ (by omega)))).trans hcA;refine amf _ _ _ _ _ ?_;refine⟨λwq=>Row wq w.heap.size 25 ⟨[.slice (some ⟨ga,oa,none⟩) 1 cp]⟩/\Row wq w2.heap.size 4 ⟨[.bool false]⟩/\wq.cell? (Addr.mk ga oa none)=some (.string (S [b])),⟨q1,q2,q3⟩,_,_,_,λwq hq=>hq.1.aj rfl,_,_,_,λwq hq=>hq.1.aj rfl,by decide,by decide,_,λwq hq=>hq.2.2,_,λwq hq=>hq.2.1.aj rfl,?_⟩;refine(Tryz.strings_Contains_one (S x) b wa.drew).mono ?_;rintro _ wb ⟨rfl,rfl⟩;refine .inl ⟨_,rfl,⟨q1,q2,q3⟩,?_,sD⟩;show Ending.returned (.bool (decide (hasB b x=false)))=.returned (.bool (!hasB b x))
  cases hasB b x<;>rfl
 refine .inl ⟨_,_,_,rfl,(YZ (by omega) aJL hpf).mono ?_⟩;rintro _ aX ⟨rfl,rX,m11⟩;have rS:((cR aG).filter λx=>!!hasB b x)=As b aG:=by unfold As;congr 1;funext x;exact Bool.not_not _
 rw[rS]at rX⊢;have agV:Still w aX:=Mod.trans qF m11 (λ_ h=>h) λi hi e=>by have:=(aJL.lt i e).1;omega
 have agW:Row aX w1.heap.size 35 ⟨[.int .i64 0,.string (S []),.string (S [])]⟩:=((r2.still s7).still iN).mod m11 λe=>by have:=(aJL.lt _ e).1;have:=r2.lt;omega
 have hB:w.heap.size<=w1.heap.size:=s1.size;refine .inl ⟨_,_,_,rfl,aB (λh0=>?_) (λh0=>?_)⟩
 .have h0:As b aG=[]:=mH (by have:=aT h0;omega)
  rw[aR h0,h0];refine aH5 (g:=w1.heap.size) (o:=0) agW (by simp) (by simp[Value.oneCell']) λaH4 ey m12 z12=>?_;exact⟨_,_,_,ey.aj rfl,ey.aj rfl,ey.aj rfl,rfl,agV.box hB m12⟩
 .have h0:As b aG≠[]:=λe=>by
   have:=a_ h0;rw[e]at this;exact this rfl
  rw[aL h0];have hgz:=RJ (λx=>hasB b x) (cR aG);refine(Q_ rX (by unfold As;omega)).mono ?_;rintro _ bl ⟨rfl,gy⟩;exact .inl ⟨_,rfl,BD (agV.trans gy) (agW.still gy) hB _⟩
def nX(b:UInt8)(x:ag):ag:=if(lX x [b]).length=1 then x else(lX x [b]).headD []
def acY(b:UInt8)(x:ag):(nX b x).length<=x.length:=by
 unfold nX;split
 .exact aW _
 .have:=aaN x b
  cases h:lX x [b]with
  |nil=>exact dx _
  |cons y r=>rw[h]at this;simp only[b8,fW,aIV,List.headD_cons]at this⊢;omega
def Tj(f:ag->ag)(hf:∀x,(f x).length<=x.length):∀l:List ag,b8 (l.map f)<=b8 l
 |[]=>aW _
 |x::r=>by have:=Tj f hf r;have:=hf x;simp only[b8,fW,aIV]at*;omega
def UR(b:UInt8)(s:ag):ag:=qy ((cR s).map (nX b))
def oC(f:ag->ag)(l:List ag)(k:Nat):List ag:=(l.take k).map f++l.drop k
def SD(f:ag->ag)(l:List ag){k:Nat}(h:k<=l.length):(oC f l k).length=l.length:=by simp[oC];omega
def au7(f:ag->ag)(l:List ag){k:Nat}(h:k<l.length):(oC f l k)[k]'(by rw[SD f l (by omega)];exact h)=l[k]:=by have hm:min k l.length=k:=vR (Dn h);simp only[oC];rw[List.getElem_append_right (by simp[hm])];simp[hm]
def atb(f:ag->ag)(l:List ag){k:Nat}(h:k<l.length):oC f l (k+1)=(oC f l k).set k (f l[k]):=by
 have hm:min k l.length=k:=vR (Dn h);simp only[oC];rw[ze h,qX,C4 _ _ (by simp[hm])];have e:(l.drop k).set (k-((l.take k).map f).length) (f l[k])=f l[k]::l.drop (k+1):=by rw[aIB,eH,hm,Ku,mI h];rfl
 rw[e];simp
def atc(f:ag->ag)(l:List ag){k:Nat}(h:k<l.length)(hf:f l[k]=l[k]):oC f l (k+1)=oC f l k:=by simp only[oC];rw[ze h,qX,mI h];simp[hf]
def au8(b:UInt8){aG:ag}(hi:aG.length<=800000):aI2 FW [[45,100],[b],[45,102],[49]] aG 0 (UR b aG):=by
 intro w p cp he h;refine anf _ _ _ _ _ _ ?_;refine aP λw1 r1 s1 z1=>?_;have h1:=h.still s1;obtain⟨a,rfl,c0⟩:=h1.get (j:=0) (by simp);obtain⟨a',e,c1⟩:=h1.get (j:=1) (by simp);obtain rfl:=bM e;obtain⟨a',e,c2⟩:=h1.get (j:=2) (by simp);obtain rfl:=bM e;obtain⟨a',e,c3⟩:=h1.get (j:=3) (by simp);obtain rfl:=bM e;have ha:aIj w1 (some a) cp [[45,100],[b],[45,102],[49]]:=h1;obtain⟨ga,oa,e,hlt,_⟩:=ha.2 (by simp);obtain rfl:=bM e;refine aB (λh=>by simp at h) (λ_=>⟨by decide,by simp,_,c0,?_⟩);refine aB (λh=>by simp at h) (λ_=>⟨by decide,by simp,_,c1,?_⟩);refine aB (λh=>by simp at h) (λ_=>⟨by decide,by simp,_,c2,?_⟩);refine aB (λh=>by simp at h) (λ_=>⟨by decide,by simp,_,c3,?_⟩);refine(ZU (he.still s1).env [49] (by simp)).mono ?_;rintro _ w2 ⟨⟨m,ok,rfl,hm⟩,s2⟩;have hn:nT [49]=some 1:=by decide
 rw[hn]at hm;obtain⟨rfl,rfl⟩:=hm;refine .inl ⟨_,_,rfl,aB (λh=>by cases h) (λ_=>aB (λh=>by simp at h) (λ_=>?_))⟩;have cZ:=s1.trans s2;refine(tF (he.still cZ) (by omega)).mono ?_;rintro _ w3 ⟨p3,CM,rfl,o3,s3⟩;have I5:=Dy aG;have hfz:=xG aG;unfold UR;obtain⟨L,hL⟩:∃L,L=cR aG:=⟨_,rfl⟩;rw[<-hL]at o3 I5 hfz⊢;have iK:=cZ.trans s3;have hz1:=s1.size;have aGJ:=s2.size;have r3:=(r1.still s2).still s3;have low:∀k,k<w2.heap.size->¬(Value.slice p3 L.length CM).ownBlock=some k:=λk hk e=>by have:=(o3.lt k e).1;omega
 refine .inl ⟨_,_,_,rfl,λx w4=>∃k:Nat,x=(k:Int)/\k<=L.length/\aV w4 w2.heap.size b6 1 (.slice p3 L.length CM) L.length (bI (oC (nX b) L k))/\Mod (λk=>(Value.slice p3 L.length CM).ownBlock=some k) w3 w4,λx _=>((L.length:Int)-x).toNat,⟨0,rfl,dx _,by simpa[oC]using o3,Mod.refl _ _⟩,?_⟩;rintro _ _ w4 ⟨k,rfl,hk,o4,m4⟩;have r4:Row w4 w.heap.size 35 ⟨[.int .i64 0,.string (S []),.string (S [])]⟩:=r3.mod m4 (low _ (by have:=r1.lt;omega));have iL:Still w w4:=Mod.trans iK m4 (λ_ h=>h) λi hi e=>by have:=(o3.lt i e).1;omega
 refine aB (λhx=>?_) (λhx=>?_);rotate_left
 .have:k=L.length:=by have:=a_ hx;omega
  subst this;have em:oC (nX b) L L.length=L.map (nX b):=by simp[oC]
  rw[em]at o4;have hfm:=Tj (nX b) (acY b) L;have Wo:aV w4 w2.heap.size b6 1 (.slice p3 (L.map (nX b)).length CM) (L.map (nX b)).length (bI (L.map (nX b))):=by rw[aIB];exact o4
  have hj:=Q_ Wo (by omega);rw[aIB]at hj;refine hj.mono ?_;rintro _ w8 ⟨rfl,s8⟩;exact .inl ⟨_,rfl,BD (iL.trans s8) (r4.still s8) (aW _) _⟩
 have hx:k<L.length:=by have:=aT hx;omega
 have Wo:aV w4 w2.heap.size b6 1 (.slice p3 (oC (nX b) L k).length CM) (oC (nX b) L k).length (bI (oC (nX b) L k)):=by rw[SD _ _ hk];exact o4
 obtain⟨g,rfl,hcx⟩:=Wo.aKq (j:=k) (by rw[SD _ _ hk];exact hx);rw[au7 (nX b) L hx]at hcx;have hxl:L[k].length<=b8 L:=acU (ou hx);have c1':w4.cell? ((Addr.mk ga oa none).add (Int.toNat 1*1))=some (.string (S [b])):=by have q:=(World.cell?_of_block (a:=(Addr.mk ga oa none).add (Int.toNat 1*1)) (m4.block ga (by have:=s2.size;have:=s3.size;omega) (low _ (by omega)))).trans ((s2.trans s3).cell c1);exact q
 refine⟨by omega,by omega,_,by rw[bT];exact hcx,by decide,by simp,_,c1',?_⟩;refine(Ge (he.still iL) (by omega) (by simp)).mono ?_;rintro _ w5 ⟨p5,c5,rfl,o5,s5⟩;have o45:=o4.still s5;have m5:Mod (λk=>(Value.slice (some ⟨g,0,none⟩) L.length CM).ownBlock=some k) w3 w5:=m4.trans s5 (λ_ h=>h) (λ_ _ h=>h.elim);have hstep:i64.wrap ((k:Int)+1)=((k+1:Nat):Int):=by rw[wrap_i64 (by omega) (by omega)];omega
 refine .inl ⟨_,_,_,rfl,aB (λh1=>?_) (λh1=>?_)⟩
 .have h1:(lX L[k] [b]).length=1:=by have:=aT h1;omega
  rw[hstep];refine⟨⟨k+1,rfl,hx,?_,m5⟩,by dsimp only;omega⟩;rw[atc _ _ hx (by rw[nX,aR h1])];exact o45
 .have h1:(lX L[k] [b]).length≠1:=by have:=a_ h1;omega
  have hpos:0<(lX L[k] [b]).length:=by have:=(K4 L[k] [b] (by simp)).1;omega
  obtain⟨g5,rfl,Wp⟩:=o5.aKq hpos;refine aB (λ_=>?_) (λh=>absurd (a_ h) (by simp;omega));refine⟨by decide,by show(0:Int)<_;omega,_,Wp,by omega,by omega,?_⟩;rw[bT,eX];refine aV.store o45 (by omega) rfl λw6 o6 m6 z6=>?_;rw[hstep];refine⟨⟨k+1,rfl,hx,?_,m5.trans m6 (λ_ h=>h) λi _ e=>by rw[e];rfl⟩,by dsimp only;omega⟩;rw[atb _ _ hx];have e1:nX b L[k]=(lX L[k] [b])[0]:=by
   rw[nX,aL h1];have key:∀(l:List ag) (hl:0<l.length),l.headD []=l[0]:=λl hl=>by
    cases l with
    |nil=>cases hl
    |cons y r=>rfl
   exact key _ hpos
  rw[e1];simpa[bI,Qw]using o6
def adW(x:UInt8):aH3 KF #[.string (S [x])] w (λe w'=>∃p c,e=.returned (.slice p 1 c)/\aV w' w.heap.size 5 1 (.slice p 1 c) 1 (bc [x])/\Still w w'):=by
 refine anj _ _ _ ?_;refine⟨λs p n c w1=>(s=[x]/\p=none/\n=0/\c=0/\w1=w)\/(s=[]/\n=1/\aV w1 w.heap.size 5 1 (.slice p 1 c) 1 (bc [x])/\Still w w1),λs _ _ _ _=>s.length,.inl ⟨rfl,rfl,rfl,rfl,rfl⟩,?_⟩;rintro s p n c _ w1 (⟨rfl,rfl,rfl,rfl,rfl⟩|⟨rfl,rfl,ho,hs⟩)
 .refine aB (λ_=>?_) (λh=>by simp at h)
  refine⟨λs2 p2 n2 c2 w6=>s2=[x]/\p2=none/\n2=0/\c2=0/\w6=w1.drew,⟨λb w2=>b=false/\w2=w1.drew,aB (λh=>by simp at h) (λ_=>⟨rfl,rfl⟩),?_⟩,?_⟩
  .rintro _ _ w2 ⟨rfl,rfl⟩
   exact aB (λh=>by cases h) (λ_=>⟨rfl,rfl,rfl,rfl,rfl⟩)
  rintro _ _ _ _ _ w6 ⟨rfl,rfl,rfl,rfl,rfl⟩;have sD:Still w1 w1.drew:=(Still.refl _).cK;refine⟨by decide,x,rfl,?_⟩;refine afp (aV.nil w1.drew w1.heap.size 5 1) sD.size (cs:=[.int .u8 (x.toNat:Int)]) rfl (by simp[Value.oneCell']) (by decide) (by decide) λp' c' w8 o8 m8=>?_;refine⟨by decide,by simp,.inr ⟨rfl,rfl,o8,Mod.trans sD m8 (λ_ h=>h) λi hi e=>by cases e⟩,by simp⟩
 .exact aB (λh=>by simp at h) (λ_=>⟨_,_,rfl,ho,hs⟩)
def A6(a b:UInt8)(s:ag):ag:=s.map λc=>if c=a then b else c
def awr(a b:UInt8){aG:ag}(hi:aG.length<=900000):aI2 aLl [[a],[b]] aG 0 (A6 a b aG):=by
 intro w p cp he h;refine anK _ _ _ _ _ _ ?_;refine aP λw1 r1 s1 z1=>?_;have h1:=h.still s1;obtain⟨ad,rfl,c0⟩:=h1.get (j:=0) (by simp);obtain⟨a',e,c1⟩:=h1.get (j:=1) (by simp);obtain rfl:=bM e;refine⟨λw3=>w3=w1,⟨λx w2=>x=false/\w2=w1,aB (λh=>by simp at h) (λ_=>⟨by decide,by simp,_,c0,aB (λ_=>⟨by decide,by simp,_,c1,by simp,rfl⟩) (λh=>by simp at h)⟩),?_⟩,?_⟩
 .rintro _ _ w2 ⟨rfl,rfl⟩
  exact aB (λh=>by cases h) (λ_=>rfl)
 rintro _ w3 rfl;refine aP λw4 r4 s4 z4=>?_;refine⟨by decide,by simp,_,s4.cell c1,(adW b).mono ?_⟩;rintro _ w5 ⟨p5,c5,rfl,o5,s5⟩;have Wq:=s4.trans s5;refine .inl ⟨_,_,_,rfl,λaX=>Row aX w3.heap.size 168 ⟨(List.replicate 256 (.int .i64 0)).set a.toNat (.int .i64 (1+(b.toNat:Int)))⟩/\Row aX w.heap.size 35 ⟨[.int .i64 0,.string (S []),.string (S [])]⟩/\Still w aX,⟨by decide,by simp,_,Wq.cell c0,aB (λh=>by simp at h) (λ_=>⟨by decide,by simp,_,Wq.cell c0,(adW a).mono ?_⟩)⟩,?_⟩
 .rintro _ w8 ⟨p8,c8,rfl,o8,s8⟩
  have r8:=(r4.still s5).still s8;have q8:=((r1.still s4).still s5).still s8;have o58:=o5.still s8;have vB:=(s1.trans Wq).trans s8;obtain⟨g5,cp5,e5,_,_,_,Wp⟩:=o58.wz (by decide);injection e5 with e5 _ _;subst e5;obtain⟨g8,cp8,e8,_,_,_,hc8⟩:=o8.wz (by decide);injection e8 with e8 _ _;subst e8;refine .inl ⟨_,_,_,rfl,λx w9=>(x=0/\w9=w8)\/(x=1/\Row w9 w3.heap.size 168 ⟨(List.replicate 256 (.int .i64 0)).set a.toNat (.int .i64 (1+(b.toNat:Int)))⟩/\Row w9 w.heap.size 35 ⟨[.int .i64 0,.string (S []),.string (S [])]⟩/\Still w w9),λx _=>(1-x).toNat,.inl ⟨rfl,rfl⟩,?_⟩;rintro x _ w9 (⟨rfl,rfl⟩|⟨rfl,h1,h2,h3⟩)
  .refine aB (λ_=>⟨by decide,by decide,_,hc8 0 _ rfl,by decide,by decide,_,Wp 0 _ rfl,by omega,by have:=a.toNat_lt;omega,?_⟩) (λh=>by simp at h)
   rw[bT,eX,bR,cE];refine aH5 (g:=w3.heap.size) (o:=a.toNat) r8 (by have:=a.toNat_lt;simp;omega) (by simp[Value.oneCell']) λaO aIe m10 pz=>?_;have hb:=b.toNat_lt;have ew:i64.wrap (1+i64.wrap (b.toNat:Int))=1+(b.toNat:Int):=by rw[wrap_i64 (n:=(b.toNat:Int)) (by omega) (by omega),wrap_i64 (by omega) (by omega)]
   rw[ew]at aIe;refine⟨.inr ⟨by decide,aIe,q8.mod m10 (by have:=r1.lt;omega),vB.box s1.size m10⟩,by dsimp only;decide⟩
  .exact aB (λh=>by simp at h) (λ_=>⟨h1,h2,h3⟩)
 rintro _ aX ⟨aIk,q11,gU⟩;have hw3:w3.heap.size<aX.heap.size:=aIk.lt;refine⟨λq n c x aH4=>∃k:Nat,x=(k:Int)/\n=k/\k<=aG.length/\aV aH4 aX.heap.size 5 1 (.slice q k c) k (bc (A6 a b (aG.take k)))/\Still aX aH4,λ_ _ _ x _=>(aG.length-x).toNat,⟨0,rfl,rfl,dx _,aV.nil _ _ _ _,Still.refl _⟩,?_⟩;rintro q nn c _ _ aH4 ⟨k,rfl,hnk,hk,CN,eN⟩;obtain rfl:k=nn:=hnk.symm;have ey:=aIk.still eN;have q12:=q11.still eN;refine aB (λhx=>?_) (λhx=>?_);rotate_left
 .have:k=aG.length:=by have:=a_ hx;omega
  subst this;rw[oT]at CN;exact⟨_,CN.bytes,BD (gU.trans eN) q12 (aW _) _⟩
 have hx:k<aG.length:=by have:=aT hx;omega
 have hlt:=aG[k].toNat_lt;have hstep:i64.wrap ((k:Int)+1)=((k+1:Nat):Int):=by rw[wrap_i64 (by omega) (by omega)];omega
 have htk:A6 a b (aG.take (k+1))=A6 a b (aG.take k)++[if aG[k]=a then b else aG[k]]:=by rw[A6,A6,ze hx,qX];rfl
 have push:∀(v:Int),v=((if aG[k]=a then b else aG[k]:UInt8).toNat:Int)->cS (aH4.alloc (.cells #[(.int .u8 v)] 5)) (λ(bl:World)=>dA bl 5 1 1 q k c (some (Addr.mk aH4.heap.size 0 none)) 1 (λ(p:Option Addr) (cp:Nat) (bH:World)=>(∃k':Nat,(((k+1:Nat):Int))=(k':Int)/\k+1=k'/\k'<=aG.length/\aV bH aX.heap.size 5 1 (.slice p k' cp) k' (bc (A6 a b (aG.take k')))/\Still aX bH)/\((aG.length:Int)-((k+1:Nat):Int)).toNat<((aG.length:Int)-(k:Int)).toNat)):=by rintro v rfl;refine afp CN eN.size (cs:=[.int .u8 ((if aG[k]=a then b else aG[k]:UInt8).toNat:Int)]) rfl (by simp[Value.oneCell']) (by omega) (by omega) λp' c' bH o14 m14=>?_;refine⟨⟨k+1,rfl,rfl,hx,?_,Mod.trans eN m14 (λ_ h=>h) λi hi e=>by have:=(CN.lt i e).1;omega⟩,by omega⟩;rw[htk,DB];exact o14
 have US:aG[Int.toNat (k:Int)]?=some aG[k]:=by rw[bT];exact gJ hx
 by_cases hc:aG[k]=a
 .have hcell:aH4.cell? ((Addr.mk w3.heap.size 0 none).add (Int.toNat (aG[k].toNat:Int)*1))=some (.int .i64 (1+(b.toNat:Int))):=by
   rw[bT,eX,bR,cE,hc];exact ey.aj (qV (by rw[OZ];exact a.toNat_lt))
  have oI:=b.toNat_lt;refine⟨by omega,_,US,by omega,by omega,_,hcell,aB (λh=>absurd (aT h) (by omega)) (λ_=>aB (λh=>absurd (aT h) (by omega)) (λ_=>?_))⟩;rw[hstep];refine push _ ?_;rw[aR hc,wrap_i64 (by omega) (by omega)];have:(1+(b.toNat:Int)-1)=(b.toNat:Int):=by omega
  rw[this];exact wrap_u8 (by omega) (by omega)
 .have hcell:aH4.cell? ((Addr.mk w3.heap.size 0 none).add (Int.toNat (aG[k].toNat:Int)*1))=some (.int .i64 0):=by
   rw[bT,eX,bR,cE];refine ey.aj ?_;rw[pJ (λe=>hc (FF.1 e.symm))];rw[Xw,aR (by omega)]
  refine⟨by omega,_,US,by omega,by omega,_,hcell,aB (λ_=>?_) (λh=>absurd rfl (a_ h))⟩;rw[hstep];refine⟨by omega,_,US,push _ ?_⟩;rw[aL hc]
end Go.Proofs.YtihaaoehhgmphaaGreatDoor
namespace Go.Proofs.YtihaaoehhgmphaaGreatDoor
open IntKind Go.RowKit Vc
set_option maxRecDepth 100000
variable{w w0:World}{K:Kx}{s:Sh}
abbrev uU:TypeId:=244
abbrev Au:TypeId:=101
structure rJ where
 aG:ag
 dst:ag
 fr:Bool
 is:Bool
def qG(x:rJ):List Value:=[.string (S x.aG),.string (S x.dst),.bool x.fr,.bool x.is]
def sN:List (ag×List L.Pt)->Sh->rJ->Sh->rJ->Prop
 |[],s,x,s',x'=>s'=s/\x'=x
 |r::l,s,x,s',x'=>∃gs nm,AF s.V r.2 (.ok (gs,s.V))/\mg (F.joined false gs) nm/\0<s.b_/\
  ((r.1=[60]/\∃d,ij s.T (kD nm)=⟨1,6,d⟩/\sN l {s with b_:=s.b_-1} {x with fr:=true,aG:=d} s' x')\/
   (r.1=[62]/\nm≠[46]/\Lib.lastIndexByte (S (47::nm)) 47=0/\sN l {s with T:=aIw s.T nm [] false,b_:=s.b_-1} {x with dst:=F.joined false gs,is:=true} s' x'))
def aom:dP aM JO=true:=by kernel_rfl
def atd(h:bF w w0 K s)(h0:w0.heap.size<=w.heap.size){b:Nat}(hb:w0.heap.size<=b){t:TypeId}{cs:Array Value}(hr:Row w b t cs)(h1:t≠fX)(h2:t≠kY)(h3:t≠aIX)(h4:t≠5)(h5:t≠j5)(h6:t≠UH)(h7:t≠32):Aside w w0 K λk=>k=b:=by
 have hf:=h.apart hr h1 h2 h3 h4 h5;refine⟨λk hk=>by rw[hk];exact⟨hb,hr.lt⟩,λk hk=>?_,λk hk t' cs' hr'=>?_⟩
 .subst hk
  exact⟨λe=>hf (.inl e),λe=>hf (.inr (.inr (.inr (.inl e)))),hr.ne h.iM h6,aIY h.fns hr,λe=>hf (.inr (.inl e)),λe=>hf (.inr (.inr (.inl e)))⟩
 .subst hk
  have e:t'=t:=Fj λhne=>hr'.ne hr hne rfl;subst e;exact⟨h3,h4,h7⟩
def ate(aH9:fN w0)(h0:Still w0 w)(h:bF w w0 K s)(hb:0<s.b_){rb pb xb hb':Nat}{op path nm:ag}{wv:Value}{x:rJ}(hr:Row w rb 138 ⟨[.string (S op),wv]⟩)(hp:Row w pb b6 ⟨[.string (S path)]⟩)(hx:Row w xb uU ⟨qG x⟩)(hxb:w0.heap.size<=xb)(hh:Row w hb' Au ⟨[.pointer (some ⟨K.hb,0,none⟩)]⟩)(o:mg path nm){T1:Tree}{x1:rJ}
  (hc:(op=[60]/\∃d,ij s.T (kD nm)=⟨1,6,d⟩/\T1=s.T/\x1={x with fr:=true,aG:=d})\/(op=[62]/\nm≠[46]/\Lib.lastIndexByte (S (47::nm)) 47=0/\T1=aIw s.T nm [] false/\x1={x with dst:=path,is:=true})):
  aH3 Dc #[.pointer (some ⟨K.hb,0,none⟩),.func (.func JO) #[] #[.pointer (some ⟨rb,0,none⟩),.pointer (some ⟨pb,0,none⟩),.pointer (some ⟨xb,0,none⟩),.pointer (some ⟨hb',0,none⟩)]] w λe w'=>e=.returned (.int .i64 0)/\bF w' w0 K {s with T:=T1,b_:=s.b_-1}/\cA (λk=>Ft K w k\/k=xb) w (Ft K w') w'/\Row w' xb uU ⟨qG x1⟩:=by
 have hz0:=h0.size;obtain⟨vp,vc,CO,_⟩:=h.aIx;have hax:=atd h hz0 hxb hx (by decide) (by decide) (by decide) (by decide) (by decide) (by decide) (by decide);refine aaJ aH9 h0 h hb (cap:=[.pointer (some ⟨rb,0,none⟩),.pointer (some ⟨pb,0,none⟩),.pointer (some ⟨xb,0,none⟩),.pointer (some ⟨hb',0,none⟩)]) aom hax (T1:=T1) ?_ (Q:=λw'=>Row w' xb uU ⟨qG x1⟩) (λwa wb hq hm=>hq.mod hm λhn=>hn rfl) ?_
 .rcases hc with⟨_,d,_,rfl,_⟩|⟨_,_,_,rfl,_⟩
  .exact h.sY
  .exact h.sY.put _ _
 intro w1 t m1 aJi low;have na:∀{b:Nat} {ty:TypeId} {cs:Array Value},Row w b ty cs->ty≠j5->b≠K.a:=λhr hne=>hr.ne h.dh.top hne;have cG:=hr.mod m1 (na hr (by decide));have hp1:=hp.mod m1 (na hp (by decide));have hx1:=hx.mod m1 (na hx (by decide));have NQ:=hh.mod m1 (na hh (by decide));have hs1:=CO.mod m1 (na CO (by decide));have MW:iC w1 K.pb K.a:=h.iM.mod m1 (na h.iM (by decide));have qP:Still w0 w1:=Mod.trans h0 m1 (λ_ h=>h) λj hj e=>by have:=h.dh.low.1;omega
 have EX:∀{b:Nat} {ty:TypeId} {cs:Array Value},Row w b ty cs->ty≠j5->¬SF K.a K.g (some t) b:=λhr hne hk=>by
  rcases low _ hk with e|e|e
  .exact na hr hne e
  .exact aIY h.dh.now hr e
  .have:=hr.lt;omega
 have NR:¬RF (some t) K.pb:=λhk=>EX h.iM (by decide) (RF.sf hk);refine aks _ _ _ _ _ _ ?_;refine⟨_,cG.aj rfl,aB (λhop=>?_) (λhop=>?_)⟩
 .rcases hc with⟨rfl,_⟩|⟨rfl,hnm,rW,rfl,rfl⟩
  .simp at hop
  refine⟨_,hp1.aj rfl,aH5 (g:=xb) (o:=1) hx1 (by simp[qG]) (by simp[Value.oneCell']) λw2 r2 m2 z2=>?_⟩;refine aH5 (g:=xb) (o:=3) r2 (by simp[qG,fR]) (by simp[Value.oneCell']) λw3 r3 m3 z3=>?_;have m13:Mod (λk=>k=xb) w1 w3:=Mod.trans m2 m3 (λ_ h=>h) (λ_ _ h=>h);have sD:Still w3 w3.drew:=(Still.refl _).cK;have nx:∀{b:Nat} {ty:TypeId} {cs:Array Value},Row w b ty cs->ty≠uU->b≠xb:=λhr hne=>hr.ne hx hne;have hr3:=(cG.mod m13 (nx hr (by decide))).still sD;have aLV:=(hp1.mod m13 (nx hp (by decide))).still sD;have aII:=(NQ.mod m13 (nx hh (by decide))).still sD;have hs3:=(hs1.mod m13 (nx CO (by decide))).still sD;have UT:iC w3.drew K.pb K.a:=(MW.mod m13 (nx h.iM (by decide))).still sD;have yx:=(aJi.mod m13 λk hk e=>EX hx (by decide) (by rw[<-e];exact hk)).still sD;have yW:Still w0 w3.drew:=Still.trans (Mod.trans qP m13 (λ_ h=>h) λj hj e=>by omega) sD;refine⟨λwq=>Row wq rb 138 ⟨[.string (S [62]),wv]⟩/\Row wq pb b6 ⟨[.string (S path)]⟩/\Row wq hb' Au ⟨[.pointer (some ⟨K.hb,0,none⟩)]⟩/\Row wq K.hb fX ⟨iu K vp vc s⟩,⟨hr3,aLV,aII,hs3⟩,_,λwq hq=>hq.2.2.1.aj rfl,_,λwq hq=>hq.2.2.2.aj rfl,_,λwq hq=>hq.2.1.aj rfl,_,λwq hq=>hq.1.aj rfl,?_⟩;refine(RG aH9 yW yx UT NR o hnm rW h.sY [] false (by simp)).mono ?_;rintro _ w4 ⟨rfl,jC,m4⟩;have nwf:¬WF K.g (some t) xb:=λhk=>EX hx (by decide) (WF.sf hk);refine .inl ⟨_,rfl,rfl,⟨5,by decide,jC⟩,Mod.trans (Mod.trans m13 sD (λ_ h=>h) (λ_ _ h=>h.elim)) m4 (λ_ h=>.inr h) (λ_ _ h=>.inl (WF.sf h)),?_⟩;exact(r3.still sD).mod m4 nwf
 .rcases hc with⟨rfl,d,hd,rfl,rfl⟩|⟨rfl,_⟩
  .refine aH5 (g:=xb) (o:=2) hx1 (by simp[qG]) (by simp[Value.oneCell']) λw3 r3 m13 z3=>?_
   have sD:Still w3 w3.drew:=(Still.refl _).cK;have nx:∀{b:Nat} {ty:TypeId} {cs:Array Value},Row w b ty cs->ty≠uU->b≠xb:=λhr hne=>hr.ne hx hne;have aLV:=(hp1.mod m13 (nx hp (by decide))).still sD;have aII:=(NQ.mod m13 (nx hh (by decide))).still sD;have hs3:=(hs1.mod m13 (nx CO (by decide))).still sD;have UT:iC w3.drew K.pb K.a:=(MW.mod m13 (nx h.iM (by decide))).still sD;have yx:=(aJi.mod m13 λk hk e=>EX hx (by decide) (by rw[<-e];exact hk)).still sD;have yW:Still w0 w3.drew:=Still.trans (Mod.trans qP m13 (λ_ h=>h) λj hj e=>by omega) sD;refine⟨λwq=>Row wq pb b6 ⟨[.string (S path)]⟩/\Row wq hb' Au ⟨[.pointer (some ⟨K.hb,0,none⟩)]⟩/\Row wq K.hb fX ⟨iu K vp vc s⟩,⟨aLV,aII,hs3⟩,_,λwq hq=>hq.2.1.aj rfl,_,λwq hq=>hq.2.2.aj rfl,_,λwq hq=>hq.1.aj rfl,?_⟩;refine(abO aH9 yW yx UT NR o hd).mono ?_;rintro _ w4 ⟨rfl,jC,m4⟩;have I6:¬RF (some t) xb:=λhk=>EX hx (by decide) (RF.sf hk);have r4:=(r3.still sD).mod m4 I6;refine .inl ⟨_,_,rfl,aH5 (g:=xb) (o:=0) r4 (by simp[qG,fR]) (by simp[Value.oneCell']) λw5 r5 m5 z5=>?_⟩;refine⟨rfl,⟨3,by decide,jC.mod m5 λk hk e=>EX hx (by decide) (by rw[<-e];exact hk)⟩,Mod.trans (Mod.trans (Mod.trans m13 sD (λ_ h=>h) (λ_ _ h=>h.elim)) m4 (U:=λk=>SF K.a K.g (some t) k\/k=xb) (λ_ h=>.inr h) (λ_ _ h=>.inl (RF.sf h))) m5 (λ_ h=>h) (λ_ _ h=>.inr h),r5⟩
  .simp at hop
def bF.other(h:bF w w0 K s){b:Nat}{t:TypeId}{cs:Array Value}(hr:Row w b t cs)(h1:t≠fX)(h2:t≠kY)(h3:t≠aIX)(h4:t≠5)(h5:t≠j5)(h6:t≠UH)(h7:t≠32){w':World}(hm:Mod (λk=>k=b) w w'):bF w' w0 K s/\∀k,Ft K w' k->Ft K w k:=by
 have hf:=h.apart hr h1 h2 h3 h4 h5;refine⟨⟨h.toaJ_.mod hm λj hj _=>?_,h.dh.mod hm λj hj hk=>?_⟩,λk hk=>?_⟩
 .subst hj
  refine⟨λe=>hf (.inl e),λe=>hf (.inr (.inr (.inr (.inl e)))),hr.ne h.iM h6,aIY h.fns hr,λt' cs' hr'=>?_⟩;have e:t'=t:=Fj λhne=>hr'.ne hr hne rfl;subst e;exact⟨h3,h4,h7⟩
 .subst hk
  rcases hj with e|e|⟨t,ht,_⟩
  .exact hf (.inr (.inl e))
  .exact hf (.inr (.inr (.inl e)))
  .cases ht
 .rcases hk with e|e
  .exact .inl e
  .exact .inr ((Fc.same λo=>h.G1 hm (λe=>hf (.inr (.inr (.inr (.inl e.symm))))) o).1 e)
def atf(aH9:fN w0)(h0:Still w0 w)(h:bF w w0 K s){rs:List (ag×List L.Pt)}{p:Option Addr}{n c:Nat}{D:Nat->Prop}(hs:L.aIS.At w D rs (.slice p n c))(hD:Kept D (Ft K w) w){s':Sh}{x':rJ}(hf:sN rs s ⟨s.aG,[],false,false⟩ s' x')(CD:rs.length<=10000):
  aH3 PA #[.pointer (some ⟨K.hb,0,none⟩),.slice p n c] w (λe w'=>e=.returned (.tuple #[.agg #[.string (S x'.aG),.string (S x'.dst),.bool x'.fr,.bool x'.is],.bool true])/\bF w' w0 K s'/\cA (Ft K w) w (Ft K w') w'):=by
 obtain⟨rfl,hc⟩:=hs.len;have hz0:=h0.size;refine ak_ _ _ _ _ _ _ ?_;refine aP λw1 r1 s1 z1=>aP λw2 r2 s2 z2=>?_;have q1:=r1.still s2;have cZ:=s1.trans s2;have h2:=h.still cZ;refine⟨_,q1.aj rfl,_,h2.cell λ_ _=>rfl,aH5 (g:=w1.heap.size) (o:=0) r2 (by simp) (by simp[Value.oneCell']) λw3 r3 m3 z3=>?_⟩;have iK:Still w w3:=cZ.box (by omega) m3;have h3:=h.still iK;have q3:=q1.mod m3 (by omega);refine⟨λx w4=>∃(i:Nat) (si:Sh) (xi:rJ),x=(i:Int)/\i<=rs.length/\bF w4 w0 K si/\cA (Ft K w) w (Ft K w4) w4/\Row w4 w.heap.size Au ⟨[.pointer (some ⟨K.hb,0,none⟩)]⟩/\Row w4 w1.heap.size uU ⟨qG xi⟩/\sN (rs.drop i) si xi s' x',λx _=>(rs.length-x).toNat,⟨0,s,⟨s.aG,[],false,false⟩,rfl,dx _,h3,h.gone iK,q3,r3,hf⟩,?_⟩;rintro x _ w4 ⟨i,si,xi,rfl,hi,h4,g4,q4,r4,hfi⟩;have I7:Still w0 w4:=Mod.trans h0 g4.mod (λ_ h=>h) λj hj hk=>by have:=(h.lt hk).1;omega
 have CK:=g4.mod.size;refine aB (λhx=>?_) (λhx=>?_)
 .have hx:i<rs.length:=by have:=aT hx;omega
  rw[mI hx]at hfi;obtain⟨gs,nm,ok,o,hb,hcase⟩:=hfi;have hs4:=hs.mod g4.mod λj hj hk=>(hD j hj).2 hk;have hD4:=hD.gone g4;obtain⟨b,cs,rfl,Wh,⟨v,rfl,gT⟩,hcell⟩:=hs4.get (gJ hx);obtain⟨wp,wc,rfl⟩:=gT.form;have cl:∀(j:Nat) (u:Value),([Value.string (S rs[i].1),.slice wp rs[i].2.length wc]:List Value)[j]?=some u->w4.cell? ((b.add (Int.toNat (i:Int)*2)).add j)=some u:=λj u hu=>by rw[bT];exact hcell j u hu
  have c0:w4.cell? (b.add (Int.toNat (i:Int)*2))=some (.string (S rs[i].1)):=cl 0 _ rfl;refine⟨by omega,by omega,_,_,_,_,c0,cl 1 _ rfl,aP λw5 r5 s5 z5=>aH5 (g:=w4.heap.size) (o:=0) r5 (by simp) (by simp[Value.oneCell']) λw6 r6 m6 z6=>?_⟩;have jW:Still w4 w6:=s5.box (aW _) m6;have h6:=h4.still jW;have q6:=q4.still jW;have NS:=h4.gone jW;have hpl:=o.len;refine⟨_,q6.aj rfl,_,_,_,r6.aj rfl,(awo aH9 (I7.trans jW) h6 (gT.still jW) (hD4.gone NS) ok false (by omega)).mono ?_⟩;rintro _ w7 ⟨rfl,h7,g7⟩;have n6:∀{k:Nat} {ty:TypeId} {cs:Array Value},Row w6 k ty cs->ty≠fX->ty≠kY->ty≠aIX->ty≠5->ty≠j5->¬Ft K w6 k:=λhr a b c d e=>h6.apart hr a b c d e;have r7:=r6.mod g7.mod (n6 r6 (by decide) (by decide) (by decide) (by decide) (by decide));have q7:=q6.mod g7.mod (n6 q6 (by decide) (by decide) (by decide) (by decide) (by decide));have x7:=(r4.still jW).mod g7.mod (n6 (r4.still jW) (by decide) (by decide) (by decide) (by decide) (by decide));refine .inl ⟨_,_,rfl,aP λw8 r8 s8 z8=>aH5 (g:=w7.heap.size) (o:=0) r8 (by simp) (by simp[Value.oneCell']) λw9 r9 m9 z9=>?_⟩;have pE:Still w7 w9:=s8.box (aW _) m9;have h9:=h7.still pE;have g49:=(NS.trans g7).trans (h7.gone pE);have g09:=g4.trans g49;have Wj:Still w0 w9:=Mod.trans h0 g09.mod (λ_ h=>h) λj hj hk=>by have:=(h.lt hk).1;omega
  refine aB (λh=>by cases h) (λ_=>⟨_,(q7.still pE).aj rfl,?_⟩);have ox:w0.heap.size<=w1.heap.size:=by omega
  have q9:=q7.still pE;have x9:=x7.still pE;obtain⟨T1,x1,hc,hr⟩:∃T1 x1,((rs[i].1=[60]/\∃d,ij si.T (kD nm)=⟨1,6,d⟩/\T1=si.T/\x1={xi with fr:=true,aG:=d})\/(rs[i].1=[62]/\nm≠[46]/\Lib.lastIndexByte (S (47::nm)) 47=0/\T1=aIw si.T nm [] false/\x1={xi with dst:=F.joined false gs,is:=true}))/\sN (rs.drop (i+1)) {si with T:=T1,b_:=si.b_-1} x1 s' x':=by
   rcases hcase with⟨a1,d,a2,a3⟩|⟨a1,a2,a3,a4⟩
   .exact⟨_,_,.inl ⟨a1,d,a2,rfl,rfl⟩,a3⟩
   .exact⟨_,_,.inr ⟨a1,a2,a3,rfl,rfl⟩,a4⟩
  refine(ate aH9 Wj h9 hb (r7.still pE) r9 x9 ox q9 o hc).mono ?_;rintro _ aX ⟨rfl,h11,g11,iG⟩;refine .inl ⟨_,rfl,aB (λh=>by simp at h) (λ_=>?_)⟩;rw[wrap_i64 (by omega) (by omega)];have nq:¬(Ft K w9 w.heap.size\/w.heap.size=w1.heap.size):=λhk=>hk.elim (h9.apart q9 (by decide) (by decide) (by decide) (by decide) (by decide)) λe=>by omega
  refine⟨⟨i+1,{si with T:=T1,b_:=si.b_-1},x1,by omega,by omega,h11,g09.trans' g11 λk hk hG=>hG.elim .inl λe=>by omega,q9.mod g11.mod nq,iG,hr⟩,by dsimp only;omega⟩
 .have hx:i=rs.length:=by have:=a_ hx;omega
  subst hx;rw[vP]at hfi;obtain⟨rfl,rfl⟩:=hfi;refine⟨_,_,_,_,r4.aj rfl,r4.aj rfl,r4.aj rfl,r4.aj rfl,aH5 (g:=w1.heap.size) (o:=0) r4 (by simp[qG]) (by simp[Value.oneCell']) λw5 r5 m5 z5=>?_⟩;obtain⟨h5,f5⟩:=h4.other r4 (by decide) (by decide) (by decide) (by decide) (by decide) (by decide) (by decide) m5;refine⟨_,_,_,_,r5.aj rfl,r5.aj rfl,r5.aj rfl,r5.aj rfl,rfl,h5,Mod.trans g4.mod m5 (λ_ h=>h) (λj hj e=>by omega),λk hk=>g4.new k (f5 k hk)⟩
def anz:dP aM JE=true:=by kernel_rfl
def arn(aH9:fN w0)(h0:Still w0 w)(h:bF w w0 K s)(hb:0<s.b_){hb' xb sb':Nat}{nm t:ag}{x:rJ}(hh:Row w hb' Au ⟨[.pointer (some ⟨K.hb,0,none⟩)]⟩)(hx:Row w xb uU ⟨qG x⟩)(ht:Row w sb' b6 ⟨[.string (S t)]⟩)(o:mg x.dst nm)(hnm:nm≠[46])(hi:Lib.lastIndexByte (S (47::nm)) 47=0)(hl:((aIr s.T (47::nm)).d++t).length<=50000):
  aH3 Dc #[.pointer (some ⟨K.hb,0,none⟩),.func (.func JE) #[] #[.pointer (some ⟨hb',0,none⟩),.pointer (some ⟨xb,0,none⟩),.pointer (some ⟨sb',0,none⟩)]] w λe w'=>e=.returned (.int .i64 0)/\bF w' w0 K {s with T:=aIw s.T nm t true,b_:=s.b_-1}/\cA (Ft K w) w (Ft K w') w':=by
 obtain⟨vp,vc,CO,_⟩:=h.aIx;refine(aaJ aH9 h0 h hb (cap:=[.pointer (some ⟨hb',0,none⟩),.pointer (some ⟨xb,0,none⟩),.pointer (some ⟨sb',0,none⟩)]) anz (X:=λ_=>False) ⟨λ_ h=>h.elim,λ_ h=>h.elim,λ_ h=>h.elim⟩ (T1:=aIw s.T nm t true) (h.sY.put _ _) (Q:=λ_=>True) (λ_ _ _ _=>trivial) ?_).mono ?_
 .intro w1 u m1 aJi low
  have na:∀{b:Nat} {ty:TypeId} {cs:Array Value},Row w b ty cs->ty≠j5->b≠K.a:=λhr hne=>hr.ne h.dh.top hne;have sD:Still w1 w1.drew:=(Still.refl _).cK;have NQ:=(hh.mod m1 (na hh (by decide))).still sD;have hx1:=(hx.mod m1 (na hx (by decide))).still sD;have ht1:=(ht.mod m1 (na ht (by decide))).still sD;have hs1:=(CO.mod m1 (na CO (by decide))).still sD;have MW:iC w1.drew K.pb K.a:=(h.iM.mod m1 (na h.iM (by decide))).still sD;have qP:Still w0 w1.drew:=Still.trans (Mod.trans h0 m1 (λ_ h=>h) λj hj e=>by have:=h.dh.low.1;omega) sD;have NR:¬RF (some u) K.pb:=λhk=>by
   rcases low _ (RF.sf hk)with e|e|e
   .exact na h.iM (by decide) e
   .exact aIY h.dh.now h.iM e
   .have:=h.iM.lt;omega
  refine aj4 _ _ _ _ _ ?_;refine⟨λwq=>Row wq hb' Au ⟨[.pointer (some ⟨K.hb,0,none⟩)]⟩/\Row wq xb uU ⟨qG x⟩/\Row wq sb' b6 ⟨[.string (S t)]⟩/\Row wq K.hb fX ⟨iu K vp vc s⟩,⟨NQ,hx1,ht1,hs1⟩,_,λwq hq=>hq.1.aj rfl,_,λwq hq=>hq.2.2.2.aj rfl,_,λwq hq=>hq.2.1.aj rfl,_,λwq hq=>hq.2.2.1.aj rfl,?_⟩;refine(RG aH9 qP (aJi.still sD) MW NR o hnm hi h.sY t true (by rw[aR rfl];exact hl)).mono ?_;rintro _ w4 ⟨rfl,jC,m4⟩;exact .inl ⟨_,rfl,rfl,⟨5,by decide,jC⟩,Mod.trans sD m4 (λ_ h=>h.elim) (λ_ _ h=>.inl (WF.sf h)),trivial⟩
 .rintro _ w' ⟨rfl,h1,g1,_⟩
  exact⟨rfl,h1,⟨g1.mod.weaken λk hk=>hk.elim id λh=>h.elim,λk hk=>(g1.new k hk).imp (λh=>h.elim id λh=>h.elim) id⟩⟩
def aKC(x1:rJ)(s1 s3:Sh)(nm:ag):Sh:=
 if x1.is then{s3 with aG:=if x1.fr then s1.aG else s3.aG,out:=s1.out,T:=aIw s3.T nm s3.out true,b_:=s3.b_-1}else{s3 with aG:=if x1.fr then s1.aG else s3.aG}
def aqb(aH9:fN w0)(h0:Still w0 w)(h:bF w w0 K s){rs:List (ag×List L.Pt)}{p:Option Addr}{n c:Nat}{D:Nat->Prop}(hs:L.aIS.At w D rs (.slice p n c))(hD:Kept D (Ft K w) w){s1 s3:Sh}{x1:rJ}{nm:ag}(hf:sN rs s ⟨s.aG,[],false,false⟩ s1 x1)(CD:rs.length<=10000)
  (hx:x1.is=true->0<s3.b_/\mg x1.dst nm/\nm≠[46]/\Lib.lastIndexByte (S (47::nm)) 47=0/\((aIr s3.T (47::nm)).d++s3.out).length<=50000)
  {f:FuncId}{cap:List Value}(hc:dP aM f=true)
  (I2:∀w7,bF w7 w0 K {s1 with aG:=x1.aG,out:=if x1.is then[]else s1.out}->cA (Ft K w) w (Ft K w7) w7->aH3 f ⟨cap⟩ w7 λe w8=>e=.returned (.tuple #[])/\bF w8 w0 K s3/\cA (Ft K w7) w7 (Ft K w8) w8):
  aH3 JM #[.pointer (some ⟨K.hb,0,none⟩),.slice p n c,.func (.func f) #[] ⟨cap⟩] w (λe w'=>e=.returned (.tuple #[])/\bF w' w0 K (aKC x1 s1 s3 nm)/\cA (Ft K w) w (Ft K w') w'):=by
 refine akl _ _ _ _ _ _ _ ?_;refine aP λw1 r1 q1 z1=>⟨_,r1.aj rfl,(atf aH9 (h0.trans q1) (h.still q1) (hs.still q1) (hD.gone (h.gone q1)) hf CD).mono ?_⟩;rintro _ w2 ⟨rfl,h2,g2⟩;have ap:∀{w:World} {s:Sh} {k:Nat} {ty:TypeId} {cs:Array Value},bF w w0 K s->Row w k ty cs->ty≠fX->ty≠kY->ty≠aIX->ty≠5->ty≠j5->¬Ft K w k:=λh hr a b c d e=>h.apart hr a b c d e;have p2:=r1.mod g2.mod (ap (h.still q1) r1 (by decide) (by decide) (by decide) (by decide) (by decide));have CP:=(h.gone q1).trans g2;refine .inl ⟨_,_,_,_,_,rfl,aP λw3 r3 s3' z3=>aH5 (g:=w2.heap.size) (o:=0) r3 (by simp) (by simp[Value.oneCell']) λw4 r4 m4 z4=>?_⟩;have lz:Still w2 w4:=s3'.box (aW _) m4;have h4:=h2.still lz;have Ws:=CP.trans (h2.gone lz);have p4:=p2.still lz;have r4:Row w4 w2.heap.size uU ⟨qG x1⟩:=r4;have sD:Still w4 w4.drew:=(Still.refl _).cK;have Wt:=h4.still sD;have azI:=Ws.trans (h4.gone sD);have Wu:=p4.still sD;have Wv:=r4.still sD;refine aB (λh=>by cases h) (λ_=>⟨_,p4.aj rfl,_,h4.cell λ_ _=>rfl,_,p4.aj rfl,_,h4.cell λ_ _=>rfl,_,Wu.aj rfl,_,Wv.aj rfl,?_⟩);refine Wt.afF x1.aG λw5 h5 g5 m5=>?_;have r5:=Wv.mod g5.mod (ap Wt Wv (by decide) (by decide) (by decide) (by decide) (by decide));have p5:=Wu.mod g5.mod (ap Wt Wu (by decide) (by decide) (by decide) (by decide) (by decide));have g05:=azI.trans g5;refine⟨λw7=>bF w7 w0 K {s1 with aG:=x1.aG,out:=if x1.is then[]else s1.out}/\cA (Ft K w) w (Ft K w7) w7/\Row w7 w2.heap.size uU ⟨qG x1⟩/\Row w7 w.heap.size Au ⟨[.pointer (some ⟨K.hb,0,none⟩)]⟩,⟨_,r5.aj rfl,aB (λhb=>?_) (λhb=>?_)⟩,?_⟩
 .refine⟨_,p5.aj rfl,h5.L8 [] λw6 h6 g6 m6=>?_⟩
  rw[aR hb];exact⟨h6,g05.trans g6,r5.mod g6.mod (ap h5 r5 (by decide) (by decide) (by decide) (by decide) (by decide)),p5.mod g6.mod (ap h5 p5 (by decide) (by decide) (by decide) (by decide) (by decide))⟩
 .rw[aL (by rw[hb];decide)]
  exact⟨h5,g05,r5,p5⟩
 rintro _ w7 ⟨h7,EY,r7,p7⟩;refine zG (aB (λ_=>?_) (λh=>by rw[hc]at h;cases h));refine(I2 w7 h7 EY).mono ?_;rintro _ w8 ⟨rfl,h8,g8⟩;have r8:=r7.mod g8.mod (ap h7 r7 (by decide) (by decide) (by decide) (by decide) (by decide));have p8:=p7.mod g8.mod (ap h7 p7 (by decide) (by decide) (by decide) (by decide) (by decide));have g08:=EY.trans g8;refine .inl ⟨rfl,λaO=>bF aO w0 K {s3 with aG:=if x1.fr then s1.aG else s3.aG}/\cA (Ft K w) w (Ft K aO) aO/\Row aO w2.heap.size uU ⟨qG x1⟩/\Row aO w.heap.size Au ⟨[.pointer (some ⟨K.hb,0,none⟩)]⟩,⟨_,r8.aj rfl,aB (λhb=>?_) (λhb=>?_)⟩,?_⟩
 .refine⟨_,p8.aj rfl,h8.afF s1.aG λw9 h9 g9 m9=>?_⟩
  rw[aR hb];exact⟨h9,g08.trans g9,r8.mod g9.mod (ap h8 r8 (by decide) (by decide) (by decide) (by decide) (by decide)),p8.mod g9.mod (ap h8 p8 (by decide) (by decide) (by decide) (by decide) (by decide))⟩
 .rw[aL (by rw[hb];decide)]
  exact⟨h8,g08,r8,p8⟩
 rintro _ aO ⟨h10,g10,aIe,qQ⟩;refine⟨_,aIe.aj rfl,aB (λhb=>?_) (λhb=>?_)⟩
 .have hb:x1.is=false:=by simpa using hb
  rw[aKC,aL (by rw[hb];decide)];exact⟨rfl,h10,g10⟩
 .have hb:x1.is=true:=by simpa using hb
  obtain⟨b1,b2,b3,b4,b5⟩:=hx hb;rw[aKC,aR hb];refine⟨_,qQ.aj rfl,_,h10.cell λ_ _=>rfl,aP λaX aIk gU xh=>aH5 (g:=aO.heap.size) (o:=0) aIk (by simp) (by simp[Value.oneCell']) λaH4 ey m12 z12=>?_⟩;have Mu:Still aO aH4:=gU.box (aW _) m12;have h12:=h10.still Mu;have g12:=g10.trans (h10.gone Mu);have Ww:=qQ.still Mu;have iH:=aIe.still Mu;refine⟨_,Ww.aj rfl,h12.L8 s1.out λbl aKr g13 m13=>?_⟩;have NT:=Ww.mod g13.mod (ap h12 Ww (by decide) (by decide) (by decide) (by decide) (by decide));have iW:=iH.mod g13.mod (ap h12 iH (by decide) (by decide) (by decide) (by decide) (by decide));have t13:=ey.mod g13.mod (ap h12 ey (by decide) (by decide) (by decide) (by decide) (by decide));have agX:=g12.trans g13;have azJ:Still w0 bl:=Mod.trans h0 agX.mod (λ_ h=>h) λj hj hk=>by have:=(h.lt hk).1;omega
  refine⟨_,NT.aj rfl,(arn aH9 azJ aKr b1 NT iW t13 b2 b3 b4 b5).mono ?_⟩;rintro _ bH ⟨rfl,qc,g14⟩;exact .inl ⟨_,rfl,aB (λh=>by simp at h) (λ_=>⟨rfl,qc,agX.trans g14⟩)⟩
def aph{p:Option Addr}{n c:Nat}{V:List A.Vr}(hv:A.dz w p n c V)(hn:n<900000)(he:∀v∈V,v.exp=false):aH3 Qr #[.slice p n c] w (λe w'=>e=.returned (.slice none 0 0)/\Still w w'):=by
 obtain⟨rfl,hc,_⟩:=id hv;refine amI _ _ _ _ _ ?_;refine⟨λo on oc x w1=>o=none/\on=0/\oc=0/\(∃i:Nat,x=(i:Int)/\i<=V.length)/\Still w w1,λ_ _ _ x _=>(V.length-x).toNat,⟨rfl,rfl,rfl,⟨0,rfl,dx _⟩,Still.refl _⟩,?_⟩;rintro _ _ _ x _ w1 ⟨rfl,rfl,rfl,⟨i,rfl,hi⟩,s1⟩;refine aB (λhx=>?_) (λhx=>⟨rfl,s1⟩);have hx:i<V.length:=by have:=aT hx;omega
 obtain⟨a,rfl,c0,c1,c2,c3⟩:=(hv.still s1).get (gJ hx);refine⟨by omega,by omega,_,_,_,_,by rw[bT];exact c0,by rw[bT];exact c1,by rw[bT];exact c2,by rw[bT];exact c3,?_⟩;refine aP λw2 r2 s2 z2=>aH5 (g:=w1.heap.size) (o:=0) r2 (by simp) (by simp[Value.oneCell']) λw3 r3 m3 z3=>?_;refine⟨_,r3.aj rfl,aB (λh=>by rw[he _ (ou hx)]at h;cases h) (λ_=>?_)⟩;rw[wrap_i64 (by omega) (by omega)];exact⟨⟨rfl,rfl,rfl,⟨i+1,by omega,by omega⟩,s1.trans (s2.box (aW _) m3)⟩,by dsimp only;omega⟩
def R4(l:List ag):total l=b8 l:=rfl
def Tk{l:List ag}{x:ag}(h:x∈l):x.length<=b8 l:=by
 induction l with
 |nil=>cases h
 |cons a r ih=>
  simp only[b8,fW,aIV]at ih⊢;rcases iQ.1 h with rfl|h
  .omega
  .have:=ih h;omega
def atg(he:Env w){p:Option Addr}{c:Nat}{f:List ag}(hf:c_ w p f.length f)(hl:b8 f<=3000){aG:ag}(hi:aG.length<=50000):
  aH3 Rf #[.slice p f.length c,.slice none 0 0,.string (S []),.int .i64 0,.string (S aG)] w (λe w'=>(∃x:ag,e=.returned (.string (S x)))/\Still w w'):=by
 refine aoa _ _ _ _ _ _ _ _ _ _ _ ?_;refine(aLp he hf (by rw[R4];omega)).mono ?_;rintro _ w1 ⟨rfl,s1⟩;refine .inl ⟨_,rfl,(aLp (he.still s1) (c_.nil w1) (by decide)).mono ?_⟩;rintro _ w2 ⟨rfl,s2⟩;have cZ:=s1.trans s2;refine .inl ⟨_,rfl,(SA (he.still cZ) (n:=0) (by decide) (by decide)).mono ?_⟩;rintro _ w3 ⟨rfl,s3⟩;have iK:=cZ.trans s3;have h1:(encode f).length<=33000:=by have:=K0 (l:=f) λx hx=>Lo (n:=x.length) (by have:=Tk hx;omega);rw[R4]at this;omega
 have h2:(encode []).length=0:=rfl;have h3:(dec (0:Int).toNat).length<=20:=GZ (by decide);have hin:total [encode f,encode [],[],dec (0:Int).toNat,aG]<=90000:=by simp only[total,fW,qZ,aIV,aLm,cm];omega
 refine .inl ⟨_,rfl,aP λw4 r4 s4 z4=>?_⟩;have iL:=iK.trans s4;have ra:c_ w4 (some ⟨w3.heap.size,0,none⟩) 5 [encode f,encode [],[],dec (0:Int).toNat,aG]:=c_.row r4;refine(aLp (he.still iL) ra (by omega)).mono ?_;rintro _ w5 ⟨rfl,s5⟩;have hle:(encode [encode f,encode [],[],dec (0:Int).toNat,aG]).length<1000000:=by have:=K0 (l:=[encode f,encode [],[],dec (0:Int).toNat,aG]) λx hx=>Lo (n:=x.length) (by have:=Tk hx;rw[R4]at hin;omega);omega
 refine .inl ⟨_,rfl,(auL _ hle).mono ?_⟩;rintro _ w6 ⟨rfl,s6⟩;exact .inl ⟨_,rfl,⟨_,rfl⟩,(iL.trans s5).trans s6⟩
def au9(h:bF w w0 K s)(x:ag):aH3 PN #[.pointer (some ⟨K.hb,0,none⟩),.string (S x)] w (λe w'=>e=.returned (.bool false)/\w'=w):=by refine alv _ _ _ _ ?_;obtain⟨y,hy⟩:=h.gG;exact⟨_,h.cell λ_ _=>rfl,_,hy.row.aj rfl,aB (λh=>by cases h) (λ_=>aB (λ_=>⟨rfl,rfl⟩) (λh=>by simp at h))⟩
def aqc(h0:Still w0 w)(h:bF w w0 K s)(st:Int)(out err:ag)(ho:s.out.length+out.length<=1000000000)(he:s.err.length+err.length<=1000000):
  aH3 C6 #[.pointer (some ⟨K.hb,0,none⟩),.agg #[.int .i64 st,.string (S out),.string (S err)]] w (λe w'=>e=.returned (.tuple #[])/\bF w' w0 K {s with st:=st,out:=s.out++out,err:=s.err++err}/\cA (Ft K w) w (Ft K w') w'):=by
 refine akw _ _ _ _ _ _ ?_;refine aP λw1 r1 s1 z1=>?_;have h1:=h.still s1;refine⟨_,r1.aj rfl,h1.Mr st λw2 h2 g2 m2=>?_⟩;have sD:Still w2 w2.drew:=(Still.refl _).cK;have ap:∀{w:World} {s:Sh} {k:Nat} {ty:TypeId} {cs:Array Value},bF w w0 K s->Row w k ty cs->ty≠fX->ty≠kY->ty≠aIX->ty≠5->ty≠j5->¬Ft K w k:=λh hr a b c d e=>h.apart hr a b c d e;have r2:=(r1.mod g2.mod (ap h1 r1 (by decide) (by decide) (by decide) (by decide) (by decide))).still sD;have Wx:=h2.still sD;obtain⟨vp,vc,hh2,_⟩:=Wx.aIx;have CP:=((h.gone s1).trans g2).trans (h2.gone sD);refine⟨λwq=>Row wq K.hb fX ⟨iu K vp vc {s with st:=st}⟩/\Row wq w.heap.size 35 ⟨[.int .i64 st,.string (S out),.string (S err)]⟩,⟨hh2,r2⟩,_,λwq hq=>hq.1.aj rfl,_,λwq hq=>hq.2.aj rfl,by dsimp only;omega,Wx.L8 (s.out++out) λw3 h3 g3 m3=>?_⟩;have sE:Still w3 w3.drew:=(Still.refl _).cK;have r3:=(r2.mod g3.mod (ap Wx r2 (by decide) (by decide) (by decide) (by decide) (by decide))).still sE;have aIK:=h3.still sE;obtain⟨vq,aKa,aII,_⟩:=aIK.aIx;have mw:=(CP.trans g3).trans (h3.gone sE);have hz:w0.heap.size<=w3.drew.heap.size:=lH h0.size mw.mod.size;refine⟨λwq=>Row wq K.hb fX ⟨iu K vq aKa {s with st:=st,out:=s.out++out}⟩/\Row wq w.heap.size 35 ⟨[.int .i64 st,.string (S out),.string (S err)]⟩,⟨aII,r3⟩,_,λwq hq=>hq.1.aj rfl,_,λwq hq=>hq.2.aj rfl,(aIK.acQ hz err he).mono ?_⟩;rintro _ w4 ⟨rfl,h4,g4⟩;exact .inl ⟨_,_,rfl,rfl,rfl,h4,mw.trans g4⟩
def ath(aH9:fN w0)(h0:Still w0 w)(h:bF w w0 K s){T1:Tree}(hT:iV T1){t:Tb}{w2:World}(xd:Mod (λk=>k=K.a\/k=K.g) w w2){n:Nat}(hn:n<=12)(h2:cQ w2 w0.heap.size K.a K.g (some t) n T1):
  aJ_ w2 w0 K s/\aH3 FD #[.pointer (some ⟨K.a,0,none⟩)] w2 (λe w3=>(∃p1 n1 c1 p2 n2 c2,e=.returned (.tuple #[.slice p1 n1 c1,.slice p2 n2 c2]))/\bF w3 w0 K {s with T:=T1}/\cA (Ft K w) w (Ft K w3) w3/\Mod (λk=>k=K.a) w2 w3):=by
 obtain⟨t1,t2,t3,t4,t5,t6,t7,t8,t9,t10,t11,t12,t13⟩:=h.tys;obtain⟨x0,hx0⟩:=h.gG;have ap:∀k,(k=K.a\/k=K.g)->k<w.heap.size->k≠K.hb/\k≠K.sb/\k≠K.pb/\k≠K.fm/\∀t cs,Row w k t cs->t≠aIX/\t≠5/\t≠32:=λk hk _=>by
  rcases hk with rfl|rfl
  .refine⟨λe=>t2 e.symm,λe=>t6 e.symm,t10,t11,λt cs hr=>?_⟩
   have e:t=j5:=Fj λhne=>hr.ne h.dh.top hne rfl;subst e;exact⟨by decide,by decide,by decide⟩
  .exact⟨λe=>t3 e.symm,λe=>t7 e.symm,t12,t13,λt cs hr=>absurd rfl (h.dh.now.cY hr)⟩
 have yU:Still w0 w2:=Mod.trans h0 xd (λ_ h=>h) λk hk hS=>by
  rcases hS with e|e
  .have:=h.dh.low.1;omega
  .have:=h.dh.low.2;omega
 refine⟨h.toaJ_.mod xd ap,(acK aH9.env yU h2 hn).mono ?_⟩;rintro _ w3 ⟨⟨p1,n1,c1,p2,n2,V7,rfl⟩,h3,m3⟩;have A3:Mod (λk=>k=K.a\/k=K.g) w w3:=Mod.trans xd m3 (λ_ h=>h) (λ_ _ h=>.inl h);have rU:aJ_ w3 w0 K s:=h.toaJ_.mod A3 ap;refine⟨⟨_,_,_,_,_,_,rfl⟩,⟨⟨hT,rU.iM,rU.fns,rU.aIx,by obtain⟨x,hx⟩:=rU.gG;exact⟨x,hx.hO,hx.mo,hx.aIh⟩,rU.low,rU.CH⟩,h3.top,h3.now,h3.aIh,h3.low,λt ht=>by cases ht⟩,⟨A3.weaken λk hk=>?_,λk hk=>.inl ?_⟩,m3⟩
 .rcases hk with e|e
  .exact .inr (.inl e)
  .exact .inr (.inr (.inl e))
 .rcases hk with hk|hk
  .exact .inl hk
  .refine .inr ((Fc.same λo=>World.cell?_of_block (A3.block _ hx0.row.lt λhs=>?_)).1 hk)
   rcases hs with e|e
   .exact t6 e
   .exact t7 e
def rE(T:Tree)(f:List ag)(aG:ag)(st:Int)(out err:ag)(T':Tree):Prop:=∀(w w0:World) (a g pb:Nat) (t:Tb) (p:Option Addr) (c B:Nat),fN w0->Still w0 w->cQ w w0.heap.size a g (some t) 0 T->iC w pb a->¬RF (some t) pb->aV w B b6 1 (.slice p f.length c) f.length (bI f)->
 aH3 F3 #[.pointer (some ⟨pb,0,none⟩),.slice p f.length c,.string (S aG)] w (λe w'=>e=.returned (.tuple #[.agg #[.int .i64 st,.string (S out),.string (S err)],.bool true])/\(∃n,n<=12/\cQ w' w0.heap.size a g (some t) n T')/\Mod (SF a g (some t)) w w')
end Go.Proofs.YtihaaoehhgmphaaGreatDoor
namespace Go.Proofs.YtihaaoehhgmphaaGreatDoor
open IntKind Go.RowKit Vc
set_option maxRecDepth 100000
variable{w w0:World}
def aKD:List (ag×FuncId):=[([116,114,117,101],Y9),([102,97,108,115,101],Zj),([101,99,104,111],Dp),([104,101,97,100],FQ),([116,97,105,108],FR),([119,99],aLk),([115,111,114,116],Bo),([117,110,105,113],Dq),([99,117,116],FW),([116,114],aLl),([103,114,101,112],FT),([98,97,115,101,110,97,109,101],Ym),([100,105,114,110,97,109,101],Yw)]
def B_:List (ag×FuncId):=[([99,97,116],FK),([99,112],YR),([109,118],YS),([108,110],YT),([114,109],YU),([109,107,100,105,114],Yr),([114,109,100,105,114],Ys),([116,111,117,99,104],Yt),([99,104,109,111,100],Yu),([108,115],YV),([116,101,115,116],Yv),([91],X6),([99,109,112],YJ),([116,101,101],FL),([114,101,97,100,108,105,110,107],XT)]
def MX(l:List (ag×FuncId)):List (ag×Value):=l.map λx=>(x.1,.func (.func x.2) #[] #[])
def aoG:(aKD.all λx=>dP aM x.2)=true:=by kernel_rfl
def aoH:(B_.all λx=>dP aM x.2)=true:=by kernel_rfl
def qt:Tryz.prog.underlying 81=some (.map b6 45):=rfl
def ati(w:World):(zeroValue 45).run aM w=.ok .nilFunc w:=rfl
def gL:Tryz.prog.underlying 426=some (.map b6 424):=rfl
def abV(w:World):(zeroValue 424).run aM w=.ok .nilFunc w:=rfl
def Lf{f0:ag}{fr:List ag}{fn:FuncId}(hm:(f0,fn)∈aKD){aG:ag}{st:Int}{out:ag}(hf:aI2 fn fr aG st out){p:Option Addr}{c:Nat}(he:fN w)(h:aIj w p c (f0::fr)):
  aH3 Ds #[.slice p (f0::fr).length c,.string (S aG)] w (λe w'=>e=.returned (.tuple #[.agg #[.int .i64 st,.string (S out),.string (S [])],.bool true])/\Still w w'):=by
 refine am_ _ _ _ _ _ _ ?_;refine aP λw0 r0 s0 z0=>l9 ?_;have s1:Still w (w0.alloc (.map #[] 0)):=s0.trans ((Mod.refl _ _).alloc _);have za:w.heap.size<=w0.heap.size:=s0.size;have rr:Row (w0.alloc (.map #[] 0)) w.heap.size 35 ⟨[.int .i64 0,.string (S []),.string (S [])]⟩:=r0.still ((Mod.refl _ _).alloc _);have f1:=oB.new w0;generalize w0.alloc (.map #[] 0)=w1 at*;refine dJ qt f1 (by decide) rfl λw2 f2 m2 z2=>?_;refine dJ qt f2 (by decide) rfl λw3 f3 m3 z3=>?_;refine dJ qt f3 (by decide) rfl λw4 f4 m4 z4=>?_;refine dJ qt f4 (by decide) rfl λw5 f5 m5 z5=>?_;refine dJ qt f5 (by decide) rfl λw6 f6 m6 z6=>?_;refine dJ qt f6 (by decide) rfl λw7 f7 m7 z7=>?_;refine dJ qt f7 (by decide) rfl λw8 f8 m8 z8=>?_;refine dJ qt f8 (by decide) rfl λw9 f9 m9 z9=>?_;refine dJ qt f9 (by decide) rfl λaO f10 m10 pz=>?_;refine dJ qt f10 (by decide) rfl λaX f11 m11 xh=>?_;refine dJ qt f11 (by decide) rfl λaH4 f12 m12 z12=>?_;refine dJ qt f12 (by decide) rfl λbl f13 m13 vz=>?_;refine dJ qt f13 (by decide) rfl λbH f14 m14 NU=>?_;have fl:oB bH w0.heap.size (MX aKD):=f14;have jV:=(((((((((((((s1.box za m2).box za m3).box za m4).box za m5).box za m6).box za m7).box za m8).box za m9).box za m10).box za m11).box za m12).box za m13).box za m14);clear f1 f2 f3 f4 f5 f6 f7 f8 f9 f10 f11 f12 f13 f14;have aI8:Row bH w.heap.size 35 ⟨[.int .i64 0,.string (S []),.string (S [])]⟩:=(((((((((((((rr.mod m2 (by omega)).mod m3 (by omega)).mod m4 (by omega)).mod m5 (by omega)).mod m6 (by omega)).mod m7 (by omega)).mod m8 (by omega)).mod m9 (by omega)).mod m10 (by omega)).mod m11 (by omega)).mod m12 (by omega)).mod m13 (by omega)).mod m14 (by omega));refine aB (λh=>absurd (aT h) (by simp;omega)) (λ_=>?_);have qc:=h.still jV;obtain⟨a,rfl,hc⟩:=qc.get (j:=0) (by simp);refine⟨by decide,by simp,_,hc,?_⟩;refine aeG qt ati fl (eo.2 ⟨(f0,fn),hm,rfl⟩) ?_;refine aB (λh=>by cases h) (λ_=>⟨by decide,by simp;omega,?_⟩);refine zG (cap:=[]) (aB (λ_=>?_) (λh=>by rw[ql.1 aoG _ hm]at h;cases h));refine(hf bH _ _ (he.still jV) qc.tail).mono ?_;rintro _ cB ⟨rfl,og⟩;refine .inl ⟨_,_,_,_,rfl,?_⟩;refine aP λdM sS lB z19=>aH5 (g:=cB.heap.size) (o:=0) sS (by simp) (by simp[Value.oneCell']) λeF qM m20 z20=>?_;refine aB (λh=>by cases h) (λ_=>⟨_,_,_,qM.aj rfl,qM.aj rfl,qM.aj rfl,?_⟩);have azK:Row eF w.heap.size 35 ⟨[.int .i64 0,.string (S []),.string (S [])]⟩:=(((aI8.still og).still lB).mod m20 (by have:=aI8.lt;have:=og.size;omega));refine aH5 (g:=w.heap.size) (o:=0) azK (by simp) (by simp[Value.oneCell']) λeL Cx m21 z21=>?_;exact⟨_,_,_,Cx.aj rfl,Cx.aj rfl,Cx.aj rfl,rfl,((((jV.trans og).trans lB).box (by have:=jV.size;have:=og.size;omega) m20).box (aW _) m21)⟩
def DF{f0:ag}{fr:List ag}{fn:FuncId}(hm:(f0,fn)∈aKD)(hn:(B_.all λx=>!decide (x.1=f0))=true)(hl:f0.length<=1000){aG:ag}{st:Int}{out:ag}(hf:aI2 fn fr aG st out)(T:Tree):rE T (f0::fr) aG st out [] T:=by intro w w0 a g pb t p c B aH9 h0 hst vv hrf ho;refine YX _ _ _ _ _ _ _ ?_;refine aP λwA r0 s0 z0=>l9 ?_;have s1:Still w (wA.alloc (.map #[] 0)):=s0.trans ((Mod.refl _ _).alloc _);have za:w.heap.size<=wA.heap.size:=s0.size;have rr:Row (wA.alloc (.map #[] 0)) w.heap.size 35 ⟨[.int .i64 0,.string (S []),.string (S [])]⟩:=r0.still ((Mod.refl _ _).alloc _);have f1:=oB.new wA;generalize wA.alloc (.map #[] 0)=w1 at*;refine dJ gL f1 (by decide) rfl λw2 f2 m2 z2=>?_;refine dJ gL f2 (by decide) rfl λw3 f3 m3 z3=>?_;refine dJ gL f3 (by decide) rfl λw4 f4 m4 z4=>?_;refine dJ gL f4 (by decide) rfl λw5 f5 m5 z5=>?_;refine dJ gL f5 (by decide) rfl λw6 f6 m6 z6=>?_;refine dJ gL f6 (by decide) rfl λw7 f7 m7 z7=>?_;refine dJ gL f7 (by decide) rfl λw8 f8 m8 z8=>?_;refine dJ gL f8 (by decide) rfl λw9 f9 m9 z9=>?_;refine dJ gL f9 (by decide) rfl λaO f10 m10 pz=>?_;refine dJ gL f10 (by decide) rfl λaX f11 m11 xh=>?_;refine dJ gL f11 (by decide) rfl λaH4 f12 m12 z12=>?_;refine dJ gL f12 (by decide) rfl λbl f13 m13 vz=>?_;refine dJ gL f13 (by decide) rfl λbH f14 m14 NU=>?_;refine dJ gL f14 (by decide) rfl λbQ f15 m15 I8=>?_;refine dJ gL f15 (by decide) rfl λbW f16 m16 Wy=>?_;have fl:oB bW wA.heap.size (MX B_):=f16;have oh:=(((((((((((((((s1.box za m2).box za m3).box za m4).box za m5).box za m6).box za m7).box za m8).box za m9).box za m10).box za m11).box za m12).box za m13).box za m14).box za m15).box za m16);clear f1 f2 f3 f4 f5 f6 f7 f8 f9 f10 f11 f12 f13 f14 f15 f16;have r16:Row bW w.heap.size 35 ⟨[.int .i64 0,.string (S []),.string (S [])]⟩:=(((((((((((((((rr.mod m2 (by omega)).mod m3 (by omega)).mod m4 (by omega)).mod m5 (by omega)).mod m6 (by omega)).mod m7 (by omega)).mod m8 (by omega)).mod m9 (by omega)).mod m10 (by omega)).mod m11 (by omega)).mod m12 (by omega)).mod m13 (by omega)).mod m14 (by omega)).mod m15 (by omega)).mod m16 (by omega));refine aB (λh=>absurd (aT h) (by simp;omega)) (λ_=>?_);have hA:=(aIj.of ho).still oh;obtain⟨ad,rfl,hc⟩:=hA.get (j:=0) (by simp);refine⟨by decide,by simp,_,hc,?_⟩;refine adM gL abV fl hl (by rw[MX,List.all_map];exact hn) ?_;refine aB (λ_=>?_) (λh=>by cases h);refine(Lf hm hf ((aH9.still h0).still oh) hA).mono ?_;rintro _ cB ⟨rfl,og⟩;refine .inl ⟨_,_,_,_,rfl,aH5 (g:=w.heap.size) (o:=0) (r16.still og) (by simp) (by simp[Value.oneCell']) λeF qM m20 z20=>?_⟩;have nh:Still w eF:=(oh.trans og).box (aW _) m20;exact⟨_,_,_,qM.aj rfl,qM.aj rfl,qM.aj rfl,rfl,⟨0,by decide,hst.still nh⟩,nh.weaken λ_ h=>h.elim⟩
def nY:List (List ag):=[[[115,111,114,116]],[[115,111,114,116],[45,114]],[[117,110,105,113]],[[117,110,105,113],[45,99]],[[104,101,97,100],[45,110],[50]],[[116,97,105,108],[45,110],[49]],[[119,99]],[[116,114],[97],[98]],[[103,114,101,112],[97]],[[99,117,116],[45,100],[97],[45,102],[49]]]
def abW(c:Bool){aG:ag}(hi:aG.length<=90000):(Mt c aG).length<=23*aG.length+23:=by have h1:=Dy aG;have h2:=xG aG;have:=R3 (c:=c) (cR aG).length (cR aG) (by omega);unfold Mt;omega
def adX{f0:ag}{fr:List ag}(h:(f0::fr)∈nY){aG:ag}(hi:aG.length<=30000):∃fn st out,(f0,fn)∈aKD/\aI2 fn fr aG st out/\out.length<=24*aG.length+124:=by
 have hfz:=xG aG;simp only[nY,iQ,vO,vZ]at h;rcases h with h|h|h|h|h|h|h|h|h|h<;>(injection h with h1 h2;subst h1 h2)
 .exact⟨Bo,_,_,by decide,R2 (.inl rfl) (by omega),by have:=abS [] aG;omega⟩
 .exact⟨Bo,_,_,by decide,R2 (.inr rfl) (by omega),by have:=abS [[45,114]] aG;omega⟩
 .exact⟨Dq,_,_,by decide,abU false (by omega),by have:=abW false (aG:=aG) (by omega);omega⟩
 .exact⟨Dq,_,_,by decide,abU true (by omega),by have:=abW true (aG:=aG) (by omega);omega⟩
 .exact⟨FQ,_,_,by decide,as7 (n:=2) (by decide) (by decide) (by omega),by have:=acW (cR aG) 2;rw[aLb];omega⟩
 .exact⟨FR,_,_,by decide,as8 (n:=1) (by decide) (by decide) (by decide) (by omega),by have:=Ls (cR aG) ((cR aG).length-1);rw[aLb];omega⟩
 .exact⟨aLk,_,_,by decide,awp (by omega),by have:=awq (aG:=aG) (by omega);omega⟩
 .exact⟨aLl,_,_,by decide,awr 97 98 (by omega),by rw[A6,aIB];omega⟩
 .exact⟨FT,_,_,by decide,ata 97 (by omega),by have:=RJ (λx=>hasB 97 x) (cR aG);rw[aLb,As];omega⟩
 .exact⟨FW,_,_,by decide,au8 97 (by omega),by have:=Tj (nX 97) (acY 97) (cR aG);rw[UR,aLb];omega⟩
end Go.Proofs.YtihaaoehhgmphaaGreatDoor
namespace Go.Proofs.YtihaaoehhgmphaaGreatDoor
open IntKind Go.RowKit Vc
set_option maxRecDepth 100000
variable{w w0:World}{K:Kx}{s:Sh}
abbrev ayr:TypeId:=35
def Ran(w w0:World)(K:Kx)(t:Tb)(st:Int)(out err:ag)(T':Tree)(r:Option Addr)(ok:Bool)(w':World):Prop:=∃rb,r=some ⟨rb,0,none⟩/\ok=true/\w.heap.size<=rb/\Row w' rb ayr ⟨[.int .i64 st,.string (S out),.string (S err)]⟩/\(∃n,n<=12/\cQ w' w0.heap.size K.a K.g (some t) n T')/\Mod (SF K.a K.g (some t)) w w'
def api(aH9:fN w0)(h0:Still w0 w)(h:bF w w0 K s){p:Option Addr}{c B:Nat}{f:List ag}(hf:aV w B b6 1 (.slice p f.length c) f.length (bI f))(hfl:b8 f<=3000)(hin:s.aG.length<=50000){vp:Option Addr}{vn vc:Nat}{V:List A.Vr}(hv:A.dz w vp vn vc V)(Wz:vn<900000)(WA:∀v∈V,v.exp=false)
  {st:Int}{out err:ag}{T':Tree}(ht:rE s.T f s.aG st out err T')(hT:iV T')(hb:0<s.b_)(ho:s.out.length+out.length<=1000000000)(he:s.err.length+err.length<=1000000):
  aH3 O2 #[.pointer (some ⟨K.hb,0,none⟩),.slice p f.length c,.slice vp vn vc] w (λe w'=>e=.returned (.tuple #[])/\bF w' w0 K {s with T:=T',b_:=s.b_-1,st:=st,out:=s.out++out,err:=s.err++err}/\cA (Ft K w) w (Ft K w') w'):=by
 refine akd _ _ _ _ _ _ _ _ _ ?_;have sD:Still w w.drew:=(Still.refl _).cK;have hD:=h.still sD;obtain⟨vpD,yH,hhD,_⟩:=hD.aIx;obtain⟨xD,hxD⟩:=hD.gG;refine⟨λwq=>Row wq K.hb fX ⟨iu K vpD yH s⟩/\Row wq K.sb kY ⟨oJ K xD s⟩,⟨hhD,hxD.row⟩,_,λwq hq=>hq.1.aj rfl,_,λwq hq=>hq.1.aj rfl,_,λwq hq=>hq.2.aj rfl,_,λwq hq=>hq.1.aj rfl,(aph (hv.still sD) Wz WA).mono ?_⟩;rintro _ w1 ⟨rfl,s1⟩;have WB:=sD.trans s1;refine .inl ⟨_,_,_,rfl,⟨hhD.still s1,hxD.row.still s1⟩,(atg ((aH9.still h0).env.still WB) (c_.of (hf.still WB)) hfl hin).mono ?_⟩;rintro _ w2 ⟨⟨key,rfl⟩,s2⟩;have cZ:=WB.trans s2;have h2:=h.still cZ;refine .inl ⟨_,rfl,(au9 h2 key).mono ?_⟩;rintro _ w3 ⟨rfl,rfl⟩;refine .inl ⟨_,rfl,aB (λh=>by cases h) (λ_=>?_)⟩;obtain⟨x3,hx3⟩:=h2.gG;have yW:=h0.trans cZ;refine⟨_,h2.cell λ_ _=>rfl,_,hx3.row.aj rfl,(aaC h2.dh yW).mono ?_⟩;rintro _ w4 ⟨rfl,t,jC,m4,g1,g2,g3,g4⟩;have low:∀k,SF K.a K.g (some t) k->k=K.a\/k=K.g\/w3.heap.size<=k:=λk hk=>by
  rcases hk with e|e|⟨t',ht',hk⟩
  .exact .inl e
  .exact .inr (.inl e)
  .obtain rfl:=bM ht'
   rcases hk with rfl|rfl|rfl|rfl<;>exact .inr (.inr (by assumption))
 have na:∀{b:Nat} {ty:TypeId} {cs:Array Value},Row w3 b ty cs->ty≠j5->b≠K.a:=λhr hne=>hr.ne h2.dh.top hne;obtain⟨vq,aKa,aII,_⟩:=h2.aIx;have sE:Still w4 w4.drew:=(Still.refl _).cK;have EZ:=(aII.mod m4 (na aII (by decide))).still sE;have hs4:=(hx3.row.mod m4 (na hx3.row (by decide))).still sE;have WC:aV w4.drew B b6 1 (.slice p f.length c) f.length (bI f):=(((hf.still cZ).mod m4 λk hk e=>by obtain⟨cur,hr⟩:=(hf.still cZ).typed hk;exact na hr (by decide) e)).still sE;have I7:Still w0 w4.drew:=Still.trans (Mod.trans yW m4 (λ_ h=>h) λj hj e=>by have:=h2.dh.low.1;omega) sE;have UU:=jC.still sE;have I6:∀k,w4.heap.size<=k->¬RF (some t) k:=λk hk hr=>by have:=(jC.me (RF.sf (a:=K.a) (g:=K.g) hr)).2;omega
 have I9:∀k,w4.heap.size<=k->¬SF K.a K.g (some t) k:=λk hk hr=>by have:=(jC.me hr).2;omega
 refine .inl ⟨rfl,Ran w4 w0 K t st out err T',⟨λwq=>Row wq K.hb fX ⟨iu K vq aKa s⟩/\Row wq K.sb kY ⟨oJ K x3 s⟩,⟨EZ,hs4⟩,_,λwq hq=>hq.1.aj rfl,_,λwq hq=>hq.2.aj rfl,_,λwq hq=>hq.1.aj rfl,_,λwq hq=>hq.1.aj rfl,_,λwq hq=>hq.2.aj rfl,_,λwq hq=>hq.1.aj rfl,?_,?_⟩,?_⟩
 .refine(aKY rfl).mono ?_
  rintro _ w5 ⟨rfl,p5,s5,z5⟩;have ez:w4.drew.heap.size=w4.heap.size:=rfl;refine .inl ⟨_,rfl,⟨EZ.still s5,hs4.still s5⟩,?_,?_⟩
  .refine(ht w5 w0 K.a K.g _ t p c B aH9 (I7.trans s5) (UU.still s5) p5 (I6 _ (QA ez)) (WC.still s5)).mono ?_
   rintro _ w6 ⟨rfl,⟨n,hn,h6⟩,m6⟩;refine .inl ⟨_,_,_,_,rfl,aP λw7 r7 s7 z7=>?_⟩;have kk:∀{b:Nat} {ty:TypeId} {cs:Array Value},Row w3 b ty cs->ty≠j5->¬SF K.a K.g (some t) b:=λhr hne hk=>by
    rcases low _ hk with e|e|e
    .exact na hr hne e
    .exact aIY h2.dh.now hr e
    .have:=hr.lt;omega
   refine⟨⟨((EZ.still s5).mod m6 (kk aII (by decide))).still s7,((hs4.still s5).mod m6 (kk hx3.row (by decide))).still s7⟩,aH5 (g:=w6.heap.size) (o:=0) r7 (by simp) (by simp[Value.oneCell']) λw8 r8 m8 z8=>?_⟩;have IZ:=m6.size;have VM:=s5.size;refine⟨w6.heap.size,rfl,rfl,by omega,r8,⟨n,hn,(h6.still s7).mod m8 λk hk e=>I9 _ (by omega) hk⟩,Mod.trans (Mod.trans (sE.trans s5) m6 (λ_ h=>h.elim) (λ_ _ h=>h)) (s7.box (aW _) m8) (λ_ h=>h) (λ_ _ h=>h.elim)⟩
  .refine aP λw9 r9 s9 z9=>⟨⟨(EZ.still s5).still s9,(hs4.still s5).still s9⟩,?_⟩
   refine(ht w9 w0 K.a K.g _ t p c B aH9 ((I7.trans s5).trans s9) ((UU.still s5).still s9) (p5.still s9) (I6 _ (QA ez)) ((WC.still s5).still s9)).mono ?_;rintro _ aO ⟨rfl,⟨n,hn,h10⟩,m10⟩;have VM:=s5.size;have aIe:=r9.mod m10 (I9 _ (by omega));refine .inl ⟨_,_,_,_,rfl,aH5 (g:=w5.heap.size) (o:=0) aIe (by simp) (by simp[Value.oneCell']) λaX aIk m11 xh=>?_⟩;exact⟨w5.heap.size,rfl,rfl,by omega,aIk,⟨n,hn,h10.mod m11 λk hk e=>I9 _ (by omega) hk⟩,Mod.trans (Mod.trans ((sE.trans s5).trans s9) m10 (λ_ h=>h.elim) (λ_ _ h=>h)) m11 (λ_ h=>h) (λj hj e=>by omega)⟩
 .refine aP λaH4 ey eN z12=>⟨⟨EZ.still eN,hs4.still eN⟩,(aKY rfl).mono ?_⟩
  have ez:w4.drew.heap.size=w4.heap.size:=rfl;rintro _ bl ⟨rfl,NT,gy,vz⟩;refine .inl ⟨_,rfl,⟨(EZ.still eN).still gy,(hs4.still eN).still gy⟩,?_⟩;refine(ht bl w0 K.a K.g _ t p c B aH9 ((I7.trans eN).trans gy) ((UU.still eN).still gy) NT (I6 _ (by omega)) ((WC.still eN).still gy)).mono ?_;rintro _ bH ⟨rfl,⟨n,hn,qc⟩,m14⟩;have aI8:=(ey.still gy).mod m14 (I9 _ (by omega));refine .inl ⟨_,_,_,_,rfl,aH5 (g:=w4.drew.heap.size) (o:=0) aI8 (by simp) (by simp[Value.oneCell']) λbQ qK m15 I8=>?_⟩;exact⟨w4.heap.size,rfl,rfl,aW _,qK,⟨n,hn,qc.mod m15 λk hk e=>I9 _ (by omega) hk⟩,Mod.trans (Mod.trans ((sE.trans eN).trans gy) m14 (λ_ h=>h.elim) (λ_ _ h=>h)) m15 (λ_ h=>h) (λj hj e=>by omega)⟩
 rintro _ _ _ bW ⟨rb,rfl,rfl,hrb,r16,⟨n,hn,aIH⟩,m16⟩;have m36:Mod (λk=>k=K.a\/k=K.g) w3 bW:=Mod.trans m4 m16 (λ_ h=>.inl h) λk hk hS=>by
  rcases low k hS with e|e|e
  .exact .inl e
  .exact .inr e
  .omega
 obtain⟨agY,hend⟩:=ath aH9 yW h2 hT m36 hn aIH;obtain⟨aGK,aGL,azL,_⟩:=agY.aIx;obtain⟨jd,azM⟩:=agY.gG;refine⟨_,azL.aj rfl,_,azM.row.aj rfl,hend.mono ?_⟩;rintro _ aH_ ⟨⟨p1,n1,c1,p2,n2,c2,rfl⟩,E0,g17,m17⟩;have aI9:=r16.mod m17 (r16.ne aIH.top (by decide));refine .inl ⟨_,_,_,_,_,_,rfl,aB (λh=>by cases h) (λ_=>?_)⟩;have CP:=h.gone cZ;have azN:=CP.trans g17;obtain⟨aIE,azO⟩:=E0.gG;have ap:∀{w:World} {s:Sh} {k:Nat} {ty:TypeId} {cs:Array Value},bF w w0 K s->Row w k ty cs->ty≠fX->ty≠kY->ty≠aIX->ty≠5->ty≠j5->¬Ft K w k:=λh hr a b c d e=>h.apart hr a b c d e;refine⟨_,E0.cell λ_ _=>rfl,_,azO.row.aj rfl,E0.axK _ λdM h19 g19=>?_⟩;have sS:=aI9.mod g19.mod (ap E0 aI9 (by decide) (by decide) (by decide) (by decide) (by decide));have azP:=azN.trans g19;have sF:Still dM dM.drew:=(Still.refl _).cK;have UW:=h19.still sF;obtain⟨x19,Il⟩:=UW.gG;obtain⟨azQ,azR,MY,_⟩:=UW.aIx;refine⟨λwq=>Row wq K.hb fX ⟨iu K azQ azR {s with T:=T'}⟩/\Row wq K.sb kY ⟨oJ K x19 {s with T:=T'}⟩,⟨MY,Il.row⟩,_,λwq hq=>hq.1.aj rfl,_,λwq hq=>hq.1.aj rfl,_,_,_,λwq hq=>hq.2.aj rfl,?_⟩;refine aP λeF qM nh z20=>⟨⟨MY.still nh,Il.row.still nh⟩,?_⟩;have aJa:=UW.still nh;have MZ:nV eF w0 K x19 {s with T:=T'}:=by obtain⟨xs,hs⟩:=Il.mo;exact⟨Il.hO.still nh,⟨xs,hs.still nh⟩,Il.aIh⟩
 have agZ:=azP.trans (h19.gone (sF.trans nh));have azS:w0.heap.size<=eF.heap.size:=lH h0.size agZ.mod.size;have ag0:=(sS.still sF).still nh;refine aJa.adV azS MZ (q:=⟨dM.drew.heap.size,0,none⟩) (u:=.slice p1 n1 c1) (v:=.slice p2 n2 c2) rfl rfl (qM.aj rfl) (qM.aj rfl) hb λp' c' eL m21 hst=>⟨?_,hst _ λaIf CQ g22=>?_⟩
 .obtain⟨xs,hs⟩:=MZ.mo
  exact⟨(MY.still nh).mod m21 λe=>hs.cY (MY.still nh) (by decide) e,MZ.row.mod m21 λe=>hs.cY MZ.row (by decide) e⟩
 obtain⟨x22,azT⟩:=CQ.gG;have ag1:=agZ.trans g22;have yL:=ag0.mod g22.mod (ap aJa ag0 (by decide) (by decide) (by decide) (by decide) (by decide));have azU:Still w0 aIf:=Mod.trans h0 ag1.mod (λ_ h=>h) λj hj hk=>by have:=(h.lt hk).1;omega
 refine⟨_,CQ.cell λ_ _=>rfl,_,azT.row.aj rfl,aB (λh=>by cases h) (λ_=>?_)⟩;refine⟨_,_,_,yL.aj rfl,yL.aj rfl,yL.aj rfl,(aqc azU CQ st out err ho he).mono ?_⟩;rintro _ pq ⟨rfl,h27,g27⟩;exact .inl ⟨rfl,rfl,h27,ag1.trans g27⟩
def atj{P:Program}{f:FuncId}{fn:Func}{c:Code}{args:List Value}{u:FrameMode}{w:World}{R:Ending->World->Prop}(pl:nQ)(hf:P.funcs[f]?=some fn)(hb:fn.body=some c)
  (h:vc P pl c 1 (kS P fn.results.toList R) (aIP fn.ntmps args) w):CallsD P f ⟨args⟩ u w λe u' w'=>u'=u/\R e w':=by
 refine callsD_of_wp hf hb ?_;have e:(Array.mk args)++Array.replicate (fn.ntmps-(Array.mk args).size) undef=⟨aIP fn.ntmps args⟩:=by apply jL;simp[Bv]
 rw[e];refine aIM (ds:=[]) c 1 _ _ w _ h (λl' w' _ hk=>?_) (λi l' w' _ hk=>hk.elim) (λl' w' hk=>?_) (λl' ch w' _ hk=>⟨rfl,hk⟩)
 .obtain⟨vs,h1,h2⟩:=oU (ds:=[]) hk
  exact⟨rfl,_,h1,h2⟩
 .obtain⟨vs,h1,h2⟩:=oU (ds:=[]) hk
  exact⟨rfl,_,h1,h2⟩
def aro(old:Option Addr)(Ic Ie:Nat)(cap:Option Addr)(u:FrameMode)(w:World)(R:Ending->World->Prop)(aD:XI old Ic Ie cap w R):CallsD aM JH #[.slice old Ic Ie,.pointer cap] u w λe u' w'=>u'=u/\R e w':=
 atj {live:=[],ja:=[]} Tryz.func303 rfl (Eq.mp (α:=XI old Ic Ie cap w R) (by kernel_rfl) aD)
def qR(h:bF w w0 K s){k:Nat}{ty:TypeId}{cs:Array Value}(hr:Row w k ty cs)(a:ty≠fX)(b:ty≠kY)(c:ty≠aIX)(d:ty≠5)(e:ty≠j5):¬Ft K w k:=h.apart hr a b c d e
def aqd(h:bF w w0 K s){p:Option Addr}{c:Nat}:
  aH3 Fl #[.pointer (some ⟨K.hb,0,none⟩),.slice p 0 c,.bool true] w (λe w'=>(∃q qD,e=.returned (.tuple #[.slice q s.V.length qD,.bool true])/\A.dz w' q s.V.length qD s.V)/\bF w' w0 K s/\cA (Ft K w) w (Ft K w') w'):=by
 refine akr _ _ _ _ _ _ _ ?_;refine aP λw1 r1 s1 z1=>aB (λ_=>?_) (λh=>by cases h);have h1:=h.still s1;obtain⟨vp,vc,hh,hv⟩:=h1.aIx;refine⟨_,r1.aj rfl,_,_,_,hh.aj rfl,λx w2=>x=0/\w2=w1,λ_ _=>0,⟨rfl,rfl⟩,?_⟩;rintro _ _ w2 ⟨rfl,rfl⟩;refine aB (λhx=>by simp at hx) (λ_=>⟨_,r1.aj rfl,_,_,_,hh.aj rfl,?_⟩);refine(aro vp s.V.length vc (some ⟨w.heap.size,0,none⟩) .returning w2 (λe w'=>e=.returned (.tuple #[])/\bF w' w0 K s/\cA (Ft K w) w (Ft K w') w'/\A.dz w' vp s.V.length vc s.V) ?_).mono ?_
 .refine⟨_,r1.aj rfl,h1.agP hv λw3 h3 g3 m3=>⟨rfl,h3,(h.gone s1).trans g3,?_⟩⟩
  exact dz.yw hv g3.mod λh0 a ha=>h1.Th hv h0 a ha
 .rintro _ u w3 ⟨rfl,rfl,h3,g3,CL⟩
  exact⟨⟨_,rfl⟩,rfl,⟨_,_,rfl,CL⟩,h3,g3⟩
def pR:Tryz.prog.underlying 294=some (.map b6 292):=rfl
def au_(w:World):(zeroValue 292).run aM w=.ok .nilFunc w:=rfl
def u9:List ag:=[[58],[98,114,101,97,107],[99,111,110,116,105,110,117,101],[114,101,116,117,114,110],[101,120,105,116],[101,120,112,111,114,116],[114,101,97,100,111,110,108,121],[117,110,115,101,116],[115,104,105,102,116],[115,101,116],[99,100],[112,119,100],[101,118,97,108],[114,101,97,100]]
def ava:aH3 QO #[] w (λe w'=>e=.returned (.map (some w.heap.size))/\(∃l,oB w' w.heap.size l/\l.map Prod.fst=u9)/\Still w w'):=by refine anl _ _ ?_;refine l9 ?_;have s1:Still w (w.alloc (.map #[] 0)):=(Mod.refl _ _).alloc _;have f1:=oB.new w;generalize w.alloc (.map #[] 0)=w1 at*;refine dJ pR f1 (by decide) rfl λw2 f2 m2 z2=>?_;refine dJ pR f2 (by decide) rfl λw3 f3 m3 z3=>?_;refine dJ pR f3 (by decide) rfl λw4 f4 m4 z4=>?_;refine dJ pR f4 (by decide) rfl λw5 f5 m5 z5=>?_;refine dJ pR f5 (by decide) rfl λw6 f6 m6 z6=>?_;refine dJ pR f6 (by decide) rfl λw7 f7 m7 z7=>?_;refine dJ pR f7 (by decide) rfl λw8 f8 m8 z8=>?_;refine dJ pR f8 (by decide) rfl λw9 f9 m9 z9=>?_;refine dJ pR f9 (by decide) rfl λaO f10 m10 pz=>?_;refine dJ pR f10 (by decide) rfl λaX f11 m11 xh=>?_;refine dJ pR f11 (by decide) rfl λaH4 f12 m12 z12=>?_;refine dJ pR f12 (by decide) rfl λbl f13 m13 vz=>?_;refine dJ pR f13 (by decide) rfl λbH f14 m14 NU=>?_;refine dJ pR f14 (by decide) rfl λbQ f15 m15 I8=>?_;have s:=(((((((((((((s1.box (aW _) m2).box (aW _) m3).box (aW _) m4).box (aW _) m5).box (aW _) m6).box (aW _) m7).box (aW _) m8).box (aW _) m9).box (aW _) m10).box (aW _) m11).box (aW _) m12).box (aW _) m13).box (aW _) m14).box (aW _) m15;exact⟨rfl,⟨_,f15,rfl⟩,s⟩
def afL(l:List (ag×List L.Pt))(f:List ag)(s s':Sh):Prop:=∀(w w0:World) (K:Kx) (D:Nat->Prop) (p:Option Addr) (n c:Nat) (fp:Option Addr) (fc B:Nat),fN w0->Still w0 w->bF w w0 K s->L.aIS.At w D l (.slice p n c)->Kept D (Ft K w) w->aV w B b6 1 (.slice fp f.length fc) f.length (bI f)->
 aH3 aLy #[.pointer (some ⟨K.hb,0,none⟩),.slice p n c,.slice fp f.length fc] w (λe w'=>e=.returned (.tuple #[])/\bF w' w0 K s'/\cA (Ft K w) w (Ft K w') w')
def atk(w:World):(zeroValue Rg).run aM w=.ok (.agg #[.int .i64 0,.bool false,.string (S []),.slice none 0 0,.slice none 0 0,.slice none 0 0,.slice none 0 0,.slice none 0 0]) w:=rfl
def aws:Tryz.prog.underlying 107=some (.map b6 Rg):=rfl
def atl{f0:ag}{fr:List ag}(hn:f0∉u9)(hlen:f0.length<=1000){st:Int}{out err:ag}{T':Tree}(ht:rE s.T (f0::fr) s.aG st out err T')(hT:iV T')(hb:0<s.b_)(hfl:b8 (f0::fr)<=3000)(hin:s.aG.length<=50000)(Wz:s.V.length<900000)(WA:∀v∈s.V,v.exp=false)(ho:s.out.length+out.length<=1000000000)(he:s.err.length+err.length<=1000000):
  afL [] (f0::fr) s {s with T:=T',b_:=s.b_-1,st:=st,out:=s.out++out,err:=s.err++err}:=by
 intro w w0 K D p n c fp fc B aH9 h0 h hs hD hf;obtain⟨rfl,hc⟩:=hs.len;obtain⟨gf,rfl,hcell⟩:=hf.aKq (j:=0) (by simp);have hcell:w.cell? ((Addr.mk gf 0 none).add (0*1))=some (.string (S f0)):=hcell;have hn':∀l:List (ag×Value),l.map Prod.fst=u9->(l.all λx=>!decide (x.1=f0))=true:=λl hl=>by
  rw[ql];intro x hx;have:x.1∈u9:=by rw[<-hl];exact eo.2 ⟨x,hx,rfl⟩
  simp only[JX,aLf];rintro rfl;exact hn this
 refine ak9 _ _ _ _ _ _ _ _ _ ?_;refine aB (λh=>absurd (aT h) (by simp;omega)) (λ_=>?_);have sD:Still w w.drew:=(Still.refl _).cK;refine⟨λwq=>wq.cell? ((Addr.mk gf 0 none).add (0*1))=some (.string (S f0)),sD.cell hcell,by decide,by simp,_,λwq hq=>hq,ava.mono ?_⟩;rintro _ w3 ⟨rfl,⟨l,fl,hl⟩,s3⟩;have iK:=sD.trans s3;have c3:w3.cell? ((Addr.mk gf 0 none).add (0*1))=some (.string (S f0)):=iK.cell hcell;refine .inl ⟨_,rfl,rfl,c3,adM pR au_ fl hlen (hn' l hl) ?_⟩;have sE:Still w3 w3.drew:=(Still.refl _).cK;have h3:=h.still (iK.trans sE);obtain⟨vp,vc,aII,_⟩:=h3.aIx;have look:∀{w9:World},Still w3.drew w9->(Instr.lookup 107 (.map (some K.fm)) (.string (S f0)) true).run aM w9=.ok (.tuple #[.agg #[.int .i64 0,.bool false,.string (S []),.slice none 0 0,.slice none 0 0,.slice none 0 0,.slice none 0 0,.slice none 0 0],.bool false]) w9:=λhst=>by
  rcases DI wB aws (atk _) ((h3.fns).still hst) (aJp rfl (qs hlen)) (by simp) true with⟨v,h1,_⟩|⟨_,h2⟩
  .cases h1
  .exact h2
 refine⟨λbody isF w8=>isF=false/\Still w3 w8,⟨λwq=>Row wq K.hb fX ⟨iu K vp vc s⟩/\wq.cell? ((Addr.mk gf 0 none).add (0*1))=some (.string (S f0)),⟨aII,sE.cell c3⟩,_,rfl,λwq hq=>hq.1.aj rfl,by decide,by simp,_,λwq hq=>hq.2,?_,?_⟩,?_⟩
 .refine⟨_,_,_,_,_,_,_,_,_,_,_,_,_,_,_,_,_,_,_,look (Still.refl _),aP λw4 r4 s4 z4=>⟨⟨aII.still s4,s4.cell (sE.cell c3)⟩,aH5 (g:=w3.drew.heap.size) (o:=0) r4 (by simp) (by simp[Value.oneCell']) λw5 r5 m5 z5=>⟨rfl,(sE.trans s4).box (aW _) m5⟩⟩⟩
 .refine aP λw4 r4 s4 z4=>⟨⟨aII.still s4,s4.cell (sE.cell c3)⟩,_,_,_,_,_,_,_,_,_,_,_,_,_,_,_,_,_,_,_,look s4,aH5 (g:=w3.drew.heap.size) (o:=0) r4 (by simp) (by simp[Value.oneCell']) λw5 r5 m5 z5=>⟨rfl,(sE.trans s4).box (aW _) m5⟩⟩
 rintro body _ _ w8 ⟨rfl,s8⟩;have vB:=iK.trans s8;have h8:=h.still vB;refine⟨λq qn qD b aX=>b=true/\qn=s.V.length/\A.dz aX q qn qD s.V/\bF aX w0 K s/\cA (Ft K w8) w8 (Ft K aX) aX,aB (λ_=>(aqd h8).mono ?_) (λh=>by cases h),?_⟩
 .rintro _ w9 ⟨⟨q,qD,rfl,I4⟩,h9,g9⟩
  exact .inl ⟨_,_,_,_,rfl,rfl,rfl,I4,h9,g9⟩
 rintro q _ qD _ _ aX ⟨rfl,rfl,I4,h11,g11⟩;have ag2:=(h.gone vB).trans g11;have azV:Still w0 aX:=Mod.trans h0 ag2.mod (λ_ h=>h) λj hj hk=>by have:=(h.lt hk).1;omega
 have hf8:=hf.still vB;have UX:aV aX B b6 1 (.slice (some ⟨gf,0,none⟩) (f0::fr).length fc) (f0::fr).length (bI (f0::fr)):=hf8.mod g11.mod λk hk hF=>by obtain⟨cur,hr⟩:=hf8.typed hk;exact qR h8 hr (by decide) (by decide) (by decide) (by decide) (by decide) hF
 refine aB (λh=>by cases h) (λ_=>aB (λh=>by cases h) (λ_=>aB (λh=>by cases h) (λ_=>?_)));refine(api aH9 azV h11 UX hfl hin I4 Wz WA ht hT hb ho he).mono ?_;rintro _ bl ⟨rfl,aKr,g13⟩;exact .inl ⟨rfl,rfl,aKr,ag2.trans g13⟩
def I_(fn:FuncId)(n:L.Nd)(s s':Sh):Prop:=∀(w w0:World) (K:Kx) (D:Nat->Prop) (cs:List Value),fN w0->Still w0 w->bF w w0 K s->L.eM w D n cs->Kept D (Ft K w) w->
 aH3 fn #[.pointer (some ⟨K.hb,0,none⟩),.agg ⟨cs⟩] w (λe w'=>e=.returned (.tuple #[])/\bF w' w0 K s'/\cA (Ft K w) w (Ft K w') w')
abbrev jH(n:L.Nd)(s s':Sh):Prop:=I_ C_ n s s'
def anA:dP aM OS=true:=by kernel_rfl
def aKR(h:bF w w0 K s)(h0:Still w0 w){w':World}(g:cA (Ft K w) w (Ft K w') w'):Still w0 w':=Mod.trans h0 g.mod (λ_ h=>h) λj hj hk=>by have:=(h.lt hk).1;omega
def atm{n:L.Nd}{f:List ag}{V1:List A.Vr}{s2 s3:Sh}{x1:rJ}{nm:ag}(hf:Ev s.T n.ws s.V f V1 0)(hsz:b8 f<=10000)(CD:n.ws.length<=10000)(hrl:n.rs.length<=10000)(he:s.err.length<=900000)
  (hr:sN n.rs {s with last:=-1,V:=V1} ⟨s.aG,[],false,false⟩ s2 x1)(hc:afL n.gF f {s2 with aG:=x1.aG,out:=if x1.is then[]else s2.out} s3)
  (hx:x1.is=true->0<s3.b_/\mg x1.dst nm/\nm≠[46]/\Lib.lastIndexByte (S (47::nm)) 47=0/\((aIr s3.T (47::nm)).d++s3.out).length<=50000):
  I_ C5 n s (aKC x1 s2 s3 nm):=by
 intro w w0 K D cs aH9 h0 h hn hD;obtain⟨pw,cw,pa,ca,pr,cr,po,co,pk,ck,rfl,hw,ha,hrd,ho,hk⟩:=hn.outs;refine akk _ _ _ _ _ _ _ _ _ _ _ _ _ _ _ _ _ _ _ _ _ ?_;refine aP λw1 r1 s1 z1=>aP λw2 r2 s2' z2=>?_;have q1:=r1.still s2';have cZ:=s1.trans s2';have h2:=h.still cZ;have CP:=h.gone cZ;refine⟨_,q1.aj rfl,h2.setLast (-1) λw3 h3 g3 m3=>?_⟩;have q3:=q1.mod g3.mod (qR h2 q1 (by decide) (by decide) (by decide) (by decide) (by decide));have n3:=r2.mod g3.mod (qR h2 r2 (by decide) (by decide) (by decide) (by decide) (by decide));have mw:=CP.trans g3;have D3:=hD.gone mw;have dk:∀{w':World},cA (Ft K w) w (Ft K w') w'->∀k,D k->¬Ft K w k:=λg k hk=>(hD k hk).2;refine⟨_,q3.aj rfl,_,_,_,n3.aj rfl,?_⟩;refine(apf aH9 (aKR h h0 mw) h3 (hw.mod mw.mod λk hk=>(hD k hk).2) D3 hf hsz CD he).mono ?_;rintro _ w4 ⟨h4,g4⟩;rw[aR rfl]at h4;obtain⟨o,oc,rfl,aKb,h4⟩:=h4;have Ws:=mw.trans g4;have q4:=q3.mod g4.mod (qR h3 q3 (by decide) (by decide) (by decide) (by decide) (by decide));have n4:=n3.mod g4.mod (qR h3 n3 (by decide) (by decide) (by decide) (by decide) (by decide));refine .inl ⟨_,_,_,_,rfl,aP λw5 r5 s5 z5=>aH5 (g:=w4.heap.size) (o:=0) r5 (by simp) (by simp[Value.oneCell']) λw6 r6 m6 z6=>?_⟩;have jW:Still w4 w6:=s5.box (aW _) m6;have h6:=h4.still jW;have NS:=h4.gone jW;have aKI:=Ws.trans NS;have q6:=q4.still jW;have n6:=n4.still jW;have of6:=aKb.still jW;refine aB (λ_=>?_) (λh=>by cases h);refine⟨_,q6.aj rfl,_,_,_,n6.aj rfl,?_⟩;refine(aqb aH9 (aKR h h0 aKI) h6 (hrd.mod aKI.mod λk hk=>(hD k hk).2) (hD.gone aKI) hr hrl hx (cap:=[.pointer (some ⟨w.heap.size,0,none⟩),.pointer (some ⟨w1.heap.size,0,none⟩),.pointer (some ⟨w4.heap.size,0,none⟩)]) anA ?_).mono ?_
 .intro w7 h7 g7
  have EY:=aKI.trans g7;have q7:=q6.mod g7.mod (qR h6 q6 (by decide) (by decide) (by decide) (by decide) (by decide));have n7:=n6.mod g7.mod (qR h6 n6 (by decide) (by decide) (by decide) (by decide) (by decide));have f7:=r6.mod g7.mod (qR h6 r6 (by decide) (by decide) (by decide) (by decide) (by decide));have of7:=of6.mod g7.mod λk hk hF=>by obtain⟨cur,hr⟩:=of6.typed hk;exact qR h6 hr (by decide) (by decide) (by decide) (by decide) (by decide) hF
  refine aj3 _ _ _ _ _ ?_;refine⟨_,q7.aj rfl,_,_,_,n7.aj rfl,_,_,_,f7.aj rfl,?_⟩;refine(hc w7 w0 K D pa n.gF.length ca o oc _ aH9 (aKR h h0 EY) h7 (ha.mod EY.mod λk hk=>(hD k hk).2) (hD.gone EY) of7).mono ?_;rintro _ w8 ⟨rfl,h8,g8⟩;exact .inl ⟨rfl,rfl,h8,g8⟩
 .rintro _ w8 ⟨rfl,h8,g8⟩
  exact .inl ⟨rfl,rfl,h8,aKI.trans g8⟩
def Ez(k:Int):FuncId:=if k=3 then Fw else if k=2 then Pn else if k=1 then Fx else C5
def HX{n:L.Nd}{s':Sh}(hk:n.k=3\/n.k=2\/n.k=1\/n.k=0)(hw:s.way=0)(hf:0<s.fuel)(h:I_ (Ez n.k) n {s with fuel:=s.fuel-1} s'):jH n s s':=by
 intro w w0 K D cs aH9 h0 hs hn hD;have hn0:=hn;obtain⟨pw,cw,pa,ca,pr,cr,po,co,pk,ck,rfl,rT,ha,hrd,ho,hks⟩:=hn.outs;refine ak3 _ _ _ _ _ _ _ _ _ _ _ _ _ _ _ _ _ _ _ _ _ ?_;refine aP λw1 r1 s1 z1=>aP λw2 r2 s2' z2=>?_;have cZ:=s1.trans s2';have h2:=hs.still cZ;have q2:=r1.still s2';obtain⟨x,hx⟩:=h2.gG;have hfl:=hx.aIh.2.2;refine⟨_,q2.aj rfl,_,h2.cell λ_ _=>rfl,aB (λhb=>absurd hw (by simpa using hb)) (λ_=>?_)⟩;refine⟨_,q2.aj rfl,_,h2.cell λ_ _=>rfl,_,hx.row.aj rfl,aB (λhb=>by have:=aT hb;omega) (λ_=>?_)⟩;refine⟨_,q2.aj rfl,_,h2.cell λ_ _=>rfl,_,hx.row.aj rfl,?_⟩;have ew:i64.wrap ((s.fuel:Int)-1)=((s.fuel-1:Nat):Int):=by rw[wrap_i64 (by omega) (by omega)];omega
 try dsimp only[zR]
 rw[ew];refine h2.awk (s.fuel-1) (by omega) λw3 h3 g3=>?_;have q3:=q2.mod g3.mod (qR h2 q2 (by decide) (by decide) (by decide) (by decide) (by decide));have n3:=r2.mod g3.mod (qR h2 r2 (by decide) (by decide) (by decide) (by decide) (by decide));have mw:=(hs.gone cZ).trans g3;have hn3:=hn0.mod mw.mod λk hk=>(hD k hk).2;have run:=h w3 w0 K D _ aH9 (aKR hs h0 mw) h3 hn3 (hD.gone mw);refine⟨_,n3.aj rfl,?_⟩;rcases hk with hk|hk|hk|hk
 .refine aB (λ_=>?_) (λhb=>absurd hk (a_ hb))
  refine⟨_,q3.aj rfl,_,_,_,_,_,_,_,_,_,_,_,_,_,_,_,_,_,_,n3.aj rfl,n3.aj rfl,n3.aj rfl,n3.aj rfl,n3.aj rfl,n3.aj rfl,n3.aj rfl,n3.aj rfl,?_⟩;rw[show Ez n.k=Fw by rw[hk];rfl]at run;refine run.mono ?_;rintro _ w4 ⟨rfl,h4,g4⟩;exact .inl ⟨rfl,rfl,h4,mw.trans g4⟩
 .refine aB (λhb=>by have:=aT hb;omega) (λ_=>aB (λ_=>?_) (λhb=>absurd hk (a_ hb)))
  refine⟨_,q3.aj rfl,_,_,_,_,_,_,_,_,_,_,_,_,_,_,_,_,_,_,n3.aj rfl,n3.aj rfl,n3.aj rfl,n3.aj rfl,n3.aj rfl,n3.aj rfl,n3.aj rfl,n3.aj rfl,?_⟩;rw[show Ez n.k=Pn by rw[hk];rfl]at run;refine run.mono ?_;rintro _ w4 ⟨rfl,h4,g4⟩;exact .inl ⟨rfl,rfl,h4,mw.trans g4⟩
 .refine aB (λhb=>by have:=aT hb;omega) (λ_=>aB (λhb=>by have:=aT hb;omega) (λ_=>aB (λ_=>?_) (λhb=>absurd hk (a_ hb))))
  refine⟨_,q3.aj rfl,_,_,_,_,_,_,_,_,_,_,_,_,_,_,_,_,_,_,n3.aj rfl,n3.aj rfl,n3.aj rfl,n3.aj rfl,n3.aj rfl,n3.aj rfl,n3.aj rfl,n3.aj rfl,?_⟩;rw[show Ez n.k=Fx by rw[hk];rfl]at run;refine run.mono ?_;rintro _ w4 ⟨rfl,h4,g4⟩;exact .inl ⟨rfl,rfl,h4,mw.trans g4⟩
 .refine aB (λhb=>by have:=aT hb;omega) (λ_=>aB (λhb=>by have:=aT hb;omega) (λ_=>aB (λhb=>by have:=aT hb;omega) (λ_=>aB (λhb=>by have:=aT hb;omega) (λ_=>aB (λ_=>?_) (λhb=>absurd hk (a_ hb))))))
  refine⟨_,q3.aj rfl,_,_,_,_,_,_,_,_,_,_,_,_,_,_,_,_,_,_,n3.aj rfl,n3.aj rfl,n3.aj rfl,n3.aj rfl,n3.aj rfl,n3.aj rfl,n3.aj rfl,n3.aj rfl,?_⟩;rw[show Ez n.k=C5 by rw[hk];rfl]at run;refine run.mono ?_;rintro _ w4 ⟨rfl,h4,g4⟩;exact .inl ⟨rfl,rfl,h4,mw.trans g4⟩
def CR:List L.Nd->Sh->Sh->Prop
 |[],s,s'=>s'=s
 |n::r,s,s'=>∃s1,jH n s s1/\CR r s1 s'
def CR.append{l m:List L.Nd}{s s1 s2:Sh}(h:CR l s s1)(h2:CR m s1 s2):CR (l++m) s s2:=by
 induction l generalizing s with
 |nil=>obtain rfl:=h;exact h2
 |cons n r ih=>obtain⟨t,h1,h3⟩:=h;exact⟨t,h1,ih h3⟩
def acZ{D:Nat->Prop}{l:List L.Nd}{p:Option Addr}{n c i:Nat}(h:L.vm.At w D l (.slice p n c))(hi:i<l.length):∃b pw cw pa ca pr cr po co pk ck,p=some b/\D b.block/\L.eM w D l[i] (L.l_ l[i] (.slice pw l[i].ws.length cw) (.slice pa l[i].gF.length ca) (.slice pr l[i].rs.length cr) (.slice po l[i].os.length co) (.slice pk l[i].ks.length ck))/\L.pO w (b.add (i*8)) (L.l_ l[i] (.slice pw l[i].ws.length cw) (.slice pa l[i].gF.length ca) (.slice pr l[i].rs.length cr) (.slice po l[i].os.length co) (.slice pk l[i].ks.length ck)):=by obtain⟨b,cs,h1,h2,h3,h4⟩:=h.get (gJ hi);have h3':=h3;obtain⟨pw,cw,pa,ca,pr,cr,po,co,pk,ck,rfl,_⟩:=h3'.outs;exact⟨b,pw,cw,pa,ca,pr,cr,po,co,pk,ck,h1,h2,h3,h4⟩
def Tl{n:L.Nd}{s':Sh}(h:CR n.ks (if n.ks.length=0 then{s with st:=0}else s) s')(hl:n.ks.length<=100000):I_ Fw n s s':=by
 intro w w0 K D cs aH9 h0 hs hn hD;have hn0:=hn;obtain⟨pw,cw,pa,ca,pr,cr,po,co,pk,ck,rfl,rT,ha,hrd,ho,hks⟩:=hn.outs;refine ak5 _ _ _ _ _ _ _ _ _ _ _ _ _ _ _ _ _ _ _ _ _ ?_;refine aP λw1 r1 s1 z1=>?_;have h1:=hs.still s1;refine⟨λw3=>bF w3 w0 K (if n.ks.length=0 then{s with st:=0}else s)/\cA (Ft K w) w (Ft K w3) w3/\Row w3 w.heap.size Rg ⟨L.l_ n (.slice pw n.ws.length cw) (.slice pa n.gF.length ca) (.slice pr n.rs.length cr) (.slice po n.os.length co) (.slice pk n.ks.length ck)⟩,⟨_,_,_,r1.aj rfl,aB (λhb=>?_) (λhb=>?_)⟩,?_⟩
 .have hb:n.ks.length=0:=by have:=aT hb;omega
  refine h1.Mr 0 λw2 h2 g2 m2=>?_;rw[aR hb];exact⟨h2,(hs.gone s1).trans g2,r1.mod g2.mod (qR h1 r1 (by decide) (by decide) (by decide) (by decide) (by decide))⟩
 .have hb:¬n.ks.length=0:=by have:=a_ hb;omega
  rw[aL hb];exact⟨h1,hs.gone s1,r1⟩
 rintro _ w3 ⟨h3,g3,r3⟩;refine⟨_,_,_,r3.aj rfl,λx w4=>∃(i:Nat) (si:Sh),x=(i:Int)/\i<=n.ks.length/\bF w4 w0 K si/\cA (Ft K w) w (Ft K w4) w4/\CR (n.ks.drop i) si s',λx _=>(n.ks.length-x).toNat,⟨0,_,rfl,dx _,h3,g3,h⟩,?_⟩;rintro x _ w4 ⟨i,si,rfl,hi,h4,g4,yX⟩;refine aB (λhx=>?_) (λhx=>?_)
 .have hx:i<n.ks.length:=by have:=aT hx;omega
  rw[mI hx]at yX;obtain⟨s1',hex,uC⟩:=yX;obtain⟨b,qw,dw,qa,da,qr,dr,qo,dq,qk,dk,rfl,Wh,hnd,hcell⟩:=acZ (hks.mod g4.mod λk hk=>(hD k hk).2) hx;have cl:∀(j:Nat) (u:Value),(L.l_ n.ks[i] (.slice qw n.ks[i].ws.length dw) (.slice qa n.ks[i].gF.length da) (.slice qr n.ks[i].rs.length dr) (.slice qo n.ks[i].os.length dq) (.slice qk n.ks[i].ks.length dk))[j]?=some u->w4.cell? ((b.add (Int.toNat (i:Int)*8)).add j)=some u:=λj u hu=>by rw[bT];exact hcell j u hu
  have c0:w4.cell? (b.add (Int.toNat (i:Int)*8))=some (.int .i64 n.ks[i].k):=cl 0 _ rfl;refine⟨by omega,by omega,_,_,_,_,_,_,_,_,_,_,_,_,_,_,_,_,_,_,c0,cl 1 _ rfl,cl 2 _ rfl,cl 3 _ rfl,cl 4 _ rfl,cl 5 _ rfl,cl 6 _ rfl,cl 7 _ rfl,?_⟩;refine aP λw5 r5 s5 z5=>aH5 (g:=w4.heap.size) (o:=0) r5 (by simp) (by simp[Value.oneCell']) λw6 r6 m6 z6=>?_;have jW:Still w4 w6:=s5.box (aW _) m6;have aKI:=g4.trans (h4.gone jW);refine⟨_,_,_,_,_,_,_,_,_,_,_,_,_,_,_,_,_,_,r6.aj rfl,r6.aj rfl,r6.aj rfl,r6.aj rfl,r6.aj rfl,r6.aj rfl,r6.aj rfl,r6.aj rfl,?_⟩;refine(hex w6 w0 K D _ aH9 (aKR hs h0 aKI) (h4.still jW) (hnd.still jW) (hD.gone aKI)).mono ?_;rintro _ w7 ⟨rfl,h7,g7⟩;rw[wrap_i64 (by omega) (by omega)];exact .inl ⟨rfl,⟨i+1,s1',by omega,by omega,h7,aKI.trans g7,uC⟩,by dsimp only;omega⟩
 .have hx:i=n.ks.length:=by have:=a_ hx;omega
  subst hx;rw[vP]at yX;obtain rfl:s'=si:=yX;exact⟨rfl,h4,g4⟩
def Ad(s t:Sh):Sh:={s with T:=t.T,fuel:=t.fuel,aJI:=t.aJI,err:=t.err,b_:=t.b_}
def Kx.sub(K:Kx)(hb pb fm:Nat):Kx:={K with hb:=hb,pb:=pb,fm:=fm}
def aeT{hb pb fm k:Nat}:Fc (K.sub hb pb fm) w k↔Fc K w k:=Iff.rfl
def bF.beside{t:Sh}{hb pb fm:Nat}(h:bF w w0 (K.sub hb pb fm) t){vp:Option Addr}{vc:Nat}(hh:Row w K.hb fX ⟨iu K vp vc s⟩)(hv:A.dz w vp s.V.length vc s.V)(hp:iC w K.pb K.a)(hf:dU w K.fm [])(hl:w0.heap.size<=K.hb)(hg:K.g≠K.fm):bF w w0 K (Ad s t):=by obtain⟨x,hx⟩:=h.gG;exact⟨⟨h.sY,hp,hf,⟨vp,vc,hh,hv⟩,⟨x,hx.hO,hx.mo,hx.aIh⟩,⟨hl,h.low.2⟩,hg⟩,h.dh⟩
def oK(sb pb:Nat)(vp:Option Addr)(n vc:Nat)(st:Int)(fm:Nat)(i o:ag)(way loops last:Int):List Value:=
 [.pointer (some ⟨sb,0,none⟩),.pointer (some ⟨pb,0,none⟩),.string (S []),.slice vp n vc,.slice none 0 0,.int .i64 st,.map (some fm),.string (S i),.string (S o),.int .i64 way,.int .i64 0,.int .i64 loops,.int .i64 0,.int .i64 last]
set_option maxHeartbeats 2000000 in
def atn(aH9:fN w0)(h0:Still w0 w)(h:bF w w0 K s)(dH:ag){t:Sh}{f:FuncId}{cap:List Value}(hc:dP aM f=true)(he:t.aJI≠220)
  (I2:∀w1 hb pb fm,Still w w1->w.heap.size<=hb->bF w1 w0 (K.sub hb pb fm) {s with aG:=dH,out:=[],way:=0,loops:=0}->(∀k,Ft (K.sub hb pb fm) w1 k->k=hb\/Fc K w k)->aH3 f ⟨.pointer (some ⟨hb,0,none⟩)::cap⟩ w1 λe w2=>e=.returned (.tuple #[])/\bF w2 w0 (K.sub hb pb fm) t/\cA (Ft (K.sub hb pb fm) w1) w1 (Ft (K.sub hb pb fm) w2) w2):
  aH3 PB #[.pointer (some ⟨K.hb,0,none⟩),.string (S dH),.func (.func f) #[] ⟨cap⟩] w (λe w'=>∃hb pb fm,e=.returned (.pointer (some ⟨hb,0,none⟩))/\w.heap.size<=hb/\bF w' w0 (K.sub hb pb fm) t/\bF w' w0 K (Ad s t)/\cA (Ft K w) w (Ft K w') w'):=by
 obtain⟨vp,vc,hh,hv⟩:=h.aIx;obtain⟨x,hx⟩:=h.gG;have hz0:=h0.size;refine alb _ _ _ _ _ ?_;refine⟨_,_,_,_,_,_,_,_,_,_,_,rfl,_,_,_,_,_,_,_,hh.aj rfl,hh.aj rfl,hh.aj rfl,hh.aj rfl,hh.aj rfl,hh.aj rfl,hh.aj rfl,hh.aj rfl,hh.aj rfl,hh.aj rfl,hh.aj rfl,hh.aj rfl,hh.aj rfl,hh.aj rfl,?_⟩;refine aP λw1 r1 s1 z1=>aH5 (g:=w.heap.size) (o:=0) r1 (by simp) (by simp[Value.oneCell']) λw2 r2 m2 z2=>?_
 replace r2:Row w2 w.heap.size fX ⟨oK K.sb K.pb vp s.V.length vc s.st K.fm s.aG s.out s.way s.loops s.last⟩:=r2
 have cZ:Still w w2:=s1.box (aW _) m2;have sD:Still w2 w2.drew:=(Still.refl _).cK;have M0:=cZ.trans sD;refine⟨λwq=>Row wq K.hb fX ⟨iu K vp vc s⟩/\Row wq K.sb kY ⟨oJ K x s⟩,⟨hh.still M0,hx.row.still M0⟩,_,λwq hq=>hq.1.aj rfl,_,λwq hq=>hq.2.aj rfl,_,λwq hq=>hq.1.aj rfl,_,λwq hq=>hq.1.aj rfl,_,λwq hq=>hq.2.aj rfl,(aKY rfl).mono ?_⟩;rintro _ w3 ⟨rfl,p3,s3,z3⟩;have iK:=M0.trans s3;have r3:=(r2.still sD).still s3;refine .inl ⟨_,rfl,aH5 (g:=w.heap.size) (o:=1) r3 (by simp[oK]) (by simp[Value.oneCell']) λw4 r4 m4 z4=>?_⟩
 replace r4:Row w4 w.heap.size fX ⟨oK K.sb w2.drew.heap.size vp s.V.length vc s.st K.fm s.aG s.out s.way s.loops s.last⟩:=r4
 have iL:Still w w4:=iK.box (aW _) m4;refine⟨_,rfl,(hh.still iL).aj rfl,(apX (h.fns.still iL)).mono ?_⟩;rintro _ w5 ⟨rfl,f5,s5,z5⟩;have od:=iL.trans s5;refine .inl ⟨_,rfl,rfl,aH5 (g:=w.heap.size) (o:=6) (r4.still s5) (by simp[oK]) (by simp[Value.oneCell']) λw6 r6 m6 z6=>?_⟩
 replace r6:Row w6 w.heap.size fX ⟨oK K.sb w2.drew.heap.size vp s.V.length vc s.st w4.heap.size s.aG s.out s.way s.loops s.last⟩:=r6
 refine aH5 (g:=w.heap.size) (o:=7) r6 (by simp[oK]) (by simp[Value.oneCell']) λw7 r7 m7 z7=>?_
 replace r7:Row w7 w.heap.size fX ⟨oK K.sb w2.drew.heap.size vp s.V.length vc s.st w4.heap.size dH s.out s.way s.loops s.last⟩:=r7
 refine aH5 (g:=w.heap.size) (o:=8) r7 (by simp[oK]) (by simp[Value.oneCell']) λw8 r8 m8 z8=>?_
 replace r8:Row w8 w.heap.size fX ⟨oK K.sb w2.drew.heap.size vp s.V.length vc s.st w4.heap.size dH [] s.way s.loops s.last⟩:=r8
 refine aH5 (g:=w.heap.size) (o:=9) r8 (by simp[oK]) (by simp[Value.oneCell']) λw9 r9 m9 z9=>?_
 replace r9:Row w9 w.heap.size fX ⟨oK K.sb w2.drew.heap.size vp s.V.length vc s.st w4.heap.size dH [] 0 s.loops s.last⟩:=r9
 refine aH5 (g:=w.heap.size) (o:=11) r9 (by simp[oK]) (by simp[Value.oneCell']) λaO aIe m10 pz=>?_
 replace aIe:Row aO w.heap.size fX ⟨oK K.sb w2.drew.heap.size vp s.V.length vc s.st w4.heap.size dH [] 0 0 s.last⟩:=aIe
 have UY:Mod (λk=>k=w.heap.size) w5 aO:=Mod.trans (Mod.trans (Mod.trans (Mod.trans m6 m7 (λ_ h=>h) (λ_ _ h=>h)) m8 (λ_ h=>h) (λ_ _ h=>h)) m9 (λ_ h=>h) (λ_ _ h=>h)) m10 (λ_ h=>h) (λ_ _ h=>h);have qF:Still w aO:=od.box (aW _) UY;have ez:w2.drew.heap.size=w2.heap.size:=rfl;have CK:=iL.size;have qQ:iC aO w2.drew.heap.size K.a:=((p3.mod m4 (by omega)).still s5).mod UY (by omega);have f10:dU aO w4.heap.size []:=f5.mod UY (by omega);have h10:=h.still qF;obtain⟨xx,IS⟩:=h10.gG;have hin:bF aO w0 (K.sub w.heap.size w2.drew.heap.size w4.heap.size) {s with aG:=dH,out:=[],way:=0,loops:=0}:=
  ⟨⟨h.sY,qQ,f10,⟨vp,vc,aIe,hv.still qF⟩,⟨xx,IS.hO,IS.mo,IS.aIh⟩,⟨hz0,h.low.2⟩,by have:=h.dh.now.lt;show K.g≠w4.heap.size;omega⟩,h10.dh⟩
 have NV:∀k,Ft (K.sub w.heap.size w2.drew.heap.size w4.heap.size) aO k->k=w.heap.size\/Fc K w k:=λk hk=>by
  rcases hk with e|e
  .exact .inl e
  .exact .inr ((Fc.same λo=>h.G1 qF (λh=>h) o).1 (aeT.1 e))
 refine zG (aB (λ_=>?_) (λh=>by rw[hc]at h;cases h));refine(I2 aO w.heap.size w2.drew.heap.size w4.heap.size qF (aW _) hin NV).mono ?_;rintro _ aX ⟨rfl,h11,g11⟩;have free:∀k,k<w.heap.size->¬Fc K w k->¬Ft (K.sub w.heap.size w2.drew.heap.size w4.heap.size) aO k:=λk hk hn hf=>(NV k hf).elim (λe=>by omega) hn;have nC:∀{k:Nat} {ty:TypeId} {cs:Array Value},Row w k ty cs->ty≠kY->ty≠aIX->ty≠5->ty≠j5->¬Fc K w k:=by
  intro k ty cs hr a b c d hk;rcases hx.own hk with rfl|rfl|rfl|hk|hk
  .exact hr.ne h.dh.top d rfl
  .exact aIY h.dh.now hr rfl
  .exact hr.ne hx.row a rfl
  .obtain⟨xs,hs⟩:=hx.mo
   exact hs.cY hr (λe=>b e.symm) hk
  .exact hx.hO.own.cY hr (λe=>c e.symm) hk
 have ag3:=(hh.still qF).mod g11.mod (free _ hh.lt (nC hh (by decide) (by decide) (by decide) (by decide)));have UZ:iC aX K.pb K.a:=(h.iM.still qF).mod g11.mod (free _ h.iM.lt (nC h.iM (by decide) (by decide) (by decide) (by decide)));have UX:dU aX K.fm []:=(h.fns.still qF).mod g11.mod (free _ h.fns.lt λhk=>by
  obtain⟨t1,t2,t3,t4,t5,t6,t7,t8,t9,t10,t11,t12,t13⟩:=h.tys;rcases hx.own hk with e|e|e|e|e
  .exact t11 e.symm
  .exact t13 e.symm
  .exact t9 e.symm
  .obtain⟨xs,hs⟩:=hx.mo
   obtain⟨cur,hr⟩:=hs.typed e;exact h.fns.cY hr rfl
  .obtain⟨cur,hr⟩:=hx.hO.own.typed e
   exact h.fns.cY hr rfl)
 have azW:A.dz aX vp s.V.length vc s.V:=dz.yw (hv.still qF) g11.mod λhn a ha=>by obtain⟨a',cs,e1,e2⟩:=hv.2.2.2 hn;rw[ha]at e1;obtain rfl:=bM e1;exact free _ e2.lt (nC e2 (by decide) (by decide) (by decide) (by decide))
 have hout:=h11.beside (s:=s) ag3 azW UZ UX h.low.1 h.CH;have azX:cA (Ft K w) w (Ft K aX) aX:=⟨Mod.trans qF g11.mod (λ_ h=>h.elim) λk hk hf=>(NV k hf).elim (λe=>by omega) .inr,λk hk=>by
  rcases hk with e|e
  .exact .inl (.inl e)
  .rcases g11.new k (.inr (aeT.2 e))with hx|hx
   .rcases NV k hx with e|e
    .exact .inr (by omega)
    .exact .inl (.inr e)
   .exact .inr (lH qF.size hx)⟩
 obtain⟨iG,azY⟩:=h11.gG;refine .inl ⟨rfl,_,ag3.aj rfl,_,azY.row.aj rfl,aB (λhb=>absurd (aT hb) he) (λ_=>?_)⟩;exact⟨_,_,_,rfl,aW _,h11,hout,azX⟩
def R5(h:bF w w0 K s){t:Sh}{hb pb fm:Nat}(hk:bF w w0 (K.sub hb pb fm) t)(he:s.aJI≠220):
  aH3 PC #[.pointer (some ⟨K.hb,0,none⟩),.pointer (some ⟨hb,0,none⟩)] w (λe w'=>e=.returned (.tuple #[])/\bF w' w0 K {s with st:=t.st}/\cA (Ft K w) w (Ft K w') w'/\Mod (λk=>k=K.hb) w w'):=by
 refine alc _ _ _ _ ?_;refine⟨_,hk.cell λ_ _=>rfl,h.Mr t.st λw1 h1 g1 m1=>?_⟩;obtain⟨x,hx⟩:=h1.gG;exact⟨_,h1.cell λ_ _=>rfl,_,hx.row.aj rfl,aB (λhb=>absurd (aT hb) he) (λ_=>⟨rfl,h1,g1,m1⟩)⟩
def NW:List L.Nd->ag->Sh->ag->Sh->Prop
 |[],i,s,o,s'=>o=i/\s'=s
 |n::r,i,s,o,s'=>s.way=0/\s.aJI≠220/\∃t,jH n {s with aG:=i,out:=[],way:=0,loops:=0} t/\t.aJI≠220/\NW r t.out {Ad s t with st:=t.st} o s'
def anB:dP aM OU=true:=by kernel_rfl
def aqe(aH9:fN w0)(h0:Still w0 w)(h:bF w w0 K s){l:List L.Nd}{p:Option Addr}{n c:Nat}{D:Nat->Prop}(hl:L.vm.At w D l (.slice p n c))(hD:Kept D (Ft K w) w){o:ag}{s':Sh}(hst:NW l s.aG s o s')(hlen:l.length<=100000)(ho:s'.out.length+o.length<=1000000000):
  aH3 Pb #[.pointer (some ⟨K.hb,0,none⟩),.slice p n c] w (λe w'=>e=.returned (.tuple #[])/\bF w' w0 K {s' with out:=s'.out++o}/\cA (Ft K w) w (Ft K w') w'):=by
 obtain⟨rfl,hc⟩:=hl.len;refine ako _ _ _ _ _ _ ?_;refine⟨_,h.cell λ_ _=>rfl,λi x w1=>∃(j:Nat) (sj:Sh),x=(j:Int)/\j<=l.length/\bF w1 w0 K sj/\cA (Ft K w) w (Ft K w1) w1/\NW (l.drop j) i sj o s',λ_ x _=>(l.length-x).toNat,⟨0,s,rfl,dx _,h,cA.refl _,hst⟩,?_⟩;rintro i x _ w1 ⟨j,sj,rfl,hj,h1,g1,hs1⟩;refine aB (λhx=>?_) (λhx=>?_)
 .have hx:j<l.length:=by have:=aT hx;omega
  rw[mI hx]at hs1;obtain⟨azZ,aGM,t,hex,hte,uC⟩:=hs1;obtain⟨b,qw,dw,qa,da,qr,dr,qo,dq,qk,dk,rfl,Wh,hnd,hcell⟩:=acZ (hl.mod g1.mod λk hk=>(hD k hk).2) hx;have cl:∀(i:Nat) (u:Value),(L.l_ l[j] (.slice qw l[j].ws.length dw) (.slice qa l[j].gF.length da) (.slice qr l[j].rs.length dr) (.slice qo l[j].os.length dq) (.slice qk l[j].ks.length dk))[i]?=some u->w1.cell? ((b.add (Int.toNat (j:Int)*8)).add i)=some u:=λi u hu=>by rw[bT];exact hcell i u hu
  have c0:w1.cell? (b.add (Int.toNat (j:Int)*8))=some (.int .i64 l[j].k):=cl 0 _ rfl;refine⟨by omega,by omega,_,_,_,_,_,_,_,_,_,_,_,_,_,_,_,_,_,_,c0,cl 1 _ rfl,cl 2 _ rfl,cl 3 _ rfl,cl 4 _ rfl,cl 5 _ rfl,cl 6 _ rfl,cl 7 _ rfl,?_⟩;refine aP λw2 r2 s2 z2=>aH5 (g:=w1.heap.size) (o:=0) r2 (by simp) (by simp[Value.oneCell']) λw3 r3 m3 z3=>?_;have gy:Still w1 w3:=s2.box (aW _) m3;have h3:=h1.still gy;have mw:=g1.trans (h1.gone gy);have hD3:=hD.gone mw;refine⟨_,h3.cell λ_ _=>rfl,aB (λhb=>absurd azZ (by simpa using hb)) (λ_=>?_)⟩;refine(atn aH9 (aKR h h0 mw) h3 i (t:=t) (cap:=[.pointer (some ⟨w1.heap.size,0,none⟩)]) anB hte ?_).mono ?_
  .intro w4 hb pb fm s4 hhb h4 V6
   have r4:=r3.still s4;refine aj6 _ _ _ _ ?_;refine⟨_,_,_,_,_,_,_,_,_,_,_,_,_,_,_,_,_,_,r4.aj rfl,r4.aj rfl,r4.aj rfl,r4.aj rfl,r4.aj rfl,r4.aj rfl,r4.aj rfl,r4.aj rfl,?_⟩;refine(hex w4 w0 (K.sub hb pb fm) D _ aH9 (Still.trans (aKR h h0 mw) s4) h4 ((hnd.still gy).still s4) λk hk=>?_).mono ?_
   .have h5:=hD3 k hk
    refine⟨mK h5.1 s4.size,λhf=>(V6 k hf).elim (λe=>by omega) λe=>h5.2 (.inr e)⟩
   .rintro _ w5 ⟨rfl,h5,g5⟩
    exact .inl ⟨rfl,rfl,h5,g5⟩
  .rintro _ w5 ⟨hb,pb,fm,rfl,hhb,hk5,h5,g5⟩
   refine .inl ⟨_,rfl,(R5 h5 hk5 (by exact hte)).mono ?_⟩;rintro _ w6 ⟨rfl,h6,g6,m6⟩;have hne:hb≠K.hb:=by obtain⟨vq,aKa,aII,_⟩:=h3.aIx;have:=aII.lt;omega
   have c6:w6.cell? ⟨hb,8,none⟩=some (.string (S t.out)):=aKi m6 hne (hk5.cell λ_ _=>rfl);refine .inl ⟨rfl,_,c6,?_⟩;rw[wrap_i64 (by omega) (by omega)];exact⟨⟨j+1,_,by omega,by omega,h6,(mw.trans g5).trans g6,uC⟩,by dsimp only;omega⟩
 .have hx:j=l.length:=by have:=a_ hx;omega
  subst hx;rw[vP]at hs1;obtain⟨rfl,rfl⟩:=hs1;refine⟨_,h1.cell λ_ _=>rfl,by omega,h1.L8 _ λw2 h2 g2 m2=>⟨rfl,h2,g1.trans g2⟩⟩
def ato{n:L.Nd}{o:ag}{s':Sh}(hk:n.ks.length≠1)(hn':n.neg=false)(hst:NW n.ks s.aG s o s')(hlen:n.ks.length<=100000)(ho:s'.out.length+o.length<=1000000000):I_ Fx n s {s' with out:=s'.out++o}:=by intro w w0 K D cs aH9 h0 hs hn hD;obtain⟨pw,cw,pa,ca,pr,cr,po,co,pk,ck,rfl,rT,ha,hrd,hos,hks⟩:=hn.outs;refine ak6 _ _ _ _ _ _ _ _ _ _ _ _ _ _ _ _ _ _ _ _ _ ?_;refine aP λw1 r1 s1 z1=>?_;have h1:=hs.still s1;refine⟨_,_,_,r1.aj rfl,aB (λhb=>absurd (aT hb) (by omega)) (λ_=>⟨_,_,_,r1.aj rfl,?_⟩)⟩;refine(aqe aH9 (h0.trans s1) h1 (hks.still s1) (hD.gone (hs.gone s1)) hst hlen ho).mono ?_;rintro _ w2 ⟨rfl,h2,g2⟩;have r2:=r1.mod g2.mod (qR h1 r1 (by decide) (by decide) (by decide) (by decide) (by decide));exact .inl ⟨rfl,_,r2.aj rfl,aB (λ_=>⟨rfl,h2,(hs.gone s1).trans g2⟩) (λhb=>by rw[hn']at hb;cases hb)⟩
end Go.Proofs.YtihaaoehhgmphaaGreatDoor
