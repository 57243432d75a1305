/- Texts of one proof, one behind the other. Conditions: as each theorem names them. -/
import Derived.Test.YtihaaoehhgmphaaGreatDoorQ7
import Derived.Tactics
import Derived.Tactics2
import Derived.Defers
import Derived.Recover
import Derived.Laws.Pointers
set_option linter.all false
namespace Go.Proofs.YtihaaoehhgmphaaGreatDoor
open IntKind Go.RowKit Vc
set_option maxRecDepth 100000
variable{w w0:World}{K:Kx}{s:Sh}
def O0:List L.Nd->ag->Sh->ag->Sh->Prop
 |[],i,s,o,s'=>o=i/\s'=s
 |n::r,i,s,o,s'=>s.way=0/\s.tu≠220/\∃t,aHN n {s with bu:=i,out:=[],way:=0,loops:=0} t/\t.tu≠220/\O0 r t.out {AN s t with st:=t.st} o s'
def anD:dD aM PV=true:=by kernel_rfl
def ap6(b_:fJ w0)(h0:Still w0 w)(h:bB w w0 K s){l:List L.Nd}{p:Option Addr}{n c:Nat}{D:Nat->Prop}(hl:L.vR.At w D l (.slice p n c))(hD:Kept D (Ft K w) w){o:ag}{s':Sh}(hst:O0 l s.bu s o s')(hlen:l.length<=100000)(ho:s'.out.length+o.length<=1000000000):
  aq P9 #[.pointer (some ⟨K.hb,0,none⟩),.slice p n c] w (λe w'=>e=.returned (.tuple #[])/\bB w' w0 K {s' with out:=s'.out++o}/\cz (Ft K w) w (Ft K w') w'):=by
 obtain⟨rfl,hc⟩:=hl.len;apply aks;refine⟨_,h.cell λ_ _=>rfl,λi x w1=>∃(j:Nat) (sj:Sh),x=(j:Int)/\j<=l.length/\bB w1 w0 K sj/\cz (Ft K w) w (Ft K w1) w1/\O0 (l.drop j) i sj o s',λ_ x _=>(l.length-x).toNat,⟨0,s,rfl,dK _,h,cz.refl _,hst⟩,?_⟩;rintro i x _ w1 ⟨j,sj,rfl,hj,h1,g1,hs1⟩;refine aA (λhx=>?_) (λhx=>?_)
 .have hx:j<l.length:=by have:=aR hx;omega
  rw[qB hx]at hs1;obtain⟨az_,aF4,t,hex,hte,yU⟩:=hs1;obtain⟨b,qw,dw,qa,da,qr,dr,qo,dq,qk,dk,rfl,OQ,hnd,hcell⟩:=adz (hl.mod g1.mod λk hk=>(hD k hk).2) hx;have cl:∀(i:Nat) (u:Value),(L.aHJ l[j] (.slice qw l[j].ws.length dw) (.slice qa l[j].gA.length da) (.slice qr l[j].rs.length dr) (.slice qo l[j].os.length dq) (.slice qk l[j].ks.length dk))[i]?=some u->w1.cell? ((b.add (Int.toNat (j:Int)*8)).add i)=some u:=λi u hu=>by rw[b6];exact hcell i u hu
  have c0:w1.cell? (b.add (Int.toNat (j:Int)*8))=some (.int .i64 l[j].k):=cl 0 _ rfl;refine⟨by omega,by omega,_,_,_,_,_,_,_,_,_,_,_,_,_,_,_,_,_,_,c0,cl 1 _ rfl,cl 2 _ rfl,cl 3 _ rfl,cl 4 _ rfl,cl 5 _ rfl,cl 6 _ rfl,cl 7 _ rfl,?_⟩;refine aQ λw2 r2 s2 z2=>aHb (g:=w1.heap.size) (o:=0) r2 λw3 r3 m3 z3=>?_;have iE:Still w1 w3:=s2.box (aV _) m3;have h3:=h1.still iE;have jB:=g1.trans (h1.gone iE);have hD3:=hD.gone jB;refine⟨_,h3.cell λ_ _=>rfl,aA (λhb=>absurd az_ (by simpa using hb)) (λ_=>?_)⟩;refine(atg b_ (yp h h0 jB) h3 i (t:=t) (cap:=[.pointer (some ⟨w1.heap.size,0,none⟩)]) anD hte ?_).mono ?_
  .intro w4 hb pb fm s4 hhb h4 WZ
   have r4:=r3.still s4;apply aka;refine⟨_,_,_,_,_,_,_,_,_,_,_,_,_,_,_,_,_,_,r4.aj rfl,r4.aj rfl,r4.aj rfl,r4.aj rfl,r4.aj rfl,r4.aj rfl,r4.aj rfl,r4.aj rfl,?_⟩;refine(hex w4 w0 (K.sub hb pb fm) D _ b_ (Still.trans (yp h h0 jB) s4) h4 ((hnd.still iE).still s4) λk hk=>?_).mono ?_
   .have h5:=hD3 k hk
    refine⟨aH2 h5.1 s4.size,λhf=>(WZ k hf).elim (λe=>by omega) λe=>h5.2 (.inr e)⟩
   .rintro _ w5 ⟨rfl,h5,g5⟩
    exact .inl ⟨rfl,rfl,h5,g5⟩
  .rintro _ w5 ⟨hb,pb,fm,rfl,hhb,hk5,h5,g5⟩
   refine .inl ⟨_,rfl,(SY h5 hk5 (by exact hte)).mono ?_⟩;rintro _ w6 ⟨rfl,h6,g6,m6⟩;have hne:hb≠K.hb:=by obtain⟨vX,vY,mu,_⟩:=h3.fX;have:=mu.lt;omega
   have c6:w6.cell? ⟨hb,8,none⟩=some (.string (S t.out)):=wT m6 hne (hk5.cell λ_ _=>rfl);refine .inl ⟨rfl,_,c6,?_⟩;rw[wrap_i64 (by omega) (by omega)];exact⟨⟨j+1,_,by omega,by omega,h6,(jB.trans g5).trans g6,yU⟩,by dsimp only;omega⟩
 .have hx:j=l.length:=by have:=aX hx;omega
  subst hx;rw[ye]at hs1;obtain⟨rfl,rfl⟩:=hs1;refine⟨_,h1.cell λ_ _=>rfl,by omega,h1.MS _ λw2 h2 g2 m2=>⟨rfl,h2,g1.trans g2⟩⟩
def ath{n:L.Nd}{o:ag}{s':Sh}(hk:n.ks.length≠1)(hn':n.neg=false)(hst:O0 n.ks s.bu s o s')(hlen:n.ks.length<=100000)(ho:s'.out.length+o.length<=1000000000):Fx F4 n s {s' with out:=s'.out++o}:=by intro w w0 K D cs b_ h0 hs hn hD;obtain⟨pw,cw,pa,ca,pr,cr,po,co,pk,ck,rfl,sN,ha,hrd,hos,hks⟩:=hn.outs;apply ala;refine aQ λw1 r1 s1 z1=>?_;have h1:=hs.still s1;refine⟨_,_,_,r1.aj rfl,aA (λhb=>absurd (aR hb) (by omega)) (λ_=>⟨_,_,_,r1.aj rfl,?_⟩)⟩;refine(ap6 b_ (h0.trans s1) h1 (hks.still s1) (hD.gone (hs.gone s1)) hst hlen ho).mono ?_;rintro _ w2 ⟨rfl,h2,g2⟩;have r2:=r1.mod g2.mod (nj h1 r1);exact .inl ⟨rfl,_,r2.aj rfl,aA (λ_=>⟨rfl,h2,(hs.gone s1).trans g2⟩) (λhb=>by rw[hn']at hb;cases hb)⟩
end Go.Proofs.YtihaaoehhgmphaaGreatDoor
namespace Go.Proofs.YtihaaoehhgmphaaGreatDoor.L
open IntKind Go.RowKit Vc
variable{w:World}
abbrev Scan(w:World)(g:Nat)(s:ag):Prop:=Row w g 200 ⟨[.string (S s)]⟩
abbrev dz(g:Nat)(w w':World):Prop:=Mod (λi=>i=g) w w'
def dz.trans{g:Nat}{a b c:World}(h:dz g a b)(k:dz g b c):dz g a c:=Mod.trans h k (λ_ h=>h) (λ_ _ h=>h)
def HY:List PanicEntry:=[{v:=.iface 28 (.int .i64 80),recovered:=false}]
def mV(g:Nat)(w:World)(o:Option ag)(e:Ending)(w':World):Prop:=
 dz g w w'/\match o with
  |some t=>e=.returned (.tuple #[])/\Scan w' g t
  |none=>e=.panicked HY/\∃t,Scan w' g t
def j5(ok:Bool):aq ym #[.bool ok] w (λe w'=>e=(if ok=true then .returned (.tuple #[])else .panicked HY)/\w'=w):=by
 apply anl;cases ok with
 |true=>exact⟨rfl,rfl⟩
 |false=>exact⟨rfl,rfl⟩
def Scan.cell{g:Nat}{s:ag}(h:Scan w g s):w.cell? ⟨g,0,none⟩=some (.string (S s)):=h.dy rfl
def Scan.put{g:Nat}{s:ag}(h:Scan w g s)(t:ag):Scan (w.setCell ⟨g,0,none⟩ (.string (S t))) g t:=h.fW 0 _
def dz.put{g:Nat}(t:Value):dz g w (w.setCell ⟨g,0,none⟩ t):=(Mod.refl (λi=>i=g) w).setCell (p:=⟨g,0,none⟩) (.inl rfl) _
def yw{g:Nat}{s:ag}(h:Scan w g s)(n:Nat):aq oA #[.pointer (some ⟨g,0,none⟩),.int .i64 (n:Int)] w
  (λe w'=>mV g w (if n<=s.length then some (s.drop n)else none) e w'):=by
 apply akO;refine⟨_,h.cell,(j5 _).mono ?_⟩;rintro _ w1 ⟨rfl,rfl⟩
 by_cases hn:n<=s.length
 .rw[aL hn,aL (fe (by omega))]
  refine .inl ⟨rfl,_,h.cell,by omega,by omega,h.wr 0 (by simp),dz.put _,rfl,?_⟩;rw[b6];exact h.put _
 .rw[aG hn,aG (by simp;omega)]
  exact .inr ⟨_,rfl,Mod.refl _ _,rfl,s,h⟩
def mV.next{g:Nat}{o:Option ag}{e:Ending}{w1 w':World}(hm:dz g w w1)(h:mV g w1 o e w'):mV g w o e w':=⟨hm.trans h.1,h.2⟩
def mV.on{g:Nat}{o:Option ag}{f:ag->Option ag}{e:Ending}{w1:World}{R:Ending->World->Prop}(hr:∀e w',mV g w (o.bind f) e w'->R e w')(h:mV g w o e w1){K:World->Prop}
  (hk:∀t,o=some t->dz g w w1->Scan w1 g t->(∀e w',mV g w1 (f t) e w'->R e w')->K w1):(e=.returned (.tuple #[])/\K w1)\/(∃ch,e=.panicked ch/\R (.panicked ch) w1):=by
 obtain⟨hm,h⟩:=h;cases o with
 |none=>obtain⟨rfl,ht⟩:=h;exact .inr ⟨_,rfl,hr _ _ ⟨hm,rfl,ht⟩⟩
 |some t=>obtain⟨rfl,ht⟩:=h;exact .inl ⟨rfl,hk t rfl hm ht (λe w' h=>hr _ _ (mV.next hm h))⟩
def abk:∀s:ag,(if 0<=Go.Lib.indexByte s 39 then some (s.drop (Go.Lib.indexByte s 39+1).toNat)else none)=aIR s/\(0<=Go.Lib.indexByte s 39->Go.Lib.indexByte s 39<s.length)/\-1<=Go.Lib.indexByte s 39
 |[]=>⟨rfl,by decide,by decide⟩
 |a::r=>by
  obtain⟨h1,h2,h3⟩:=abk r;simp only[Go.Lib.indexByte,aIR,B8]
  by_cases ha:a=39
  .rw[aL ha,aL ha]
   refine⟨rfl,λ_=>by simp only[bf];omega,by decide⟩
  .rw[aG ha,aG ha,<-h1]
   by_cases hr:Go.Lib.indexByte r 39= -1
   .rw[aL hr,hr]
    exact⟨rfl,λh=>absurd h (by decide),by decide⟩
   .rw[aG hr,aL (by omega),aL (by omega)]
    refine⟨?_,λ_=>by simp only[bf];have:=h2 (by omega);omega,by omega⟩;congr 1;rw[show(Go.Lib.indexByte r 39+1+1).toNat=(Go.Lib.indexByte r 39+1).toNat+1 by omega,BU]
def MT(d:Nat):Prop:=∀(w:World) (g:Nat) (s:ag),s≠[]->Scan w g s->s.length<1000000->aq aJ1 #[.pointer (some ⟨g,0,none⟩),.int .i64 (31-(d:Int))] w (λe w'=>mV g w (fU d s) e w')
def Mr(d:Nat):Prop:=∀(w:World) (g:Nat) (s:ag) (c:UInt8),Scan w g s->s.length<1000000->aq BR #[.pointer (some ⟨g,0,none⟩),.int .u8 (c.toNat:Int),.int .i64 (31-(d:Int))] w (λe w'=>mV g w (dU d c s) e w')
set_option maxHeartbeats 1000000 in
def Uh{d:Nat}(hd:d<=31)(ih:d≠0->Mr (d-1)):MT d:=by
 intro w g s hs h hlen;apply akU;refine(j5 _).mono ?_;rintro _ w1 ⟨rfl,rfl⟩
 by_cases hd0:d=0
 .subst hd0
  rw[aG (by simp),aaX];exact .inr ⟨_,rfl,Mod.refl _ _,rfl,s,h⟩
 obtain⟨k,rfl⟩:∃k,d=k+1:=⟨d-1,by omega⟩;have ih:=ih hd0;rw[Qt]at ih;have e1:i64.wrap (31-((k+1:Nat):Int)+1)=31-(k:Int):=wI;rw[aL (fe (by omega)),e1];obtain⟨a,r,rfl⟩:=aJj hs;simp only[bf]at hlen;have hu:fU (k+1) (a::r)=kC (dU k) (a::r):=rfl;rw[hu]
 -- a skip, and what ends
 have VY:∀(n:Nat) (c:UInt8) (s2:ag),n<=(a::r).length->(a::r).drop n=s2->∀R:Ending->World->Prop,(∀e w',mV g w1 (dU k c s2) e w'->R e w')->
   aq oA #[(.pointer (some ⟨g,0,none⟩)),(.int .i64 (n:Int))] w1 (λmg w6=>(mg=.returned (.tuple #[])/\aq BR #[(.pointer (some ⟨g,0,none⟩)),(.int .u8 (c.toNat:Int)),(.int .i64 (31-(k:Int)))] w6 (λaII w7=>(aII=.returned (.tuple #[])/\R (.returned (.tuple #[])) w7)\/(∃Jm,aII=.panicked Jm/\R (.panicked Jm) w7)))\/(∃vM,mg=.panicked vM/\R (.panicked vM) w6)):=by
  intro n c s2 hn age R hR;refine(yw h n).mono λe w6 ht=>?_;rw[aL hn,age]at ht;obtain⟨hm,rfl,hs2⟩:=ht;have jQ:s2.length<1000000:=by rw[<-age];simp only[ig,bf];omega
  refine .inl ⟨rfl,(ih w6 g s2 c hs2 jQ).mono λe w7 ht=>?_⟩;have ht:=mV.next hm ht;cases ho:dU k c s2 with
  |none=>rw[ho]at ht;obtain⟨hm2,rfl,h3⟩:=ht;exact .inr ⟨_,rfl,hR _ _ (by rw[ho];exact⟨hm2,rfl,h3⟩)⟩
  |some t=>rw[ho]at ht;obtain⟨hm2,rfl,h3⟩:=ht;exact .inl ⟨rfl,hR _ _ (by rw[ho];exact⟨hm2,rfl,h3⟩)⟩
 have aKK:∀(n:Nat) (o:Option ag),(if n<=(a::r).length then some ((a::r).drop n)else none)=o->∀R:Ending->World->Prop,(∀e w',mV g w1 o e w'->R e w')->
   aq oA #[(.pointer (some ⟨g,0,none⟩)),(.int .i64 (n:Int))] w1 (λmg w6=>(mg=.returned (.tuple #[])/\R (.returned (.tuple #[])) w6)\/(∃vM,mg=.panicked vM/\R (.panicked vM) w6)):=by
  intro n o ho R hR;refine(yw h n).mono λe w6 ht=>?_;rw[ho]at ht;cases o with
  |none=>obtain⟨hm2,rfl,h3⟩:=ht;exact .inr ⟨_,rfl,hR _ _ ⟨hm2,rfl,h3⟩⟩
  |some t=>obtain⟨hm2,rfl,h3⟩:=ht;exact .inl ⟨rfl,hR _ _ ⟨hm2,rfl,h3⟩⟩
 refine .inl ⟨rfl,_,h.cell,by decide,a,rfl,aA (λkQ=>?_) (λkQ=>⟨_,h.cell,by decide,a,rfl,aA (λxX=>?_) (λxX=>⟨_,h.cell,by decide,a,rfl,aA (λqx=>?_) (λqx=>⟨_,h.cell,?_⟩)⟩)⟩)⟩
 .have kQ:a=92:=aHi.1 (aR kQ)
  refine aKK 2 _ ?_ _ (λe w' h=>h);simp only[kC,aL kQ];cases r with
  |nil=>rfl
  |cons b t=>simp
 .have kQ:¬a=92:=λe=>aX kQ (aHi.2 e)
  have xX:a=39:=aHi.1 (aR xX);refine⟨_,h.cell,by decide,by simp only[bf];omega,?_⟩;have hq:kC (dU k) (a::r)=aIR r:=by simp only[kC,aG kQ,aL xX]
  rw[hq];obtain⟨i1,i2,i3⟩:=abk r;refine(Tryz.strings_IndexByte (S r) 39 _).mono ?_;rintro _ w3 ⟨rfl,rfl⟩;have Xm:Go.Lib.indexByte (S r).data.toList (Int.toNat 39).toUInt8=Go.Lib.indexByte r 39:=rfl;rw[Xm];generalize Go.Lib.indexByte r 39=ix at i1 i2 i3;refine .inl ⟨_,rfl,(j5 _).mono ?_⟩;rintro _ w4 ⟨rfl,rfl⟩
  by_cases h0:0<=ix
  .obtain⟨n,rfl⟩:=PM h0
   have i2:=i2 h0;have e2:i64.wrap ((n:Int)+2)=((n+2:Nat):Int):=wI;rw[aL (fe h0),e2];refine .inl ⟨rfl,aKK (n+2) _ ?_ _ (λe w' h=>h)⟩;rw[<-i1,aL h0,aL (by simp only[bf];omega),show((n:Int)+1).toNat=n+1 by omega];rfl
  .rw[aG (by simpa using h0)]
   refine .inr ⟨_,rfl,?_⟩;rw[<-i1,aG h0];exact⟨Mod.refl _ _,rfl,_,h⟩
 .have kQ:¬a=92:=λe=>aX kQ (aHi.2 e)
  have xX:¬a=39:=λe=>aX xX (aHi.2 e);have qx:a=34:=aHi.1 (aR qx);have hq:kC (dU k) (a::r)=dU k 34 r:=by simp only[kC,aG kQ,aG xX,aL qx]
  rw[hq];exact VY 1 34 r (by simp) rfl _ (λe w' h=>h)
 .have kQ:¬a=92:=λe=>aX kQ (aHi.2 e)
  have xX:¬a=39:=λe=>aX xX (aHi.2 e);have qx:¬a=34:=λe=>aX qx (aHi.2 e);have hq:kC (dU k) (a::r)=yG (dU k) a r:=by simp only[kC,aG kQ,aG xX,aG qx]
  rw[hq];have hp:∀x:UInt8,Go.Lib.hasPrefix (S (a::r)).data.toList (S [36,x]).data.toList=(match r with
   |b::_=>decide (a=36/\b=x)
   |[]=>false):=by
   intro x;show List.isPrefixOf [36,x] (a::r)=_
   cases r with
   |nil=>simp[List.isPrefixOf]
   |cons b t=>
    simp only[List.isPrefixOf,Rk]
    by_cases h1:a=36
    ·by_cases h2:b=x
     .simp[h1,h2]
     .have:¬x=b:=λe=>h2 e.symm
      simp[h1,h2,this]
    .have:¬36=a:=λe=>h1 e.symm
     simp[h1,this]
  refine(Tryz.strings_HasPrefix (S (a::r)) (S [36,40]) _).mono ?_;rintro _ w3 ⟨rfl,rfl⟩;rw[hp 40];refine .inl ⟨_,rfl,aA (λwe=>?_) (λwe=>⟨_,h.cell,(Tryz.strings_HasPrefix (S (a::r)) (S [36,123]) _).mono ?_⟩)⟩
  .cases r with
   |nil=>cases we
   |cons b t=>have we:=aR we;simp only[yG,aL we];exact VY 2 41 t (by simp) rfl _ (λe w' h=>h)
  .rintro _ w4 ⟨rfl,rfl⟩
   rw[hp 123];refine .inl ⟨_,rfl,aA (λBf=>?_) (λBf=>?_)⟩
   .cases r with
    |nil=>cases Bf
    |cons b t=>have we:=aX we;have Bf:=aR Bf;simp only[yG,aG we,aL Bf];exact VY 2 125 t (by simp) rfl _ (λe w' h=>h)
   .refine aKK 1 _ ?_ _ (λe w' h=>h)
    cases r with
    |nil=>rfl
    |cons b t=>have we:=aX we;have Bf:=aX Bf;simp only[yG,aG we,aG Bf];simp
def uQ(g:Nat)(w:World):Nat:=match w.cell? ⟨g,0,none⟩with
 |some (.string s)=>s.data.size
 |_=>0
def Scan.len{g:Nat}{s:ag}(h:Scan w g s):uQ g w=s.length:=by unfold uQ;rw[h.cell];rfl
set_option maxHeartbeats 1000000 in
def adA{d:Nat}(hd:d<=31)(hu:MT d)(ih:d≠0->Mr (d-1)):Mr d:=by
 intro w g s c h hlen;apply akw;refine⟨λw1=>∃s1,Scan w1 g s1/\dz g w w1/\dU d c s1=dU d c s/\s1.length<=s.length,uQ g,⟨s,h,Mod.refl _ _,rfl,aV _⟩,?_⟩;rintro _ w1 ⟨s1,h1,bW,he,hl⟩;rw[<-he];refine⟨_,h1.cell,(j5 _).mono ?_⟩;rintro _ w2 ⟨rfl,rfl⟩;cases s1 with
 |nil=>rw[aG (by simp),aqL];exact .inr ⟨_,rfl,bW,rfl,_,h1⟩
 |cons b r=>
  rw[aL (by simp)];rw[GA]at he⊢;simp only[bf]at hl;refine .inl ⟨rfl,_,h1.cell,by decide,b,rfl,aA (λhb=>?_) (λhb=>?_)⟩
  .have hb:b=c:=aHi.1 (aR hb)
   rw[aL hb];refine(yw h1 1).mono λe w3 ht=>?_;rw[aL (by simp)]at ht;obtain⟨cV,rfl,h3⟩:=ht;exact .inl ⟨rfl,bW.trans cV,rfl,h3⟩
  .have hb:¬b=c:=λe=>aX hb (aHi.2 e)
   rw[aG hb]at he⊢
   -- what goes on behind a taking
   have on:∀(o:Option ag) (e:Ending) (w3:World),mV g w2 o e w3->o.bind (dU d c)=dU d c s->(∀t,o=some t->t.length<=r.length)->
     (e=.returned (.tuple #[])/\(∃s1,Scan w3 g s1/\dz g w w3/\dU d c s1=dU d c s/\s1.length<=s.length)/\uQ g w3<uQ g w2)\/(∃ch,e=.panicked ch/\mV g w (dU d c s) (.panicked ch) w3):=by
    intro o e w3 ht ho hlo;obtain⟨cV,ht⟩:=ht;cases o with
    |none=>obtain⟨rfl,h3⟩:=ht;refine .inr ⟨_,rfl,bW.trans cV,?_⟩;rw[<-ho];exact⟨rfl,h3⟩
    |some t=>obtain⟨rfl,h3⟩:=ht;have:=hlo t rfl;refine .inl ⟨rfl,⟨t,h3,bW.trans cV,ho,by omega⟩,?_⟩;rw[h3.len,h1.len];simp only[bf];omega
   have hrl:r.length<1000000:=by omega
   have unit:(fU d (b::r)).bind (dU d c)=dU d c s->aq aJ1 #[(.pointer (some ⟨g,0,none⟩)),(.int .i64 (31-(d:Int)))] w2 (λvH aO=>(vH=.returned (.tuple #[])/\(∃s1,Scan aO g s1/\dz g w aO/\dU d c s1=dU d c s/\s1.length<=s.length)/\uQ g aO<uQ g w2)\/(∃Jl,vH=.panicked Jl/\mV g w (dU d c s) (.panicked Jl) aO)):=by intro ho;refine(hu w2 g (b::r) (YR _ _) h1 (by simp only[bf];omega)).mono λe w3 ht=>?_;refine on _ e w3 ht ho λt ht=>?_;have:=wJ d _ _ ht;simp only[bf]at this;omega
   have wd:decide (31-(d:Int)<=30)=decide (d≠0):=by apply sY.2;omega
   rw[wd];have hres:dU d c s=(if c=34/\b=39 then(if d=0 then none else dU d c r)else if c=41/\b=40 then(if d=0 then none else(dU (d-1) 41 r).bind (dU d c))else(fU d (b::r)).bind (dU d c)):=he.symm;rw[he];refine⟨λx w4=>x=decide (c=34/\b=39)/\w4=w2,aA (λhc=>⟨?_,rfl⟩) (λhc=>⟨?_,rfl⟩),?_⟩
   .have hc:c=34:=aHi.1 (aR hc)
    apply sY.2;exact⟨λh=>⟨hc,aHi.1 h⟩,λh=>aHi.2 h.2⟩
   .rw[eX (λh=>aX hc (aHi.2 h.1))]
   rintro _ _ w4 ⟨rfl,rfl⟩;refine aA (λhq=>?_) (λhq=>?_)
   .have hq:=aR hq
    rw[aL hq]at hres;refine(j5 _).mono ?_;rintro _ w5 ⟨rfl,rfl⟩
    by_cases hd0:d=0
    .rw[aL hd0]at hres
     rw[aG (by simp[hd0])];refine .inr ⟨_,rfl,?_⟩;rw[hres];exact⟨bW,rfl,_,h1⟩
    .rw[aG hd0]at hres
     rw[aL (by simp[hd0])];refine .inl ⟨rfl,(yw h1 1).mono λe w6 ht=>?_⟩;rw[aL (by simp)]at ht;refine on (some r) e w6 ht hres.symm λt ht=>?_;obtain rfl:=bU ht;exact aV _
   .have hq:=aX hq
    rw[aG hq]at hres;refine aA (λhc=>aA (λaKc=>?_) (λaKc=>?_)) (λhc=>?_)
    .have hc:c=41:=aHi.1 (aR hc)
     have aKc:b=40:=aHi.1 (aR aKc);rw[aL ⟨hc,aKc⟩]at hres;refine(j5 _).mono ?_;rintro _ w5 ⟨rfl,rfl⟩
     by_cases hd0:d=0
     .rw[aL hd0]at hres
      rw[aG (by simp[hd0])];refine .inr ⟨_,rfl,?_⟩;rw[hres];exact⟨bW,rfl,_,h1⟩
     .rw[aG hd0]at hres
      rw[aL (by simp[hd0])];have e1:i64.wrap (31-(d:Int)+1)=31-((d-1:Nat):Int):=wI;rw[e1];refine .inl ⟨rfl,(yw h1 1).mono λe w6 ht=>?_⟩;rw[aL (by simp)]at ht;obtain⟨jm,rfl,h6⟩:=ht;refine .inl ⟨rfl,(ih hd0 w6 g r 41 h6 hrl).mono λe w7 ht=>?_⟩;refine on _ e w7 (mV.next jm ht) hres.symm λt ht=>?_;exact K2 (Aa (d-1) 41 _ _ ht)
    .have aKc:¬b=40:=λe=>aX aKc (aHi.2 e)
     rw[aG (λh=>aKc h.2)]at hres;exact unit hres.symm
    .have hc:¬c=41:=λe=>aX hc (aHi.2 e)
     rw[aG (λh=>hc h.1)]at hres;exact unit hres.symm
def levels:∀d,d<=31->MT d/\Mr d
 |0,h=>⟨Uh h (λh=>absurd rfl h),adA h (Uh h (λh=>absurd rfl h)) (λh=>absurd rfl h)⟩
 |d+1,h=>by have ih:=(levels d (by omega)).2;have hu:MT (d+1):=Uh h (λ_=>ih);exact⟨hu,adA h hu (λ_=>ih)⟩
def acA{g:Nat}{s:ag}(hs:s≠[])(h:Scan w g s)(hl:s.length<1000000):aq aJ1 #[.pointer (some ⟨g,0,none⟩),.int .i64 1] w (λe w'=>mV g w (fU 30 s) e w'):=
 (levels 30 (by decide)).1 w g s hs h hl
def oK(c:UInt8):Bool:=c==32||c==9||c==10||c==59||c==124||c==38||c==40||c==41||c==60||c==62
def aIA:ag->Bool
 |[]=>true
 |c::_=>oK c
def Z2{g:Nat}{s:ag}(h:Scan w g s):aq Kt #[.pointer (some ⟨g,0,none⟩)] w (λe w'=>e=.returned (.bool (aIA s))/\w'=w):=by
 apply akP;refine⟨_,h.cell,aA (λhe=>?_) (λhe=>⟨_,h.cell,by decide,?_⟩)⟩
 .have he:=aR he
  subst he;exact⟨rfl,rfl⟩
 .have he:=aX he
  obtain⟨b,r,rfl⟩:=aJj he;refine⟨b,rfl,(Tryz.strings_IndexByte (S [32,9,10,59,124,38,40,41,60,62]) _ _).mono ?_⟩;rintro _ w1 ⟨rfl,rfl⟩;refine .inl ⟨_,rfl,?_,rfl⟩;rw[R5,show(S [32,9,10,59,124,38,40,41,60,62]).data.toList=[32,9,10,59,124,38,40,41,60,62]from rfl,LP];congr 2;simp only[aIA,oK,ud,F9,DS,Rl]
def se:Nat->ag->Option ag
 |0,_=>none
 |n+1,s=>if aIA s=true then some s else match fU 30 s with
  |some t=>se n t
  |none=>none
def abl:∀(n m:Nat) (s:ag),s.length<n->s.length<m->se n s=se m s
 |0,_,_,h,_=>by omega
 |_,0,_,_,h=>by omega
 |n+1,m+1,s,hn,hm=>by
  rw[se,se];split;·rfl
  .cases hu:fU 30 s with
   |none=>rfl
   |some t=>have:=wJ 30 _ _ hu;exact abl n m t (by omega) (by omega)
def nW(s:ag):Option ag:=se (s.length+1) s
def abm{s:ag}(h:aIA s=true):nW s=some s:=by rw[nW,se,aL h]
def LG{s t:ag}(h:aIA s=false)(hu:fU 30 s=some t):nW s=nW t:=by have:=wJ 30 _ _ hu;rw[nW,se,aG (by rw[h];decide),hu];exact abl _ _ _ (by omega) (by omega)
def abn{s:ag}(h:aIA s=false)(hu:fU 30 s=none):nW s=none:=by rw[nW,se,aG (by rw[h];decide),hu]
def aph{g:Nat}{s:ag}(h:Scan w g s)(hl:s.length<1000000):aq Qn #[.pointer (some ⟨g,0,none⟩)] w
  (λe w'=>dz g w w'/\match nW s with
   |some t=>e=.returned (.string (S (s.take (s.length-t.length))))/\Scan w' g t/\t.length<=s.length
   |none=>e=.panicked HY/\∃t,Scan w' g t):=by
 apply akQ;refine⟨_,h.cell,λw1=>∃s1,Scan w1 g s1/\dz g w w1/\nW s1=nW s/\s1.length<=s.length,uQ g,⟨s,h,Mod.refl _ _,rfl,aV _⟩,?_⟩;rintro _ w1 ⟨s1,h1,bW,he,hle⟩;rw[<-he];refine(Z2 h1).mono ?_;rintro _ w2 ⟨rfl,rfl⟩;refine .inl ⟨_,rfl,aA (λhne=>?_) (λhne=>?_)⟩
 .have hne:aIA s1=false:=by simpa using hne
  have hs1:s1≠[]:=by rintro rfl;cases hne
  refine(acA hs1 h1 (by omega)).mono λe w3 ht=>?_;obtain⟨cV,ht⟩:=ht;cases hu:fU 30 s1 with
  |none=>rw[hu]at ht;obtain⟨rfl,h3⟩:=ht;refine .inr ⟨_,rfl,bW.trans cV,?_⟩;rw[abn hne hu];exact⟨rfl,h3⟩
  |some t=>rw[hu]at ht;obtain⟨rfl,h3⟩:=ht;have hlt:=wJ 30 _ _ hu;refine .inl ⟨rfl,⟨t,h3,bW.trans cV,(LG hne hu).symm,by omega⟩,?_⟩;rw[h3.len,h1.len];exact hlt
 .have hne:aIA s1=true:=by simpa using hne
  have ew:i64.wrap ((s.length:Int)-(s1.length:Int))=((s.length-s1.length:Nat):Int):=wI;refine⟨_,h1.cell,?_⟩
  try dsimp only[zR]
  rw[ew,b6,abm hne];exact⟨by omega,by omega,bW,rfl,h1,hle⟩
def iu:ag->Nat
 |a::b::_=>if a=b/\([38,124,59,62]:ag).contains a=true then 2 else 1
 |_=>1
def arn{g:Nat}{s:ag}(h:Scan w g s)(hs:s≠[]):aq PO #[.pointer (some ⟨g,0,none⟩)] w
  (λe w'=>dz g w w'/\e=.returned (.string (S (s.take (iu s))))/\Scan w' g (s.drop (iu s))):=by
 apply aj1;have hol:iu s<=s.length/\(iu s=1\/iu s=2):=by
  match s,hs with
  |[a],_=>exact⟨aV _,.inl rfl⟩
  |a::b::r,_=>simp only[iu];split<;>simp
 refine⟨λn w3=>n=(iu s:Int)/\Scan w3 g s/\dz g w w3,⟨λx w2=>x=decide (iu s=2)/\Scan w2 g s/\dz g w w2,⟨λwq=>Scan wq g s,h.drew,_,λwq hq=>hq.cell,aA (λhl=>?_) (λhl=>⟨?_,h.drew,(Mod.refl _ _).drew⟩)⟩,?_⟩,?_⟩
 ·match s,hs,h with
  |a::b::r,_,h=>
   refine⟨_,λwq hq=>hq.cell,by decide,a,rfl,_,λwq hq=>hq.cell,by decide,b,rfl,aA (λhab=>⟨_,λwq hq=>hq.cell,by decide,a,rfl,(Tryz.strings_IndexByte (S [38,124,59,62]) _ _).mono ?_⟩) (λhab=>⟨?_,h.drew,(Mod.refl _ _).drew⟩)⟩
   .have hab:a=b:=aHi.1 (aR hab)
    rintro _ w1 ⟨rfl,rfl⟩;refine .inl ⟨_,rfl,?_,h.drew,(Mod.refl _ _).drew⟩;rw[R5,show(S [38,124,59,62]).data.toList=[38,124,59,62]from rfl,LP]
    by_cases hc:([38,124,59,62]:ag).contains a=true
    .have ho:iu (a::b::r)=2:=by simp only[iu,aL (And.intro hab hc)]
     rw[hc,fe ho]
    .have ho:iu (a::b::r)=1:=by simp only[iu,aG (λh=>hc (And.right h))]
     have I3:([38,124,59,62]:ag).contains a=false:=by simpa using hc
     rw[I3,eX (by omega)]
   .have hab:¬a=b:=λe=>aX hab (aHi.2 e)
    have ho:iu (a::b::r)=1:=by simp only[iu,aG (λh=>hab (And.left h))]
    exact(eX (by omega)).symm
  |[a],_,h=>simp at hl
 ·match s,hs with
  |[a],_=>rfl
  |a::b::r,_=>have:=aX hl;simp only[bf]at this;omega
 .rintro _ _ w2 ⟨rfl,h2,hm2⟩
  refine aA (λh=>⟨?_,h2,hm2⟩) (λh=>⟨?_,h2,hm2⟩)
  .rw[aR h];rfl
  .have:=aX h
   rcases hol.2 with e|e
   .rw[e];rfl
   .exact absurd e this
 .rintro _ _ w3 ⟨rfl,h3,cV⟩
  refine⟨_,h3.cell,by omega,by omega,(yw h3 (iu s)).mono λe w4 ht=>?_⟩;rw[aL hol.1]at ht;obtain⟨eZ,rfl,h4⟩:=ht;refine .inl ⟨rfl,cV.trans eZ,?_,h4⟩;rw[b6]
def uR:ag->ag
 |[]=>[]
 |a::r=>if a=10 then a::r else uR r
def acB:∀s:ag,uR s=(if 0<=Go.Lib.indexByte s 10 then s.drop (Go.Lib.indexByte s 10).toNat else[])/\(0<=Go.Lib.indexByte s 10->Go.Lib.indexByte s 10<s.length)/\-1<=Go.Lib.indexByte s 10
 |[]=>⟨rfl,by decide,by decide⟩
 |a::r=>by
  obtain⟨h1,h2,h3⟩:=acB r;simp only[Go.Lib.indexByte,uR,B8]
  by_cases ha:a=10
  .rw[aL ha,aL ha]
   refine⟨rfl,λ_=>by simp only[bf];omega,by decide⟩
  .rw[aG ha,aG ha,h1]
   by_cases hr:Go.Lib.indexByte r 10= -1
   .rw[aL hr,hr]
    exact⟨rfl,λh=>absurd h (by decide),by decide⟩
   .rw[aG hr,aL (by omega),aL (by omega)]
    refine⟨?_,λ_=>by simp only[bf];have:=h2 (by omega);omega,by omega⟩;rw[show(Go.Lib.indexByte r 10+1).toNat=(Go.Lib.indexByte r 10).toNat+1 by omega,BU]
def anV{g:Nat}{s:ag}(h:Scan w g s):aq PT #[.pointer (some ⟨g,0,none⟩)] w (λe w'=>dz g w w'/\e=.returned (.tuple #[])/\Scan w' g (uR s)):=by
 apply aj5;refine⟨_,h.cell,(Tryz.strings_IndexByte (S s) 10 _).mono ?_⟩;rintro _ w1 ⟨rfl,rfl⟩;have Xm:Go.Lib.indexByte (S s).data.toList (Int.toNat 10).toUInt8=Go.Lib.indexByte s 10:=rfl;rw[Xm];obtain⟨i1,i2,i3⟩:=acB s;generalize Go.Lib.indexByte s 10=ix at i1 i2 i3;refine .inl ⟨_,rfl,aA (λh0=>?_) (λh0=>⟨h.wr 0 (by simp),dz.put _,rfl,?_⟩)⟩
 .have h0:=aR h0
  obtain⟨n,rfl⟩:=PM h0;have i2:=i2 h0;refine(yw h n).mono λe w2 ht=>?_;rw[aL (by omega)]at ht;obtain⟨hm2,rfl,h2⟩:=ht;rw[aL h0,b6]at i1;rw[i1];exact .inl ⟨rfl,hm2,rfl,h2⟩
 .have h0:=aX h0
  rw[aG h0]at i1;rw[i1];exact h.put _
abbrev Tok:=Nat×ag
def RL:∀s:ag,(uR s).length<=s.length
 |[]=>aV _
 |a::r=>by
  simp only[uR];split
  .exact aV _
  .have:=RL r
   simp only[bf];omega
def Z3:∀(n:Nat) (s t:ag),se n s=some t->t.length<=s.length
 |0,_,_,h=>by cases h
 |n+1,s,t,h=>by
  rw[se]at h;split at h
  .obtain rfl:=bU h;exact aV _
  .split at h
   .rename_i t' ht
    have h1:=wJ 30 _ _ ht;have h2:=Z3 n _ _ h;omega
   .cases h
def R8{s t:ag}(he:aIA s=false)(h:nW s=some t):t.length<s.length:=by
 cases hu:fU 30 s with
 |none=>rw[abn he hu]at h;cases h
 |some t'=>rw[LG he hu]at h;have h1:=wJ 30 _ _ hu;have h2:=Z3 _ _ _ h;omega
def Tz{a:UInt8}{r:ag}:0<iu (a::r)/\iu (a::r)<=(a::r).length:=by
 cases r with
 |nil=>exact⟨Nat.one_pos,aV _⟩
 |cons b r=>simp only[iu];split<;>simp
def ku(a:UInt8)(r:ag):Option (List Tok×ag):=
 if a=32\/a=9 then some ([],r)
 else if a=35 then some ([],uR r)
 else if a=10 then some ([(2,[10])],r)
 else if oK a=true then some ([(1,(a::r).take (iu (a::r)))],(a::r).drop (iu (a::r)))
 else match nW (a::r)with
  |some t=>some ([(0,(a::r).take ((a::r).length-t.length))],t)
  |none=>none
def zc:Nat->ag->Option (List Tok)
 |0,_=>none
 |_+1,[]=>some []
 |n+1,a::r=>match ku a r with
  |some (l,t)=>match zc n t with
   |some m=>some (l++m)
   |none=>none
  |none=>none
def toks(s:ag):Option (List Tok):=zc (s.length+1) s
def RX{a:UInt8}{r t:ag}{l:List Tok}(h:ku a r=some (l,t)):t.length<=r.length/\l.length<=1:=by
 unfold ku at h;split at h
 .obtain⟨rfl,rfl⟩:=aIN .. ▸bU h
  exact⟨aV _,by simp⟩
 .split at h
  .obtain⟨rfl,rfl⟩:=aIN .. ▸bU h
   exact⟨RL r,by simp⟩
  .split at h
   .obtain⟨rfl,rfl⟩:=aIN .. ▸bU h
    exact⟨aV _,by simp⟩
   .split at h
    .obtain⟨rfl,rfl⟩:=aIN .. ▸bU h
     have:=Tz (a:=a) (r:=r);refine⟨?_,by simp⟩;rw[ig];simp only[bf]at this⊢;omega
    .rename_i he
     split at h
     .rename_i t' ht
      obtain⟨rfl,rfl⟩:=aIN .. ▸bU h;have:=R8 (s:=a::r) (by simpa[aIA]using he) ht;simp only[bf]at this;exact⟨by omega,by simp⟩
     .cases h
def acC:∀(n m:Nat) (s:ag),s.length<n->s.length<m->zc n s=zc m s
 |0,_,_,h,_=>by omega
 |_,0,_,_,h=>by omega
 |n+1,m+1,[],_,_=>rfl
 |n+1,m+1,a::r,hn,hm=>by
  simp only[bf]at hn hm;simp only[zc];cases h:ku a r with
  |none=>rfl
  |some x=>obtain⟨l,t⟩:=x;have:=(RX h).1;dsimp only;rw[acC n m t (by omega) (by omega)]
def TA:toks []=some []:=rfl
def SZ(a:UInt8)(r:ag):toks (a::r)=(ku a r).bind λx=>(toks x.2).map (x.1++·):=by
 show zc (r.length+1+1) (a::r)=_;simp only[zc];cases h:ku a r with
 |none=>rfl
 |some x=>
  obtain⟨l,t⟩:=x;have:=(RX h).1;dsimp only[Option.bind];rw[acC (r.length+1) (t.length+1) t (by omega) (by omega)];show _=(zc (t.length+1) t).map _
  cases zc (t.length+1) t<;>rfl
def tc(l:List Tok):List Value:=l.flatMap λx=>[.int .i64 (x.1:Int),.string (S x.2)]
def ati(l m:List Tok):tc (l++m)=tc l++tc m:=by simp[tc]
def iK(s:ag):List Tok×Int:=if 20000<s.length then([],2)else match toks s with
 |some l=>(l,0)
 |none=>([],80)
structure TS(w w1:World)(s s1:ag)(acc:List Tok):Prop where
 sc:Scan w1 (w.heap.size+2) s1
 li:∃p C,Row w1 w.heap.size 126 ⟨[.slice p acc.length C]⟩/\aS w1 (w.heap.size+3) 203 2 (.slice p acc.length C) acc.length (tc acc)
 er:Row w1 (w.heap.size+1) 28 ⟨[.int .i64 0]⟩
 still:Still w w1
 size:w.heap.size+3<=w1.heap.size
 all:(toks s1).map (acc++·)=toks s
 eS:acc.length+s1.length<=s.length
def Ui{k:Int}{t:ag}:∀u∈[Value.int .i64 k,.string (S t)],u.oneCell'=true:=by intro u hu;simp only[aHs,uf,uj]at hu;rcases hu with rfl|rfl<;>rfl
def aKL(w:World)(t:TypeId)(x y:Value):0<1->∃a:Addr,(some (Addr.mk w.heap.size 0 none))=some a/\∀(j:Nat) (u:Value),[x,y][j]?=some u->(w.alloc (.cells #[x,y] t)).cell? (a.add j)=some u:=by refine λ_=>⟨_,rfl,λj u hu=>?_⟩;rw[aHa,cQ];exact(Row.new w t ⟨[x,y]⟩).dy (by simpa using hu)
def TS.rS{w w1 w2 w3:World}{s s1 t:ag}{acc:List Tok}{k:Nat}{x:ag}{p p3:Option Addr}{C C3:Nat}(h:TS w w1 s s1 acc)(hm:dz (w.heap.size+2) w1 w2)(hsc:Scan w2 (w.heap.size+2) t)
  (ho:aS w2 (w.heap.size+3) 203 2 (.slice p acc.length C) acc.length (tc acc))(hl:Row w2 w.heap.size 126 ⟨[.slice p acc.length C]⟩)
  (oS:aS w3 0 203 2 (Value.slice p3 (acc.length+1) C3) (acc.length+1) (tc acc++[.int .i64 (k:Int),.string (S x)])){o:Obj}(hg:(w2.alloc o).grownBy w3 (Value.ownBlock (Value.slice p acc.length C)))
  (hb:oO p p3 (acc.length+1) C C3 (w2.alloc o).heap.size)
  (hall:(toks t).map ((acc++[(k,x)])++·)=toks s)(ahj:acc.length+1+t.length<=s.length):
  Wr w3 ⟨w.heap.size,0,none⟩/\TS w (w3.setCell ⟨w.heap.size,0,none⟩ (.slice p3 (acc.length+1) C3)) s t (acc++[(k,x)]):=by
 have hs1:=h.size;have hs2:w.heap.size+3<=w2.heap.size:=kJ hs1 hm.size;have sy:Still w w2:=Mod.trans h.still hm (λ_ h=>h) (λi hi h=>by omega);have ahk:=ho.rS hs2 oS hb;have vV:=hl.rS ho (aH2 (by omega) (aV _)) hg;have aAa:=hsc.rS ho (by omega) hg;have aAb:=h.er.mod hm (by omega);have aAc:=aAb.rS ho (by omega) hg;have aIp:Still w w3:=sy.rS ho (by omega) hg;have hown:∀j,(Value.slice p3 (acc.length+1) C3).ownBlock=some j->w.heap.size+3<=j:=λj hj=>(ahk.lt j hj).1;refine⟨vV.wr 0 (by simp),?_⟩;refine⟨aAa.far (by simp) _,⟨p3,C3,?_,?_⟩,aAc.far (by simp) _,aIp.setCell (.inr (aV _)) _,?_,hall,by simp;omega⟩
 .have:=vV.fW 0 (.slice p3 (acc.length+1) C3)
  simpa using this
 .have:=ahk.far (p:=⟨w.heap.size,0,none⟩) (λe=>by have:=hown _ e;dsimp only at this;omega) (.slice p3 (acc.length+1) C3)
  rw[ati];simpa[tc]using this
 .have h1:=hg.size
  simp only[World.size_alloc,World.size_setCell]at h1⊢;omega
def CN{w w3:World}{s:ag}{R:Ending->World->Prop}(qs:¬20000<s.length)(hno:toks s=none)(hst:Still w w3){x:Value}(hl:Row w3 w.heap.size 126 ⟨[x]⟩){y:Value}(he:Row w3 (w.heap.size+1) 28 ⟨[y]⟩)
  (hR:∀w',Still w w'->R (.returned (.tuple #[.slice none 0 0,.int .i64 80])) w'):
  CallsD aM aJ3 #[(.pointer (some (Addr.mk w.heap.size 0 none))),(.pointer (some (Addr.mk (w.heap.size+1) 0 none)))] (.panicking HY) w3 (λdm ux w4=>(∃rv,dm=.returned rv)/\settle ux=.returning/\∃(v4:Option Addr) (cW ec:Nat),w4.cell? (Addr.mk w.heap.size 0 none)=some (.slice v4 cW ec)/\∃v5:Int,w4.cell? (Addr.mk (w.heap.size+1) 0 none)=some (.int .i64 v5)/\R (.returned (.tuple #[(.slice v4 cW ec),(.int .i64 v5)])) w4):=by
 have hne:w.heap.size≠w.heap.size+1:=by omega
 have tO:=he.drew.far (p:=⟨w.heap.size,0,none⟩) hne.symm (.slice none 0 0);have jQ:=hl.drew.fW 0 (.slice none 0 0);refine(aou ⟨w.heap.size,0,none⟩ ⟨w.heap.size+1,0,none⟩ 80 w3 (hl.wr 0 (by simp)) (tO.wr 0 (by simp))).mono ?_;rintro _ u w4 ⟨rfl,hu,rfl⟩;have vV:=jQ.far (p:=⟨w.heap.size+1,0,none⟩) hne (.int .i64 80);have he3:=tO.fW 0 (.int .i64 80);refine⟨⟨_,rfl⟩,hu,_,_,_,vV.dy rfl,_,he3.dy rfl,hR _ ?_⟩;exact(hst.drew.setCell (.inr (aV _)) _).setCell (.inr (B6 _)) _
set_option maxHeartbeats 2000000 in
def ap7(s:ag):aq Rn #[.string (S s)] w
  (λe w'=>∃p C,e=.returned (.tuple #[.slice p (iK s).1.length C,.int .i64 (iK s).2])/\aS w' w.heap.size 203 2 (.slice p (iK s).1.length C) (iK s).1.length (tc (iK s).1)/\Still w w'):=by
 apply amz;have hl0:Row (w.alloc (.cells #[(.slice none 0 0)] 126)) w.heap.size 126 ⟨[.slice none 0 0]⟩:=Row.new _ _ _;have s1:(w.alloc (.cells #[(.slice none 0 0)] 126)).heap.size=w.heap.size+1:=World.size_alloc ..;have xM:Row ((w.alloc (.cells #[(.slice none 0 0)] 126)).alloc (.cells #[(.int .i64 0)] 28)) (w.heap.size+1) 28 ⟨[.int .i64 0]⟩:=by have:=Row.new (w.alloc (.cells #[(.slice none 0 0)] 126)) 28 ⟨[.int .i64 0]⟩;rwa[s1]at this
 have s2:((w.alloc (.cells #[(.slice none 0 0)] 126)).alloc (.cells #[(.int .i64 0)] 28)).heap.size=w.heap.size+2:=by rw[World.size_alloc,s1]
 have hl1:=hl0.alloc (.cells #[(.int .i64 0)] 28);have hst:Still w ((w.alloc (.cells #[(.slice none 0 0)] 126)).alloc (.cells #[(.int .i64 0)] 28)):=((Mod.refl _ _).alloc _).alloc _;have hne:w.heap.size≠w.heap.size+1:=by omega
 unfold Rx;rw[s1,s2];generalize(w.alloc (.cells #[(.slice none 0 0)] 126)).alloc (.cells #[(.int .i64 0)] 28)=w0 at xM s2 hl1 hst⊢;refine aA (λqs=>?_) (λqs=>?_)
 .have qs:=aR qs
  have hres:iK s=([],2):=by unfold iK;rw[aL (by omega)]
  rw[hres];have tO:=xM.far (p:=⟨w.heap.size,0,none⟩) hne.symm (.slice none 0 0);have jQ:=(hl1.fW 0 (.slice none 0 0)).far (p:=⟨w.heap.size+1,0,none⟩) hne (.int .i64 2);refine⟨hl1.wr 0 (by simp),tO.wr 0 (by simp),_,_,_,jQ.dy rfl,_,(tO.fW 0 (.int .i64 2)).dy rfl,none,0,rfl,aS.nil _ _ _ _,?_⟩;exact(hst.setCell (.inr (aV _)) _).setCell (.inr (B6 _)) _
 have qs:¬20000<s.length:=by have:=aX qs;omega
 have aAd:Scan (w0.alloc (.cells #[(.string (S s))] 200)) (w.heap.size+2) s:=by have:=Row.new w0 200 ⟨[.string (S s)]⟩;rwa[s2]at this
 refine⟨λw1=>∃s1 acc,TS w w1 s s1 acc,uQ (w.heap.size+2),⟨s,[],aAd,⟨none,0,hl1.alloc _,aS.nil _ _ _ _⟩,xM.alloc _,hst.alloc _,by rw[World.size_alloc,s2];exact aV _,by simp,by simp⟩,?_⟩;rintro _ w1 ⟨s1,acc,h⟩;have aIo:=h.still;have ahj:=h.eS;have hown:=h.li;obtain⟨p,C,sP,ho⟩:=hown;refine⟨s1,h.sc.cell,aA (λaKd=>?_) (λaKd=>?_)⟩
 .have aKd:s1≠[]:=by simpa using aKd
  obtain⟨a,r,rfl⟩:=aJj aKd;simp only[bf]at ahj;have hall:=h.all;rw[SZ]at hall;have ayx:uQ (w.heap.size+2) w1=r.length+1:=by rw[h.sc.len];rfl
  rw[ayx]
  -- nothing is told here
  have quiet:∀(t:ag) (w3:World),t.length<=r.length->ku a r=some ([],t)->dz (w.heap.size+2) w1 w3->Scan w3 (w.heap.size+2) t->(∃s1 acc,TS w w3 s s1 acc)/\uQ (w.heap.size+2) w3<r.length+1:=by intro t w3 ht hone hm hsc;refine⟨⟨t,acc,hsc,⟨p,C,sP.mod hm (by omega),ho.mod hm (λk hk=>by have:=(ho.lt k hk).1;omega)⟩,h.er.mod hm (by omega),Mod.trans aIo hm (λ_ h=>h) (λi hi h=>by omega),kJ h.size hm.size,?_,by omega⟩,by rw[hsc.len];omega⟩;rw[hone]at hall;simpa using hall
  -- a token is told here
  have told:∀(k:Nat) (x t:ag),ku a r=some ([(k,x)],t)->(toks t).map ((acc++[(k,x)])++·)=toks s:=by
   intro k x t hone;rw[hone]at hall;have h2:(toks t).map ((acc++[(k,x)])++·)=Option.map (λy=>acc++y) (Option.map (λy=>[(k,x)]++y) (toks t)):=by cases toks t<;>simp
   rw[h2];exact hall
  refine⟨_,h.sc.cell,by decide,a,rfl,λx w2=>x=decide (a=32\/a=9)/\w2=w1,aA (λDp=>⟨?_,rfl⟩) (λDp=>⟨?_,rfl⟩),?_⟩
  .have Dp:a=32:=aHi.1 (aR Dp)
   rw[fe (.inl Dp)]
  .have Dp:¬a=32:=λe=>aX Dp (aHi.2 e)
   apply sY.2;exact⟨λh=>.inr (aHi.1 h),λh=>h.elim (λh=>absurd h Dp) (λh=>aHi.2 h)⟩
  rintro _ _ w2 ⟨rfl,rfl⟩;refine aA (λpN=>?_) (λpN=>aA (λjR=>?_) (λjR=>aA (λh10=>?_) (λh10=>?_)))
  .have pN:=aR pN
   refine(yw h.sc 1).mono λe w3 ht=>?_;rw[aL (by simp)]at ht;obtain⟨cV,rfl,h3⟩:=ht;exact .inl ⟨rfl,quiet r w3 (aV _) (by unfold ku;rw[aL pN]) cV h3⟩
  .have pN:=aX pN
   have jR:a=35:=aHi.1 (aR jR);refine(anV h.sc).mono ?_;rintro _ w3 ⟨cV,rfl,h3⟩;have hle:uR (a::r)=uR r:=by rw[jR];rfl
   rw[hle]at h3;exact .inl ⟨rfl,quiet (uR r) w3 (RL r) (by unfold ku;rw[aG pN,aL jR]) cV h3⟩
  .have pN:=aX pN
   have jR:¬a=35:=λe=>aX jR (aHi.2 e);have h10:a=10:=aHi.1 (aR h10);refine(yw h.sc 1).mono λe w3 ht=>?_;rw[aL (by simp)]at ht;obtain⟨cV,rfl,h3⟩:=ht;have vV:=sP.mod cV (by omega);have oS:=ho.mod cV (λk hk=>by have:=(ho.lt k hk).1;omega);refine .inl ⟨rfl,_,_,_,vV.dy rfl,tc acc,[.int .i64 2,.string (S [10])],(oS.alloc _).AO,rfl,Ui,aKL _ _ _ _,by omega,by omega,λp3 C3 w4 qt Jq hb4=>?_⟩;obtain⟨hwr,hts⟩:=h.rS (k:=2) (x:=[10]) (t:=r) cV h3 oS vV qt Jq hb4 (told 2 [10] r (by unfold ku;rw[aG pN,aG jR,aL h10])) (by omega);refine⟨hwr,⟨_,_,hts⟩,?_⟩;rw[hts.sc.len];omega
  .have pN:=aX pN
   have jR:¬a=35:=λe=>aX jR (aHi.2 e);have h10:¬a=10:=λe=>aX h10 (aHi.2 e);refine(Z2 h.sc).mono ?_;rintro _ w3 ⟨rfl,rfl⟩;refine .inl ⟨_,rfl,aA (λhend=>?_) (λhend=>?_)⟩
   .have hend:oK a=true:=hend
    refine⟨λwq=>Row wq w.heap.size 126 ⟨[.slice p acc.length C]⟩,sP.drew,_,_,_,λwq hq=>hq.dy rfl,(arn h.sc.drew (YR _ _)).mono ?_⟩;rintro _ w4 ⟨eZ,rfl,h4⟩;have ze:dz (w.heap.size+2) w3 w4:=Mod.trans (Mod.refl (λi=>i=w.heap.size+2) w3).drew eZ (λ_ h=>h) (λ_ _ h=>h);have BF:=sP.mod ze (by omega);have qt:=ho.mod ze (λk hk=>by have:=(ho.lt k hk).1;omega);have hol:=Tz (a:=a) (r:=r);refine .inl ⟨_,rfl,BF,BF.alloc _,tc acc,[.int .i64 1,.string (S ((a::r).take (iu (a::r))))],(qt.alloc _).AO,rfl,Ui,aKL _ _ _ _,by omega,by omega,λp3 C3 w5 rA Xn aJQ=>?_⟩;have hdl:((a::r).drop (iu (a::r))).length+iu (a::r)=r.length+1:=by rw[ig];simp only[bf]at hol⊢;omega
    obtain⟨hwr,hts⟩:=h.rS (k:=1) (x:=(a::r).take (iu (a::r))) (t:=(a::r).drop (iu (a::r))) ze h4 qt BF rA Xn aJQ (told 1 _ _ (by unfold ku;rw[aG pN,aG jR,aG h10,aL hend])) (by omega);refine⟨hwr,⟨_,_,hts⟩,?_⟩;rw[hts.sc.len];omega
   .have hend:oK a=false:=hend
    refine⟨λwq=>Row wq w.heap.size 126 ⟨[.slice p acc.length C]⟩,sP.drew,_,_,_,λwq hq=>hq.dy rfl,(aph h.sc.drew (by simp only[bf];omega)).mono ?_⟩;rintro e w4 ⟨eZ,hw⟩;have ze:dz (w.heap.size+2) w3 w4:=Mod.trans (Mod.refl (λi=>i=w.heap.size+2) w3).drew eZ (λ_ h=>h) (λ_ _ h=>h);have BF:=sP.mod ze (by omega);have qt:=ho.mod ze (λk hk=>by have:=(ho.lt k hk).1;omega);have he4:=h.er.mod ze (by omega);have iL:Still w w4:=Mod.trans aIo ze (λ_ h=>h) (λi hi h=>by omega);have hone:ku a r=match nW (a::r)with
     |some t=>some ([(0,(a::r).take ((a::r).length-t.length))],t)
     |none=>none:=by
     unfold ku;rw[aG pN,aG jR,aG h10,aG (by rw[hend];decide)]
    cases hwd:nW (a::r)with
    |none=>
     rw[hwd]at hw hone;obtain⟨rfl,_⟩:=hw;rw[hone]at hall;have hno:toks s=none:=by rw[<-hall];rfl
     have hres:iK s=([],80):=by unfold iK;rw[aG qs,hno]
     rw[hres];refine .inr ⟨_,rfl,CN (R:=λe w'=>∃p C,e=.returned (.tuple #[.slice p (([],80):List Tok×Int).1.length C,.int .i64 (([],80):List Tok×Int).2])/\aS w' w.heap.size 203 2 (.slice p (([],80):List Tok×Int).1.length C) (([],80):List Tok×Int).1.length (tc (([],80):List Tok×Int).1)/\Still w w') qs hno iL BF he4 λw' h'=>⟨none,0,rfl,aS.nil _ _ _ _,h'⟩⟩
    |some t=>rw[hwd]at hw hone;obtain⟨rfl,h4,_⟩:=hw;have htl:=R8 (s:=a::r) (by simpa[aIA]using hend) hwd;simp only[bf]at htl;refine .inl ⟨_,rfl,BF,BF.alloc _,tc acc,[.int .i64 0,.string (S ((a::r).take ((a::r).length-t.length)))],(qt.alloc _).AO,rfl,Ui,aKL _ _ _ _,by omega,by omega,λp3 C3 w5 rA Xn aJQ=>?_⟩;obtain⟨hwr,hts⟩:=h.rS (k:=0) (x:=(a::r).take ((a::r).length-t.length)) (t:=t) ze h4 qt BF rA Xn aJQ (told 0 _ _ hone) (by omega);refine⟨hwr,⟨_,_,hts⟩,?_⟩;rw[hts.sc.len];omega
 .have aKd:s1=[]:=by simpa using aKd
  subst aKd;have hall:toks s=some acc:=by rw[<-h.all];simp[TA]
  have hres:iK s=(acc,0):=by unfold iK;rw[aG qs,hall]
  rw[hres];have jQ:=sP.fW 0 (.slice p acc.length C);have tO:=h.er.far (p:=⟨w.heap.size,0,none⟩) hne.symm (.slice p acc.length C);have hown:∀k,(Value.slice p acc.length C).ownBlock=some k->w.heap.size+3<=k:=λk hk=>(ho.lt k hk).1;refine⟨p,acc.length,C,sP.dy rfl,sP.wr 0 (by simp),tO.wr 0 (by simp),(apJ _ _ _).mono ?_⟩;rintro _ u w4 ⟨rfl,rfl,rfl⟩;have vV:=jQ.far (p:=⟨w.heap.size+1,0,none⟩) hne (.int .i64 0);refine⟨⟨_,rfl⟩,rfl,p,acc.length,C,vV.dy rfl,0,(tO.fW 0 (.int .i64 0)).dy rfl,p,C,rfl,?_,(aIo.setCell (.inr (aV _)) _).setCell (.inr (B6 _)) _⟩;have o1:=ho.far (p:=⟨w.heap.size,0,none⟩) (λe=>by have:=hown _ e;dsimp only at this;omega) (.slice p acc.length C);have o2:=o1.far (p:=⟨w.heap.size+1,0,none⟩) (λe=>by have:=hown _ e;dsimp only at this;omega) (.int .i64 0);exact o2.base (λk hk=>by have:=hown k hk;omega)
def cD.fields{F:Nat->Prop}{l:List Pt}{p:Option Addr}{n c:Nat}(h:cD w F l (.slice p n c)){i:Nat}(hi:i<l.length):∃b wp wc,p=some b/\w.cell? (b.add (i*6))=some (.int .i64 l[i].k)/\w.cell? ((b.add (i*6)).add 1)=some (.bool l[i].q)/\w.cell? ((b.add (i*6)).add 2)=some (.string (S l[i].t))/\w.cell? ((b.add (i*6)).add 3)=some (.string (S l[i].n))/\w.cell? ((b.add (i*6)).add 4)=some (.string (S l[i].o))/\
  w.cell? ((b.add (i*6)).add 5)=some (.slice wp l[i].w.length wc)/\cD w F l[i].w (.slice wp l[i].w.length wc):=by
 obtain⟨b,v,rfl,_,hc,hs⟩:=h.get (gW hi);obtain⟨wp,wc,rfl⟩:=hs.form;have a0:(b.add (i*6)).add 0=b.add (i*6):=by unfold Addr.add;simp
 refine⟨b,wp,wc,rfl,?_,hc 1 _ rfl,hc 2 _ rfl,hc 3 _ rfl,hc 4 _ rfl,hc 5 _ rfl,hs⟩;have:=hc 0 _ rfl;rwa[a0]at this
def take_one{α:Type}{l:List α}{k:Nat}(h:k<l.length):l.take (k+1)=l.take k++[l[k]]:=by rw[F8,gW h];rfl
def aeA{l:List Pt}{k:Nat}(h:k<l.length):cG (l.take k)+l[k].wt<=cG l:=by
 have e:l=l.take k++(l[k]::l.drop (k+1)):=by rw[<-qB h,pV]
 have h2:=GG (l.take k) (l[k]::l.drop (k+1));rw[<-e]at h2;simp only[cG]at h2;omega
def ahl{x:Pt}{wp:Option Addr}{n wc:Nat}:∀v∈[Value.int .i64 x.k,.bool x.q,.string (S x.t),.string (S x.n),.string (S x.o),.slice wp n wc],v.oneCell'=true:=by simp[Value.oneCell']
def iq.mQ{B:Nat}{l:List Pt}{v:Value}(h:iq w B l v){k:Nat}(hk:v.ownBlock=some k):B<=k/\k<w.heap.size:=by obtain⟨p,c,xs,rfl,ho,_⟩:=h;exact ho.lt k hk
abbrev k7(k:Nat):List PanicEntry:=[{v:=.iface 28 (.int .i64 (k:Int)),recovered:=false}]
def Pz(w:World)(g:Nat)(s:Ts):Prop:=∃a c,Row w g 131 ⟨[.slice a s.length c]⟩/\WJ.At w (λk=>k<g) s (.slice a s.length c)
def Pz.lt{g:Nat}{s:Ts}(h:Pz w g s):g<w.heap.size:=by obtain⟨a,c,h,_⟩:=h;exact h.lt
def Pz.mod{S:Nat->Prop}{g:Nat}{s:Ts}{w':World}(h:Pz w g s)(hm:Mod S w w')(hS:∀k,k<=g->¬S k):Pz w' g s:=by obtain⟨a,c,h1,h2⟩:=h;exact⟨a,c,h1.mod hm (hS g (aV _)),h2.mod hm λk hk=>hS k (K2 hk)⟩
def Pz.still{g:Nat}{s:Ts}{w':World}(h:Pz w g s)(hm:Still w w'):Pz w' g s:=h.mod hm λ_ _ h=>h
def aH7.zero{b:Addr}{x:Value}{xs:List Value}(h:aH7 w b (x::xs)):w.cell? b=some x:=by
 have a0:b.add 0=b:=by unfold Addr.add;simp
 have:=h 0 x rfl;rwa[a0]at this
def _root_.Go.Proofs.YtihaaoehhgmphaaGreatDoor.Still.only{g:Nat}{a b:World}(h:Still a b):dz g a b:=h.weaken λ_ h=>h.elim
def abo(ok:Bool):aq DV #[.bool ok] w (λe w'=>e=(if ok=true then .returned (.tuple #[])else .panicked (k7 100))/\w'=w):=by
 apply amR;cases ok with
 |true=>exact⟨rfl,rfl⟩
 |false=>exact⟨rfl,rfl⟩
def agf{ok:Bool}{K:World->Prop}{R:Ending->World->Prop}(h1:ok=true->K w)(h2:ok=false->R (.panicked (k7 100)) w):aq DV #[.bool ok] w (λe w'=>(e=.returned (.tuple #[])/\K w')\/(∃c,e=.panicked c/\R (.panicked c) w')):=by
 refine(abo ok).mono ?_;rintro _ w1 ⟨rfl,rfl⟩;cases ok with
 |true=>exact .inl ⟨rfl,h1 rfl⟩
 |false=>exact .inr ⟨_,rfl,h2 rfl⟩
def LH(k:Nat):aq K_ #[.int .i64 (k:Int)] w (λe w'=>e=(if k=0 then .returned (.tuple #[])else .panicked (k7 k))/\w'=w):=by
 apply am2;refine aA (λh=>?_) (λh=>?_)
 .have h:¬(k:Int)=0:=nt h
  rw[aG (by omega)];exact⟨rfl,rfl⟩
 .have h:(k:Int)=0:=nf h
  rw[aL (by omega)];exact⟨rfl,rfl⟩
def Al{g:Nat}{s:Ts}(h:Pz w g s)(k:Nat):aq uc #[.pointer (some ⟨g,0,none⟩),.int .i64 (k:Int)] w (λe w'=>e=.returned (.agg #[.int .i64 ((((s[k]?).getD (2,[])).1:Nat):Int),.string (S ((s[k]?).getD (2,[])).2)])/\Still w w'):=by
 apply akX;obtain⟨a,c,hr,ht⟩:=h;refine aQ λw1 r1 s1 z1=>⟨a,s.length,c,(hr.still s1).aj rfl,aA (λhx=>?_) (λhx=>?_)⟩
 .have hx:s.length<=k:=by have:=aR hx;omega
  rw[t_ hx];exact aHb r1 λw2 r2 m2 z2=>⟨_,_,r2.aj rfl,r2.aj rfl,rfl,s1.box (aV _) m2⟩
 .have hx:k<s.length:=by have:=aX hx;omega
  obtain⟨b,cs,rfl,_,he,hc⟩:=(ht.still s1).get (gW hx);obtain rfl:cs=[.int .i64 (s[k].1:Int),.string (S s[k].2)]:=he;rw[gW hx,b6];exact⟨some b,s.length,c,(hr.still s1).aj rfl,by omega,by omega,_,_,hc.zero,hc 1 _ rfl,aHb r1 λw2 r2 m2 z2=>⟨_,_,r2.aj rfl,r2.aj rfl,rfl,s1.box (aV _) m2⟩⟩
def LR{g:Nat}{x:Nat×ag}{r:Ts}(h:Pz w g (x::r)):aq BV #[.pointer (some ⟨g,0,none⟩)] w (λe w'=>e=.returned (.agg #[.int .i64 (x.1:Int),.string (S x.2)])/\dz g w w'/\Pz w' g r):=by
 apply akW;have hg:=h.lt;obtain⟨a,c,hr,ht⟩:=h;obtain⟨a,rfl⟩:=ht.ptr;have hlen:=ht.len.2;refine aQ λw1 r1 s1 z1=>⟨_,_,_,(hr.still s1).aj rfl,by decide,by simp only[bf];omega,?_⟩;obtain⟨b,cs,hb,_,he,hc⟩:=(ht.still s1).get (i:=0) rfl;obtain rfl:=bU hb;obtain rfl:cs=[.int .i64 (x.1:Int),.string (S x.2)]:=he;refine⟨_,_,hc.zero,hc 1 _ rfl,aQ λw2 r2 s2 z2=>aHb r2 λw3 r3 m3 z3=>?_⟩;have hr3:=((hr.still s1).still s2).mod m3 (by intro e;omega);have Fh:=(r1.still s2).mod m3 (by intro e;omega);have Fj:=((ht.still s1).still s2).mod m3 (by intro k hk e;omega);refine⟨_,_,_,hr3.aj rfl,by decide,by simp only[bf];omega,?_⟩;refine aHb hr3 λw4 r4 m4 z4=>⟨_,_,(r3.mod m4 (by intro e;omega)).aj rfl,(r3.mod m4 (by intro e;omega)).aj rfl,?_⟩;refine aHb (Fh.mod m4 (by intro e;omega)) λw5 r5 m5 z5=>⟨_,_,r5.aj rfl,r5.aj rfl,rfl,?_,?_⟩
 .have o3:dz g w w3:=((s1.trans s2).box (g:=w1.heap.size) (by omega) m3).only
  exact Mod.trans (Mod.trans o3 m4 (λ_ h=>h) (λ_ _ h=>h)) m5 (λ_ h=>h) (λi hi e=>by omega)
 .have ht5:=(Fj.mod m4 (by intro k hk e;omega)).mod m5 (by intro k hk e;omega)
  have O1:=r4.mod m5 (by intro e;omega);have JC:=ht5.tail
  by_cases hc1:c=1
  .have ru:r=[]:=by
    simp only[bf]at hlen;exact pU (by omega)
   subst ru;have e:(if c=Int.toNat 1 then some a else Option.map (λx:Addr=>x.add (Int.toNat 1*2)) (some a))=some a:=aL (by rw[hc1];rfl);refine⟨some a,c-Int.toNat 1,?_,cA.At.nil _ _ _ _ _⟩;rw[e]at O1;exact O1
  .have e:(if c=Int.toNat 1 then some a else Option.map (λx:Addr=>x.add (Int.toNat 1*2)) (some a))=some (a.add 2):=aG (λh=>hc1 h)
   refine⟨some (a.add 2),c-1,?_,?_⟩
   .rw[e]at O1
    exact O1
   .exact JC
def DX{p:Option Addr}{n C:Nat}{l:List ag}(h:de w p n l)(hn:n<1000)(x:ag):aq aJX #[.slice p n C,.string (S x)] w (λe w'=>e=.returned (.bool (l.contains x))/\Still w w'):=by
 apply XV;have hlen:=h.1;have key:aq J4 #[.slice p n C,.string (S x)] w (λe w'=>(∃z:Int,e=.returned (.int .i64 z)/\(0<=z↔x∈l))/\Still w w'):=by
  apply XY;refine⟨λi w1=>∃k:Nat,i=(k:Int)/\k<=n/\x∉l.take k/\w1=w,λi _=>n-i.toNat,⟨0,rfl,dK _,by simp,rfl⟩,?_⟩;rintro _ _ w1 ⟨k,rfl,hk,hno,rfl⟩;refine aA (λhx=>?_) (λhx=>?_)
  .have hx:k<n:=by have:=aR hx;omega
   have hkl:k<l.length:=by omega
   obtain⟨b,rfl,cb⟩:=h.get hx;refine⟨by omega,by omega,l[k],by rw[b6,aHp];exact cb,aA (λhe=>?_) (λhe=>?_)⟩
   .have he:x=l[k]:=aR he
    exact⟨⟨_,rfl,⟨λ_=>by rw[he];exact kI hkl,λ_=>by omega⟩⟩,Still.refl _⟩
   .have he:¬x=l[k]:=aX he
    have e1:i64.wrap ((k:Int)+1)=((k+1:Nat):Int):=wI;rw[e1];refine⟨⟨k+1,rfl,hx,?_,rfl⟩,by dsimp only;omega⟩;rw[take_one hkl];simp only[kW,gE,not_or];exact⟨hno,he⟩
  .have hx:k=n:=by have:=aX hx;omega
   rw[hx,<-hlen,oD]at hno;exact⟨⟨-1,rfl,⟨λh=>absurd h (by decide),λh=>absurd h hno⟩⟩,Still.refl _⟩
 refine key.mono ?_;rintro _ w1 ⟨⟨z,rfl,hz⟩,s1⟩;refine .inl ⟨_,rfl,?_,s1⟩;have:decide (0<=z)=l.contains x:=by rw[sZ,F2,DA];exact hz
 rw[this]
def xY(k:Nat)(l:List ag)(s:Ts):Bool:=decide (((s[0]?).getD (2,[])).1=k)&&l.contains ((s[0]?).getD (2,[])).2
def AB{g:Nat}{s:Ts}(h:Pz w g s)(k:Nat){q:Option Addr}{n c:Nat}{l:List ag}(hq:de w q n l)(hn:n<1000):aq wC #[.pointer (some ⟨g,0,none⟩),.int .i64 (k:Int),.slice q n c] w (λe w'=>e=.returned (.bool (xY k l s))/\Still w w'):=by
 apply alu;have h1:=Al h 0;refine h1.mono ?_;rintro _ w1 ⟨rfl,s1⟩;unfold xY;generalize(s[0]?).getD (2,[])=x;refine .inl ⟨_,_,rfl,aQ λw2 r2 s2 z2=>aHb r2 λw3 r3 m3 z3=>?_⟩;have s3:Still w w3:=(s1.trans s2).box s1.size m3;refine⟨_,r3.aj rfl,aA (λhk=>?_) (λhk=>?_)⟩
 .have hk:x.1=k:=by have:=aR hk;omega
  refine⟨_,r3.aj rfl,(DX (hq.still s3) hn x.2).mono ?_⟩;rintro _ w4 ⟨rfl,s4⟩;refine .inl ⟨_,rfl,?_,s3.trans s4⟩;rw[fe hk,B2]
 .have hk:¬x.1=k:=by have:=aX hk;omega
  rw[eX hk,Rc];exact⟨rfl,s3⟩
def Ek{k:Nat}{t:ag}(ht:t≠[])(s:Ts):xY k [t] s=aHA k t s:=by
 unfold xY aHA;cases s with
 |nil=>
  have:([t]:List ag).contains []=false:=by simp only[ud,F9,DS,Qg];exact λe=>ht e.symm
  simp only[List.getElem?_nil,Option.getD_none,this,KQ,List.head?_nil];exact(eX (by simp)).symm
 |cons x r=>simp only[PN,QU,ud,F9,DS];rw[sZ,aHo,F2,F2,B8];exact⟨λh=>gJ some (Prod.ext h.1 h.2),λh=>by rw[bU h];exact⟨rfl,rfl⟩⟩
def TC{k:Nat}{t:ag}{l:List ag}(ht:t≠[])(s:Ts):xY k (t::l) s=(aHA k t s||xY k l s):=by rw[<-Ek ht];unfold xY;simp only[ud,F9,DS];cases decide (((s[0]?).getD (2,[])).1=k)<;>rfl
def wO{g:Nat}{s:Ts}(h:Pz w g s)(k:Nat){t:ag}(ht:t≠[]):aq DF #[.pointer (some ⟨g,0,none⟩),.int .i64 (k:Int),.string (S t)] w (λe w'=>e=.returned (.bool (aHA k t s))/\dz g w w'/\Pz w' g (if aHA k t s=true then s.tail else s)):=by
 apply akS;refine aQ λw1 r1 s1 z1=>(AB (h.still s1) k (de.row (l:=[t]) r1) (show 1<1000 by decide)).mono ?_;rintro _ w2 ⟨rfl,s2⟩;rw[Ek ht];have h2:=(h.still s1).still s2;refine .inl ⟨_,rfl,aA (λhx=>?_) (λhx=>?_)⟩
 .rw[L2 hx]at h2
  rw[hx,aL rfl];refine(LR h2).mono ?_;rintro _ w3 ⟨rfl,o3,h3⟩;exact .inl ⟨_,_,rfl,rfl,Mod.trans (s1.trans s2) o3 (λ_ h=>h.elim) (λ_ _ h=>h),h3⟩
 .rw[hx,aG (by decide)]
  exact⟨rfl,(s1.trans s2).only,h2⟩
def EJ(g:Nat)(w:World):Nat:=match w.cell? ⟨g,0,none⟩with
 |some (.slice _ n _)=>n
 |_=>0
def Pz.len{g:Nat}{s:Ts}(h:Pz w g s):EJ g w=s.length:=by obtain⟨a,c,hr,_⟩:=h;unfold EJ;rw[hr.aj rfl]
def D5{g:Nat}{s:Ts}(h:Pz w g s):aq BQ #[.pointer (some ⟨g,0,none⟩)] w (λe w'=>e=.returned (.tuple #[])/\dz g w w'/\Pz w' g (jK s)):=by
 apply akq;refine⟨λw1=>∃s1,Pz w1 g s1/\jK s1=jK s/\dz g w w1,EJ g,⟨s,h,rfl,Mod.refl _ _⟩,?_⟩;rintro _ w1 ⟨s1,h1,e1,o1⟩;refine(wO h1 2 (t:=[10]) (by decide)).mono ?_;rintro _ w2 ⟨rfl,o2,h2⟩;refine .inl ⟨_,rfl,aA (λhx=>?_) (λhx=>?_)⟩
 .rw[hx,aL rfl]at h2
  have hl:=T8 hx;refine⟨⟨_,h2,?_,Mod.trans o1 o2 (λ_ h=>h) (λ_ _ h=>h)⟩,by rw[h2.len,h1.len];omega⟩;rw[<-e1,L2 hx];simp only[jK,List.tail_cons];rw[aL (show((2,[10]):Nat×ag)=U3 from rfl)]
 .rw[hx,aG (by decide)]at h2
  refine⟨rfl,Mod.trans o1 o2 (λ_ h=>h) (λ_ _ h=>h),?_⟩;have:jK s1=s1:=by
   cases s1 with
   |nil=>rfl
   |cons x r=>simp only[jK];rw[aG];intro e;rw[e]at hx;exact absurd hx (by unfold aHA;simp[U3])
  rw[<-e1,this];exact h2
def Z4:aq KJ #[] w (λe w'=>∃q,e=.returned (.slice q 8 8)/\de w' q 8 CJ/\Still w w'):=by apply al2;exact aQ λw1 r1 s1 z1=>⟨_,rfl,de.row (l:=CJ) r1,s1⟩
def SY{g:Nat}{s:Ts}(h:Pz w g s):aq Qo #[.pointer (some ⟨g,0,none⟩)] w (λe w'=>e=.returned (.bool (CK s))/\Still w w'):=by
 apply akR;obtain⟨a,c,hr,_⟩:=id h;refine⟨_,_,_,hr.aj rfl,aA (λhx=>?_) (λhx=>?_)⟩
 .have:s=[]:=pU (by have:=aR hx;omega)
  subst this;exact⟨rfl,Still.refl _⟩
 have hx:s≠[]:=by rintro rfl;exact aX hx rfl
 obtain⟨x,r,rfl⟩:=aJj hx;refine aQ λw1 r1 s1 z1=>(AB (h.still s1) 1 (de.row (l:=[Im,HX]) r1) (by decide)).mono ?_;rintro _ w2 ⟨rfl,s2⟩;have e1:xY 1 [Im,HX] (x::r)=(decide (x.1=1)&&(decide (x.2=Im)||decide (x.2=HX))):=by
  unfold xY;simp only[PN,QU,ud,F9,DS];have hb:∀a b:ag,(a==b)=decide (a=b):=λa b=>by rw[sZ,B8,F2]
  rw[hb,hb]
 have e2:CK (x::r)=((decide (x.1=1)&&(decide (x.2=Im)||decide (x.2=HX)))||(decide (x.1=0)&&CJ.contains x.2)):=rfl;rw[e2,<-e1];refine .inl ⟨_,rfl,aA (λhb=>?_) (λhb=>?_)⟩
 .rw[hb]
  exact⟨rfl,s1.trans s2⟩
 .rw[hb,yh]
  refine Z4.mono ?_;rintro _ w3 ⟨q,rfl,hq,s3⟩;refine .inl ⟨_,_,_,rfl,(AB (((h.still s1).still s2).still s3) 0 hq (by decide)).mono ?_⟩;rintro _ w4 ⟨rfl,s4⟩;exact .inl ⟨_,rfl,rfl,((s1.trans s2).trans s3).trans s4⟩
def aok{g:Nat}{s:Ts}(h:Pz w g s):aq J9 #[.pointer (some ⟨g,0,none⟩)] w (λe w'=>e=.returned (.bool (u9 s))/\Still w w'):=by apply ajX;refine aQ λw1 r1 s1 z1=>(AB (h.still s1) 1 (de.row (l:=[afY,afZ,afh]) r1) (by decide)).mono ?_;rintro _ w2 ⟨rfl,s2⟩;refine .inl ⟨_,rfl,?_,s1.trans s2⟩;rw[TC (by decide),TC (by decide),Ek (by decide)];unfold u9;rw[Rl]
end Go.Proofs.YtihaaoehhgmphaaGreatDoor.L
namespace Go.Proofs.YtihaaoehhgmphaaGreatDoor.L
open IntKind Go.RowKit Vc
variable{w:World}{α β:Type}
def cA.aHm(e:cA α)(w:World)(B:Nat)(t:TypeId)(X:Nat->Prop)(gn:Nat)(l:List α)(v:Value):Prop:=∃p c xs,v=.slice p l.length c/\aS w B t e.sz v l.length xs/\(∀k,v.ownBlock=some k->X k/\k≠gn)/\e.Cs w (λk=>B<=k/\k<w.heap.size/\¬X k) l xs
def cA.aHm.nil(e:cA α)(w:World)(B:Nat)(t:TypeId)(X:Nat->Prop)(gn:Nat):e.aHm w B t X gn [] (.slice none 0 0):=⟨none,0,[],rfl,aS.nil _ _ _ _,λk hk=>(by cases hk),rfl⟩
section
variable{e:cA α}{B gn:Nat}{t:TypeId}{X X':Nat->Prop}{l:List α}{v:Value}
def cA.aHm.form(h:e.aHm w B t X gn l v):∃p c,v=.slice p l.length c:=by obtain⟨p,c,_,he,_⟩:=h;exact⟨p,c,he⟩
def cA.aHm.at(h:e.aHm w B t X gn l v):e.At w (λk=>B<=k/\k<w.heap.size) l v:=by obtain⟨p,c,xs,rfl,ho,_,hc⟩:=h;obtain⟨p',c',he,hle⟩:=ho.cap;injection he with _ _ e3;subst e3;refine⟨p,c,rfl,hle,λhl=>?_⟩;have hn:0<l.length:=mK.2 hl;obtain⟨g,cap,he,hB,hg,_,hcell⟩:=ho.Ax hn;injection he with e1 e2 e3;subst e1;refine⟨_,xs,rfl,⟨hB,hg⟩,hc.dN (λk hk=>⟨hk.1,hk.2.1⟩) (λ_ _ _ h=>h),λj u hu=>?_⟩;rw[aHa,cQ];exact hcell j u hu
def cA.aHm.mod{S:Nat->Prop}{w':World}(h:e.aHm w B t X gn l v)(hm:Mod S w w')(hS:∀k,B<=k->k<w.heap.size->S k->X k/\v.ownBlock≠some k)(hX:∀k,X k->X' k)(hX':∀k,X' k->X k\/w.heap.size<=k):e.aHm w' B t X' gn l v:=by
 obtain⟨p,c,xs,rfl,ho,hg,hc⟩:=h;refine⟨p,c,xs,rfl,ho.mod hm λk hk hs=>(hS k (ho.lt k hk).1 (ho.lt k hk).2 hs).2 hk,λk hk=>⟨hX k (hg k hk).1,(hg k hk).2⟩,hc.dN (λk hk=>⟨hk.1,aH2 hk.2.1 hm.size,λhx=>?_⟩) λa v ⟨k,hk,ea⟩ hcell=>wT hm (by rw[ea];exact λhs=>hk.2.2 (hS k hk.1 hk.2.1 hs).1) hcell⟩;rcases hX' k hx with hx|hx
 .exact hk.2.2 hx
 .omega
def cA.aHm.push{bytes:Nat}{p:Option Addr}{n c:Nat}{x:α}{cs:List Value}{K:Option Addr->Nat->World->Prop}{Sw:World->Prop}(ho:e.aHm w B t X gn l (.slice p n c))(hB:B<=w.heap.size)(hXs:∀k,X k->k<w.heap.size)(kH:gn<w.heap.size)
  (hS:∀w1,Still w w1->Sw w1)(hx:e.E w (λk=>B<=k/\k<w.heap.size/\¬X k) x cs)(hs:n+1<=9223372036854775807)(hb:(n+1)*bytes<=140737488355328)
  (h:∀p' c' w',e.aHm w' B t (λk=>X k\/(Value.slice p' (n+1) c').ownBlock=some k) gn (l++[x]) (.slice p' (n+1) c')->Mod (λk=>(Value.slice p n c).ownBlock=some k) w w'->(∀k,(Value.slice p' (n+1) c').ownBlock=some k->X k\/w.heap.size<=k)->(∀k,(Value.slice p' (n+1) c').ownBlock=some k->k<w'.heap.size)->K p' c' w'):
  c7 (w.alloc (.cells ⟨cs⟩ t)) (λw2=>Sw w2/\dL w2 t e.sz bytes p n c (some (Addr.mk w.heap.size 0 none)) 1 K):=by
 obtain⟨p0,c0,xs,he,ho,hg,hc⟩:=ho;injection he with e1 e2 e3;subst e1 e2 e3;have hl:=e.len hx;refine aQ λw1 hr hst hz=>⟨hS w1 hst,?_⟩;refine rM (ho.still hst) (by omega) cs (by omega) (e.one hx) (λ_=>⟨_,rfl,λj u hu=>?_⟩) hs hb λp' c' w' ho' hm hk=>?_
 .rw[aHa,cQ]
  exact hr.dy (by simpa using hu)
 have hz':=hm.size;have hown:∀k,(Value.slice p' (l.length+1) c').ownBlock=some k->(X k/\k≠gn)\/w.heap.size+1=k:=by
  intro k hk';rcases hk.own (n:=l.length)with hk|hk
  .exact .inl (hg k (hk.symm.trans hk'))
  .rw[hk']at hk
   have:=bU hk;exact .inr (by omega)
 refine h p' c' w' ⟨p',c',xs++cs,by rw[cB];rfl,by rw[cB];exact ho',λk hk'=>⟨.inr hk',?_⟩,?_⟩ (Mod.trans hst hm (λ_ h=>h.elim) (λ_ _ h=>h)) (λk hk'=>?_) λk hk'=>(ho'.lt k hk').2
 .rcases hown k hk' with h|h
  .exact h.2
  .omega
 .refine(hc.append (cA.Cs.single hx)).dN (λk hk=>⟨hk.1,by omega,λhx=>?_⟩) λa v ⟨k,hk,ea⟩ hcell=>wT hm (by rw[ea];exact λh=>hk.2.2 (hg k h).1) (hst.cell hcell)
  rcases hx with hx|hx
  .exact hk.2.2 hx
  .rcases hown k hx with h|h
   .exact hk.2.2 h.1
   .omega
 .rcases hown k hk' with h|h
  .exact .inl h.1
  .exact .inr (by omega)
def cA.aHm.row{g:Nat}{xs:List Value}(hr:Row w g t ⟨xs⟩)(hB:B<=g)(hg:g≠gn)(hX:X g)(hm:l.length<=1000000)(hc:e.Cs w (λk=>B<=k/\k<w.heap.size/\¬X k) l xs):e.aHm w B t X gn l (.slice (some ⟨g,0,none⟩) l.length l.length):=by
 have hl:=hc.len;refine⟨_,_,xs,rfl,⟨hl,.inr ⟨g,l.length,⟨xs⟩,rfl,hB,hr,aV _,kJ hm (by decide),hl,?_⟩⟩,λk hk=>?_,hc⟩
 .rw[<-hl]
  exact oD
 .obtain rfl:=bU hk
  exact⟨hX,hg⟩
end
def cA.aHm.apart{e:cA α}{f:cA β}{B gn:Nat}{t u:TypeId}{X:Nat->Prop}{l:List α}{m:List β}{v v':Value}(h:e.aHm w B t X gn l v)(h':f.aHm w B u X gn m v')(hne:t≠u){k:Nat}(hk:v.ownBlock=some k):v'.ownBlock≠some k:=by obtain⟨_,_,_,_,ho,_⟩:=h;obtain⟨_,_,_,_,ho',_⟩:=h';exact ho.apart ho' hne hk
structure NB(w0 w:World)(g gn B:Nat)(X:Nat->Prop)(x:Nd)(vw va vr vo vk:Value):Prop where
 row:Row w gn 66 ⟨aHJ x vw va vr vo vk⟩
 only:dz g w0 w
 hg:g<w0.heap.size
 hB:w0.heap.size<=B
 kH:B<=gn
 xs:∀k,X k->k<w.heap.size/\B<=k
 xg:X gn
 ow:aJx.aHm w B 49 X gn x.ws vw
 oa:aHO.aHm w B 208 X gn x.gA va
 ord:aHO.aHm w B 138 X gn x.rs vr
 oo:Fb.aHm w B 9 X gn x.os vo
 ok:vR.aHm w B 66 X gn x.ks vk
section
variable{w0 w1 w':World}{g gn B:Nat}{X:Nat->Prop}{x:Nd}{vw va vr vo vk:Value}
def NB.mod{S:Nat->Prop}(h:NB w0 w g gn B X x vw va vr vo vk)(hm:Mod S w w')(hS:∀k,S k->k=g\/w.heap.size<=k):NB w0 w' g gn B X x vw va vr vo vk:=by
 have hz:=hm.size;have key:∀k,B<=k->k<w.heap.size->S k->False:=λk h1 h2 h3=>by have:=h.hg;have:=h.hB;rcases hS k h3 with h4|h4<;>omega
 have n1:¬S gn:=λhs=>key gn h.kH (h.xs _ h.xg).1 hs;refine⟨h.row.mod hm n1,Mod.trans h.only hm (λ_ h=>h) (λi hi hs=>?_),h.hg,h.hB,h.kH,λk hk=>⟨aH2 (h.xs k hk).1 hz,(h.xs k hk).2⟩,h.xg,?_,?_,?_,?_,?_⟩
 .have:=h.only.size
  rcases hS _ hs with h4|h4<;>omega
 .exact h.ow.mod hm (λk h1 h2 h3=>(key k h1 h2 h3).elim) (λ_ h=>h) (λ_ h=>.inl h)
 .exact h.oa.mod hm (λk h1 h2 h3=>(key k h1 h2 h3).elim) (λ_ h=>h) (λ_ h=>.inl h)
 .exact h.ord.mod hm (λk h1 h2 h3=>(key k h1 h2 h3).elim) (λ_ h=>h) (λ_ h=>.inl h)
 .exact h.oo.mod hm (λk h1 h2 h3=>(key k h1 h2 h3).elim) (λ_ h=>h) (λ_ h=>.inl h)
 .exact h.ok.mod hm (λk h1 h2 h3=>(key k h1 h2 h3).elim) (λ_ h=>h) (λ_ h=>.inl h)
def NB.on(h:NB w0 w g gn B X x vw va vr vo vk)(hm:dz g w w'):NB w0 w' g gn B X x vw va vr vo vk:=h.mod hm λ_ h=>.inl h
def NB.still(h:NB w0 w g gn B X x vw va vr vo vk)(hm:Still w w'):NB w0 w' g gn B X x vw va vr vo vk:=h.mod hm λ_ h=>h.elim
def NB.put(h:NB w0 w g gn B X x vw va vr vo vk)(hm:Mod (λk=>k=gn) w w'){y:Nd}{uw ua ur uo uk:Value}(hr:Row w' gn 66 ⟨aHJ y uw ua ur uo uk⟩)(hw:aJx.aHm w' B 49 X gn y.ws uw\/y.ws=x.ws/\uw=vw)(ha:y.gA=x.gA/\ua=va)(hrr:y.rs=x.rs/\ur=vr)(ho:Fb.aHm w' B 9 X gn y.os uo\/y.os=x.os/\uo=vo)(hk:vR.aHm w' B 66 X gn y.ks uk\/y.ks=x.ks/\uk=vk):NB w0 w' g gn B X y uw ua ur uo uk:=by
 have hz:=hm.size;have own:∀{v:Value},(∀k,v.ownBlock=some k->X k/\k≠gn)->v.ownBlock≠some gn:=λhv he=>(hv gn he).2 rfl;refine⟨hr,Mod.trans h.only hm (λ_ h=>h) (λi hi e=>?_),h.hg,h.hB,h.kH,λk hk=>⟨aH2 (h.xs k hk).1 hz,(h.xs k hk).2⟩,h.xg,?_,?_,?_,?_,?_⟩
 .have:=h.kH
  have:=h.hB;omega
 .rcases hw with hw|hw
  .exact hw
  rw[hw.1,hw.2];obtain⟨_,_,_,_,_,hg,_⟩:=id h.ow;exact h.ow.mod hm (λk _ _ e=>by subst e;exact⟨h.xg,own hg⟩) (λ_ h=>h) (λ_ h=>.inl h)
 .rw[ha.1,ha.2]
  obtain⟨_,_,_,_,_,hg,_⟩:=id h.oa;exact h.oa.mod hm (λk _ _ e=>by subst e;exact⟨h.xg,own hg⟩) (λ_ h=>h) (λ_ h=>.inl h)
 .rw[hrr.1,hrr.2]
  obtain⟨_,_,_,_,_,hg,_⟩:=id h.ord;exact h.ord.mod hm (λk _ _ e=>by subst e;exact⟨h.xg,own hg⟩) (λ_ h=>h) (λ_ h=>.inl h)
 .rcases ho with ho|ho
  .exact ho
  rw[ho.1,ho.2];obtain⟨_,_,_,_,_,hg,_⟩:=id h.oo;exact h.oo.mod hm (λk _ _ e=>by subst e;exact⟨h.xg,own hg⟩) (λ_ h=>h) (λ_ h=>.inl h)
 .rcases hk with hk|hk
  .exact hk
  rw[hk.1,hk.2];obtain⟨_,_,_,_,_,hg,_⟩:=id h.ok;exact h.ok.mod hm (λk _ _ e=>by subst e;exact⟨h.xg,own hg⟩) (λ_ h=>h) (λ_ h=>.inl h)
def NB.grow{Y:Nat->Prop}(h:NB w0 w g gn B X x vw va vr vo vk)(hY:∀k,Y k->X k\/(k<w.heap.size/\B<=k))(hX:∀k,X k->Y k)(hc:∀k,Y k->¬X k->False):NB w0 w g gn B Y x vw va vr vo vk:=by have e:X=Y:=funext λk=>propext ⟨hX k,λhy=>Classical.byContradiction λhn=>hc k hy hn⟩;rw[<-e];exact h
def NB.nde(h:NB w0 w g gn B X x vw va vr vo vk):ey w (λk=>B<=k/\k<w.heap.size) x (aHJ x vw va vr vo vk):=
 ey.of h.ow.at h.oa.at h.ord.at h.oo.at h.ok.at
def NB.Xo{x:Nd}(hr:Row w gn 66 ⟨aHJ x (.slice none 0 0) (.slice none 0 0) (.slice none 0 0) (.slice none 0 0) (.slice none 0 0)⟩)(ho:dz g w0 w)(hg:g<w0.heap.size)(hB:w0.heap.size<=B)(kH:B<=gn)(hx:x.ws=[]/\x.gA=[]/\x.rs=[]/\x.os=[]/\x.ks=[]):
  NB w0 w g gn B (λk=>k=gn) x (.slice none 0 0) (.slice none 0 0) (.slice none 0 0) (.slice none 0 0) (.slice none 0 0):=by
 obtain⟨h1,h2,h3,h4,h5⟩:=hx;refine⟨hr,ho,hg,hB,kH,λk hk=>by subst hk;exact⟨hr.lt,kH⟩,rfl,?_,?_,?_,?_,?_⟩
 .rw[h1];exact cA.aHm.nil _ _ _ _ _ _
 .rw[h2];exact cA.aHm.nil _ _ _ _ _ _
 .rw[h3];exact cA.aHm.nil _ _ _ _ _ _
 .rw[h4];exact cA.aHm.nil _ _ _ _ _ _
 .rw[h5];exact cA.aHm.nil _ _ _ _ _ _
def NB.mkK{x y:Nd}{b:Nat}{cs:List Value}(hr:Row w gn 66 ⟨aHJ x (.slice none 0 0) (.slice none 0 0) (.slice none 0 0) (.slice none 0 0) (.slice (some ⟨b,0,none⟩) 1 1)⟩)(hb:Row w b 66 ⟨cs⟩)(hc:ey w (λk=>B<=k/\k<w.heap.size/\k≠gn/\k≠b) y cs)(ho:dz g w0 w)(hg:g<w0.heap.size)(hB:w0.heap.size<=B)(kH:B<=gn)(hbB:B<=b)(hne:b≠gn)(hx:x.ws=[]/\x.gA=[]/\x.rs=[]/\x.os=[]/\x.ks=[y]):
  NB w0 w g gn B (λk=>k=gn\/k=b) x (.slice none 0 0) (.slice none 0 0) (.slice none 0 0) (.slice none 0 0) (.slice (some ⟨b,0,none⟩) 1 1):=by
 obtain⟨h1,h2,h3,h4,h5⟩:=hx;refine⟨hr,ho,hg,hB,kH,λk hk=>?_,.inl rfl,?_,?_,?_,?_,?_⟩
 .rcases hk with rfl|rfl
  .exact⟨hr.lt,kH⟩
  .exact⟨hb.lt,hbB⟩
 .rw[h1];exact cA.aHm.nil _ _ _ _ _ _
 .rw[h2];exact cA.aHm.nil _ _ _ _ _ _
 .rw[h3];exact cA.aHm.nil _ _ _ _ _ _
 .rw[h4];exact cA.aHm.nil _ _ _ _ _ _
 .rw[h5]
  exact cA.aHm.row (l:=[y]) hb hbB hne (.inr rfl) (show 1<=1000000 by decide) (cA.Cs.single (hc.mono λk hk=>⟨hk.1,hk.2.1,λh=>h.elim hk.2.2.1 hk.2.2.2⟩))
end
abbrev qd:List Value:=aHJ (.mk 0 false [] [] [] [] [] []) (.slice none 0 0) (.slice none 0 0) (.slice none 0 0) (.slice none 0 0) (.slice none 0 0)
def agh(gn gr:Nat)(w:World)(R:Ending->World->Prop):Prop:=
 ∃cH:Int,∃fK:Bool,∃cC:List UInt8,∃(aHx:Option Addr) (fA fB:Nat),∃(aHv:Option Addr) (aHt aHu:Nat),∃(aHw:Option Addr) (fu fy:Nat),∃(aHy:Option Addr) (fG fH:Nat),∃(fI:Option Addr) (fE fF:Nat),w.cell? (Addr.mk gn 0 none)=some (.int .i64 cH)/\w.cell? (Addr.mk gn 1 none)=some (.bool fK)/\w.cell? (Addr.mk gn 2 none)=some (.string (S cC))/\w.cell? (Addr.mk gn 3 none)=some (.slice aHx fA fB)/\w.cell? (Addr.mk gn 4 none)=some (.slice aHv aHt aHu)/\w.cell? (Addr.mk gn 5 none)=some (.slice aHw fu fy)/\w.cell? (Addr.mk gn 6 none)=some (.slice aHy fG fH)/\w.cell? (Addr.mk gn 7 none)=some (.slice fI fE fF)/\cJ (Addr.mk gr 0 none) (λ(w7:World)=>∃eY:Int,∃kA:Bool,∃eA:List UInt8,∃(j9:Option Addr) (j6 j7:Nat),∃(j0:Option Addr) (jY jZ:Nat),∃(j8:Option Addr) (aHF j4:Nat),∃(kB:Option Addr) (kj ko:Nat),∃(kr:Option Addr) (j_ ke:Nat),w7.cell? (Addr.mk gr 0 none)=some (.int .i64 eY)/\w7.cell? (Addr.mk gr 1 none)=some (.bool kA)/\w7.cell? (Addr.mk gr 2 none)=some (.string (S eA))/\w7.cell? (Addr.mk gr 3 none)=some (.slice j9 j6 j7)/\w7.cell? (Addr.mk gr 4 none)=some (.slice j0 jY jZ)/\w7.cell? (Addr.mk gr 5 none)=some (.slice j8 aHF j4)/\w7.cell? (Addr.mk gr 6 none)=some (.slice kB kj ko)/\w7.cell? (Addr.mk gr 7 none)=some (.slice kr j_ ke)/\R (.returned (.agg #[(.int .i64 eY),(.bool kA),(.string (S eA)),(.slice j9 j6 j7),(.slice j0 jY jZ),(.slice j8 aHF j4),(.slice kB kj ko),(.slice kr j_ ke)])) w7) 0 [(.int .i64 cH),(.bool fK),(.string (S cC)),(.slice aHx fA fB),(.slice aHv aHt aHu),(.slice aHw fu fy),(.slice aHy fG fH),(.slice fI fE fF)] w
def SG{w0:World}{g gn B:Nat}{X:Nat->Prop}{x:Nd}{vw va vr vo vk:Value}{R:Ending->World->Prop}(h:NB w0 w g gn B X x vw va vr vo vk)(hres:Row w w0.heap.size 66 ⟨qd⟩)(hB:w0.heap.size<B)
  (hR:∀w' cs,Mod (λk=>k=w0.heap.size) w w'->dz g w0 w'->ey w' (λk=>w0.heap.size<=k/\k<w'.heap.size) x cs->R (.returned (.agg ⟨cs⟩)) w'):agh gn w0.heap.size w R:=by
 have hn:=h.nde;obtain⟨pw,cw,rfl⟩:=h.ow.form;obtain⟨pa,ca,rfl⟩:=h.oa.form;obtain⟨pr,cr,rfl⟩:=h.ord.form;obtain⟨po,co,rfl⟩:=h.oo.form;obtain⟨pk,ck,rfl⟩:=h.ok.form;have hr:=h.row;refine⟨_,_,_,_,_,_,_,_,_,_,_,_,_,_,_,_,_,_,hr.aj rfl,hr.aj rfl,hr.aj rfl,hr.aj rfl,hr.aj rfl,hr.aj rfl,hr.aj rfl,hr.aj rfl,aHb hres λw' r' m' z'=>?_⟩;refine⟨_,_,_,_,_,_,_,_,_,_,_,_,_,_,_,_,_,_,r'.aj rfl,r'.aj rfl,r'.aj rfl,r'.aj rfl,r'.aj rfl,r'.aj rfl,r'.aj rfl,r'.aj rfl,hR w' _ m' (Mod.trans h.only m' (λ_ h=>h) (λi hi e=>by omega)) ?_⟩;exact(hn.mod m' λk hk e=>by omega).mono λk hk=>⟨by omega,by omega⟩
def aro{w0:World}{g:Nat}{X:Nat->Prop}{x:Nd}{vw va vr vo vk:Value}{R:Ending->World->Prop}(h:NB w0 w g w0.heap.size w0.heap.size X x vw va vr vo vk)
  (hR:∀w' cs,Mod (λk=>k=w0.heap.size) w w'->dz g w0 w'->ey w' (λk=>w0.heap.size<=k/\k<w'.heap.size) x cs->R (.returned (.agg ⟨cs⟩)) w'):agh w0.heap.size w0.heap.size w R:=by
 have hr:=h.row;obtain⟨pw,cw,rfl⟩:=h.ow.form;obtain⟨pa,ca,rfl⟩:=h.oa.form;obtain⟨pr,cr,rfl⟩:=h.ord.form;obtain⟨po,co,rfl⟩:=h.oo.form;obtain⟨pk,ck,rfl⟩:=h.ok.form;refine⟨_,_,_,_,_,_,_,_,_,_,_,_,_,_,_,_,_,_,hr.aj rfl,hr.aj rfl,hr.aj rfl,hr.aj rfl,hr.aj rfl,hr.aj rfl,hr.aj rfl,hr.aj rfl,aHb hr λw' r' m' z'=>?_⟩;have h':=h.put m' r' (.inr ⟨rfl,rfl⟩) ⟨rfl,rfl⟩ ⟨rfl,rfl⟩ (.inr ⟨rfl,rfl⟩) (.inr ⟨rfl,rfl⟩);exact⟨_,_,_,_,_,_,_,_,_,_,_,_,_,_,_,_,_,_,r'.aj rfl,r'.aj rfl,r'.aj rfl,r'.aj rfl,r'.aj rfl,r'.aj rfl,r'.aj rfl,r'.aj rfl,hR w' _ m' h'.only h'.nde⟩
end Go.Proofs.YtihaaoehhgmphaaGreatDoor.L
namespace Go.Proofs.YtihaaoehhgmphaaGreatDoor.L
open IntKind Go.RowKit Vc
variable{w:World}
abbrev Nd.N4(x:Nd)(y:List Pt):Nd:=.mk x.k x.neg x.nm (x.ws++[y]) x.gA x.rs x.os x.ks
def NB.N4{w0 w1:World}{g gn B:Nat}{X:Nat->Prop}{x:Nd}{va vr vo vk:Value}{p:Option Addr}{n c:Nat}{y:List Pt}{cs:List Value}(h:NB w0 w1 g gn B X x (.slice p n c) va vr vo vk)(o:dz g w1 w)(hy:aJx.E w (λk=>w1.heap.size<=k/\k<w.heap.size) y cs)(hn:x.ws.length<1000000){K:World->Prop}
  (hK:∀p' c' w' X',NB w0 w' g gn B X' (x.N4 y) (.slice p' (n+1) c') va vr vo vk->Mod (λk=>B<=k) w w'->K w'):
  c7 (w.alloc (.cells ⟨cs⟩ 49)) (λw2=>w2.cell? (Addr.mk gn 3 none)=some (.slice p n c)/\dL w2 49 1 24 p n c (some (Addr.mk w.heap.size 0 none)) 1 (λp' c' w9=>cJ (Addr.mk gn 3 none) K 0 [.slice p' (n+1) c'] w9)):=by
 have h2:=h.on o;obtain⟨_,_,_,he,_,hg,_⟩:=id h2.ow;injection he with _ en _;have vP:=h2.row.lt;have hsz:=h.only.size;have Xp:=o.size;have kH:=h2.kH;have hB:=h2.hB;refine cA.aHm.push (Sw:=λwq=>wq.cell? (Addr.mk gn 3 none)=some (.slice p n c)) h2.ow (by omega) (λk hk=>(h2.xs k hk).1) vP (λwq hq=>(h2.row.still hq).aj rfl) (aJx.dN (λk hk=>⟨?_,hk.2,λhx=>?_⟩) (λ_ _ _ h=>h) hy) (by omega) (by omega) λp' c' w9 mz jA wg Dq=>?_
 .have:=h.row.lt
  omega
 .have:=(h.xs k hx).1
  omega
 have pQ:=h2.row.mod jA (λhk=>(hg gn hk).2 rfl);refine aHb pQ λaO eB m10 aIs=>hK p' c' aO (λk=>X k\/(Value.slice p' (n+1) c').ownBlock=some k) ?_ ?_;rotate_left
 .exact Mod.trans jA m10 (λk hk=>(h2.xs k (hg k hk).1).2) (λk _ hk=>by omega)
 have Fg:=jA.size;have VZ:=m10.size;have nk:∀{β:Type} {f:cA β} {u:TypeId} {m:List β} {v':Value},f.aHm w B u X gn m v'->(∀k,(Value.slice p n c).ownBlock=some k->v'.ownBlock≠some k)->f.aHm aO B u (λk=>X k\/(Value.slice p' (n+1) c').ownBlock=some k) gn m v':=by intro β f u m v' hf hne;obtain⟨_,_,_,_,_,qy,_⟩:=id hf;exact(hf.mod jA (λk _ _ hs=>⟨(hg k hs).1,hne k hs⟩) (λ_ h=>.inl h) (λk hk=>hk.elim .inl (λh=>wg k h))).mod m10 (λk _ _ e=>by subst e;exact⟨.inl h2.xg,λhk=>(qy _ hk).2 rfl⟩) (λ_ h=>h) (λ_ h=>.inl h)
 have yV:=mz.mod m10 (X':=λk=>X k\/(Value.slice p' (n+1) c').ownBlock=some k) (λk _ _ e=>by subst e;obtain⟨_,_,_,_,_,qy,_⟩:=id mz;exact⟨.inl h2.xg,λhk=>(qy _ hk).2 rfl⟩) (λ_ h=>h) (λ_ h=>.inl h);have Bg:∀k,(Value.slice p' (n+1) c').ownBlock=some k->B<=k:=λk hk=>by
  rcases wg k hk with hk|hk
  .exact(h2.xs k hk).2
  .omega
 refine⟨eB,Mod.trans (Mod.trans h2.only jA (λ_ h=>h) (λi hi hk=>by have:=(h2.xs _ (hg _ hk).1).2;omega)) m10 (λ_ h=>h) (λi hi e=>by omega),h2.hg,hB,kH,λk hk=>?_,.inl h2.xg,yV,nk h2.oa (λk hk=>h2.ow.apart h2.oa (by decide) hk),nk h2.ord (λk hk=>h2.ow.apart h2.ord (by decide) hk),nk h2.oo (λk hk=>h2.ow.apart h2.oo (by decide) hk),nk h2.ok (λk hk=>h2.ow.apart h2.ok (by decide) hk)⟩;rcases hk with hk|hk
 .have:=h2.xs k hk
  exact⟨by omega,this.2⟩
 .have:=Dq k hk
  exact⟨by omega,Bg k hk⟩
abbrev Nd.N5(x:Nd)(y:ag×List Pt):Nd:=.mk x.k x.neg x.nm x.ws (x.gA++[y]) x.rs x.os x.ks
def NB.N5{w0 w1:World}{g gn B:Nat}{X:Nat->Prop}{x:Nd}{vw vr vo vk:Value}{p:Option Addr}{n c:Nat}{y:ag×List Pt}{cs:List Value}(h:NB w0 w1 g gn B X x vw (.slice p n c) vr vo vk)(o:dz g w1 w)(hy:aHO.E w (λk=>w1.heap.size<=k/\k<w.heap.size) y cs)(hn:x.gA.length<1000000){K:World->Prop}
  (hK:∀p' c' w' X',NB w0 w' g gn B X' (x.N5 y) vw (.slice p' (n+1) c') vr vo vk->Mod (λk=>B<=k) w w'->K w'):
  c7 (w.alloc (.cells ⟨cs⟩ 208)) (λw2=>w2.cell? (Addr.mk gn 4 none)=some (.slice p n c)/\dL w2 208 2 40 p n c (some (Addr.mk w.heap.size 0 none)) 1 (λp' c' w9=>cJ (Addr.mk gn 4 none) K 0 [.slice p' (n+1) c'] w9)):=by
 have h2:=h.on o;obtain⟨_,_,_,he,_,hg,_⟩:=id h2.oa;injection he with _ en _;have vP:=h2.row.lt;have hsz:=h.only.size;have Xp:=o.size;have kH:=h2.kH;have hB:=h2.hB;refine cA.aHm.push (Sw:=λwq=>wq.cell? (Addr.mk gn 4 none)=some (.slice p n c)) h2.oa (by omega) (λk hk=>(h2.xs k hk).1) vP (λwq hq=>(h2.row.still hq).aj rfl) (aHO.dN (λk hk=>⟨?_,hk.2,λhx=>?_⟩) (λ_ _ _ h=>h) hy) (by omega) (by omega) λp' c' w9 mz jA wg Dq=>?_
 .have:=h.row.lt
  omega
 .have:=(h.xs k hx).1
  omega
 have pQ:=h2.row.mod jA (λhk=>(hg gn hk).2 rfl);refine aHb pQ λaO eB m10 aIs=>hK p' c' aO (λk=>X k\/(Value.slice p' (n+1) c').ownBlock=some k) ?_ ?_;rotate_left
 .exact Mod.trans jA m10 (λk hk=>(h2.xs k (hg k hk).1).2) (λk _ hk=>by omega)
 have Fg:=jA.size;have VZ:=m10.size;have nk:∀{β:Type} {f:cA β} {u:TypeId} {m:List β} {v':Value},f.aHm w B u X gn m v'->(∀k,(Value.slice p n c).ownBlock=some k->v'.ownBlock≠some k)->f.aHm aO B u (λk=>X k\/(Value.slice p' (n+1) c').ownBlock=some k) gn m v':=by intro β f u m v' hf hne;obtain⟨_,_,_,_,_,qy,_⟩:=id hf;exact(hf.mod jA (λk _ _ hs=>⟨(hg k hs).1,hne k hs⟩) (λ_ h=>.inl h) (λk hk=>hk.elim .inl (λh=>wg k h))).mod m10 (λk _ _ e=>by subst e;exact⟨.inl h2.xg,λhk=>(qy _ hk).2 rfl⟩) (λ_ h=>h) (λ_ h=>.inl h)
 have yV:=mz.mod m10 (X':=λk=>X k\/(Value.slice p' (n+1) c').ownBlock=some k) (λk _ _ e=>by subst e;obtain⟨_,_,_,_,_,qy,_⟩:=id mz;exact⟨.inl h2.xg,λhk=>(qy _ hk).2 rfl⟩) (λ_ h=>h) (λ_ h=>.inl h);have Bg:∀k,(Value.slice p' (n+1) c').ownBlock=some k->B<=k:=λk hk=>by
  rcases wg k hk with hk|hk
  .exact(h2.xs k hk).2
  .omega
 refine⟨eB,Mod.trans (Mod.trans h2.only jA (λ_ h=>h) (λi hi hk=>by have:=(h2.xs _ (hg _ hk).1).2;omega)) m10 (λ_ h=>h) (λi hi e=>by omega),h2.hg,hB,kH,λk hk=>?_,.inl h2.xg,nk h2.ow (λk hk=>h2.oa.apart h2.ow (by decide) hk),yV,nk h2.ord (λk hk=>h2.oa.apart h2.ord (by decide) hk),nk h2.oo (λk hk=>h2.oa.apart h2.oo (by decide) hk),nk h2.ok (λk hk=>h2.oa.apart h2.ok (by decide) hk)⟩;rcases hk with hk|hk
 .have:=h2.xs k hk
  exact⟨by omega,this.2⟩
 .have:=Dq k hk
  exact⟨by omega,Bg k hk⟩
def NB.ayy{w0 w1:World}{g gn B:Nat}{X:Nat->Prop}{x:Nd}{vw vr vo vk:Value}{p:Option Addr}{n c:Nat}{y:ag×List Pt}{cs:List Value}(h:NB w0 w1 g gn B X x vw (.slice p n c) vr vo vk)(o:dz g w1 w)(hy:aHO.E w (λk=>w1.heap.size<=k/\k<w.heap.size) y cs)(hn:x.gA.length<1000000){K:World->Prop}
  (hK:∀p' c' w' X',NB w0 w' g gn B X' (x.N5 y) vw (.slice p' (n+1) c') vr vo vk->Mod (λk=>B<=k) w w'->K w'):
  c7 (w.alloc (.cells ⟨cs⟩ 208)) (λw2=>dL w2 208 2 40 p n c (some (Addr.mk w.heap.size 0 none)) 1 (λp' c' w9=>cJ (Addr.mk gn 4 none) K 0 [.slice p' (n+1) c'] w9)):=by
 have h0:=h.N5 o hy hn hK;exact h0.2
abbrev Nd.aJF(x:Nd)(y:ag×List Pt):Nd:=.mk x.k x.neg x.nm x.ws x.gA (x.rs++[y]) x.os x.ks
def NB.aJF{w0 w1:World}{g gn B:Nat}{X:Nat->Prop}{x:Nd}{vw va vo vk:Value}{p:Option Addr}{n c:Nat}{y:ag×List Pt}{cs:List Value}(h:NB w0 w1 g gn B X x vw va (.slice p n c) vo vk)(o:dz g w1 w)(hy:aHO.E w (λk=>w1.heap.size<=k/\k<w.heap.size) y cs)(hn:x.rs.length<1000000){K:World->Prop}
  (hK:∀p' c' w' X',NB w0 w' g gn B X' (x.aJF y) vw va (.slice p' (n+1) c') vo vk->Mod (λk=>B<=k) w w'->K w'):
  c7 (w.alloc (.cells ⟨cs⟩ 138)) (λw2=>w2.cell? (Addr.mk gn 5 none)=some (.slice p n c)/\dL w2 138 2 40 p n c (some (Addr.mk w.heap.size 0 none)) 1 (λp' c' w9=>cJ (Addr.mk gn 5 none) K 0 [.slice p' (n+1) c'] w9)):=by
 have h2:=h.on o;obtain⟨_,_,_,he,_,hg,_⟩:=id h2.ord;injection he with _ en _;have vP:=h2.row.lt;have hsz:=h.only.size;have Xp:=o.size;have kH:=h2.kH;have hB:=h2.hB;refine cA.aHm.push (Sw:=λwq=>wq.cell? (Addr.mk gn 5 none)=some (.slice p n c)) h2.ord (by omega) (λk hk=>(h2.xs k hk).1) vP (λwq hq=>(h2.row.still hq).aj rfl) (aHO.dN (λk hk=>⟨?_,hk.2,λhx=>?_⟩) (λ_ _ _ h=>h) hy) (by omega) (by omega) λp' c' w9 mz jA wg Dq=>?_
 .have:=h.row.lt
  omega
 .have:=(h.xs k hx).1
  omega
 have pQ:=h2.row.mod jA (λhk=>(hg gn hk).2 rfl);refine aHb pQ λaO eB m10 aIs=>hK p' c' aO (λk=>X k\/(Value.slice p' (n+1) c').ownBlock=some k) ?_ ?_;rotate_left
 .exact Mod.trans jA m10 (λk hk=>(h2.xs k (hg k hk).1).2) (λk _ hk=>by omega)
 have Fg:=jA.size;have VZ:=m10.size;have nk:∀{β:Type} {f:cA β} {u:TypeId} {m:List β} {v':Value},f.aHm w B u X gn m v'->(∀k,(Value.slice p n c).ownBlock=some k->v'.ownBlock≠some k)->f.aHm aO B u (λk=>X k\/(Value.slice p' (n+1) c').ownBlock=some k) gn m v':=by intro β f u m v' hf hne;obtain⟨_,_,_,_,_,qy,_⟩:=id hf;exact(hf.mod jA (λk _ _ hs=>⟨(hg k hs).1,hne k hs⟩) (λ_ h=>.inl h) (λk hk=>hk.elim .inl (λh=>wg k h))).mod m10 (λk _ _ e=>by subst e;exact⟨.inl h2.xg,λhk=>(qy _ hk).2 rfl⟩) (λ_ h=>h) (λ_ h=>.inl h)
 have yV:=mz.mod m10 (X':=λk=>X k\/(Value.slice p' (n+1) c').ownBlock=some k) (λk _ _ e=>by subst e;obtain⟨_,_,_,_,_,qy,_⟩:=id mz;exact⟨.inl h2.xg,λhk=>(qy _ hk).2 rfl⟩) (λ_ h=>h) (λ_ h=>.inl h);have Bg:∀k,(Value.slice p' (n+1) c').ownBlock=some k->B<=k:=λk hk=>by
  rcases wg k hk with hk|hk
  .exact(h2.xs k hk).2
  .omega
 refine⟨eB,Mod.trans (Mod.trans h2.only jA (λ_ h=>h) (λi hi hk=>by have:=(h2.xs _ (hg _ hk).1).2;omega)) m10 (λ_ h=>h) (λi hi e=>by omega),h2.hg,hB,kH,λk hk=>?_,.inl h2.xg,nk h2.ow (λk hk=>h2.ord.apart h2.ow (by decide) hk),nk h2.oa (λk hk=>h2.ord.apart h2.oa (by decide) hk),yV,nk h2.oo (λk hk=>h2.ord.apart h2.oo (by decide) hk),nk h2.ok (λk hk=>h2.ord.apart h2.ok (by decide) hk)⟩;rcases hk with hk|hk
 .have:=h2.xs k hk
  exact⟨by omega,this.2⟩
 .have:=Dq k hk
  exact⟨by omega,Bg k hk⟩
abbrev Nd.N6(x:Nd)(y:Nd):Nd:=.mk x.k x.neg x.nm x.ws x.gA x.rs x.os (x.ks++[y])
def NB.N6{w0 w1:World}{g gn B:Nat}{X:Nat->Prop}{x:Nd}{vw va vr vo:Value}{p:Option Addr}{n c:Nat}{y:Nd}{cs:List Value}(h:NB w0 w1 g gn B X x vw va vr vo (.slice p n c))(o:dz g w1 w)(hy:vR.E w (λk=>w1.heap.size<=k/\k<w.heap.size) y cs)(hn:x.ks.length<1000000){K:World->Prop}
  (hK:∀p' c' w' X',NB w0 w' g gn B X' (x.N6 y) vw va vr vo (.slice p' (n+1) c')->Mod (λk=>B<=k) w w'->K w'):
  c7 (w.alloc (.cells ⟨cs⟩ 66)) (λw2=>w2.cell? (Addr.mk gn 7 none)=some (.slice p n c)/\dL w2 66 8 152 p n c (some (Addr.mk w.heap.size 0 none)) 1 (λp' c' w9=>cJ (Addr.mk gn 7 none) K 0 [.slice p' (n+1) c'] w9)):=by
 have h2:=h.on o;obtain⟨_,_,_,he,_,hg,_⟩:=id h2.ok;injection he with _ en _;have vP:=h2.row.lt;have hsz:=h.only.size;have Xp:=o.size;have kH:=h2.kH;have hB:=h2.hB;refine cA.aHm.push (Sw:=λwq=>wq.cell? (Addr.mk gn 7 none)=some (.slice p n c)) h2.ok (by omega) (λk hk=>(h2.xs k hk).1) vP (λwq hq=>(h2.row.still hq).aj rfl) (vR.dN (λk hk=>⟨?_,hk.2,λhx=>?_⟩) (λ_ _ _ h=>h) hy) (by omega) (by omega) λp' c' w9 mz jA wg Dq=>?_
 .have:=h.row.lt
  omega
 .have:=(h.xs k hx).1
  omega
 have pQ:=h2.row.mod jA (λhk=>(hg gn hk).2 rfl);refine aHb pQ λaO eB m10 aIs=>hK p' c' aO (λk=>X k\/(Value.slice p' (n+1) c').ownBlock=some k) ?_ ?_;rotate_left
 .exact Mod.trans jA m10 (λk hk=>(h2.xs k (hg k hk).1).2) (λk _ hk=>by omega)
 have Fg:=jA.size;have VZ:=m10.size;have nk:∀{β:Type} {f:cA β} {u:TypeId} {m:List β} {v':Value},f.aHm w B u X gn m v'->(∀k,(Value.slice p n c).ownBlock=some k->v'.ownBlock≠some k)->f.aHm aO B u (λk=>X k\/(Value.slice p' (n+1) c').ownBlock=some k) gn m v':=by intro β f u m v' hf hne;obtain⟨_,_,_,_,_,qy,_⟩:=id hf;exact(hf.mod jA (λk _ _ hs=>⟨(hg k hs).1,hne k hs⟩) (λ_ h=>.inl h) (λk hk=>hk.elim .inl (λh=>wg k h))).mod m10 (λk _ _ e=>by subst e;exact⟨.inl h2.xg,λhk=>(qy _ hk).2 rfl⟩) (λ_ h=>h) (λ_ h=>.inl h)
 have yV:=mz.mod m10 (X':=λk=>X k\/(Value.slice p' (n+1) c').ownBlock=some k) (λk _ _ e=>by subst e;obtain⟨_,_,_,_,_,qy,_⟩:=id mz;exact⟨.inl h2.xg,λhk=>(qy _ hk).2 rfl⟩) (λ_ h=>h) (λ_ h=>.inl h);have Bg:∀k,(Value.slice p' (n+1) c').ownBlock=some k->B<=k:=λk hk=>by
  rcases wg k hk with hk|hk
  .exact(h2.xs k hk).2
  .omega
 refine⟨eB,Mod.trans (Mod.trans h2.only jA (λ_ h=>h) (λi hi hk=>by have:=(h2.xs _ (hg _ hk).1).2;omega)) m10 (λ_ h=>h) (λi hi e=>by omega),h2.hg,hB,kH,λk hk=>?_,.inl h2.xg,nk h2.ow (λk hk=>h2.ok.apart h2.ow (by decide) hk),nk h2.oa (λk hk=>h2.ok.apart h2.oa (by decide) hk),nk h2.ord (λk hk=>h2.ok.apart h2.ord (by decide) hk),nk h2.oo (λk hk=>h2.ok.apart h2.oo (by decide) hk),yV⟩;rcases hk with hk|hk
 .have:=h2.xs k hk
  exact⟨by omega,this.2⟩
 .have:=Dq k hk
  exact⟨by omega,Bg k hk⟩
end Go.Proofs.YtihaaoehhgmphaaGreatDoor.L
namespace Go.Proofs.YtihaaoehhgmphaaGreatDoor.L
open IntKind Go.RowKit Vc
def axK(w:World):(Instr.typeAssert .nilIface 20 28 true).run aM w=.ok (.tuple #[.int .i64 0,.bool false]) w:=by kernel_rfl
def axL(w:World)(n:Int):(Instr.typeAssert (.iface 28 (.int .i64 n)) 20 28 true).run aM w=.ok (.tuple #[.int .i64 n,.bool true]) w:=by kernel_rfl
set_option maxRecDepth 4000 in
def arp(p:Addr)(w:World):
  CallsD aM 521 #[.pointer (some p)] .returning w λe u' w'=>e=.returned (.tuple #[])/\u'=.returning/\w'=w:=by
 refine callsD_of_wpS Tryz.func521 rfl λc₀ cs hu=>?_;apply wpS_seq;apply wpS_region;simp[wpOpsS,go_sem,recoverD,hu,Tryz.ntmps521,Exit.thenS];apply wpS_seq;apply wpS_region;simp[wpOpsS,go_sem,Tryz.ntmps521,Exit.thenS,axK];apply wpS_seq;apply wpS_region;simp[wpOpsS,go_sem,Tryz.ntmps521,Exit.thenS];refine wpS_cond (t:=false) (by simp[Act.eval,Array.replicate]) ?_;simp only[kV,iV];refine wpS_of_wp (wp_skip ?_);cases c₀;simp_all [bodyPostS,results,Tryz.results521]
set_option maxRecDepth 4000 in
def api(p:Addr)(n:Int)(w:World)(hp:Wr w p):
  CallsD aM 521 #[.pointer (some p)] (.panicking [{v:=.iface 28 (.int .i64 n),recovered:=false}]) w λe u' w'=>e=.returned (.tuple #[])/\settle u'=.returning/\w'=w.setCell p (.int .i64 0):=by
 refine callsD_of_wpS Tryz.func521 rfl λc₀ cs hu=>?_;apply wpS_seq;apply wpS_region;simp[wpOpsS,go_sem,recoverD,hu,Tryz.ntmps521,Exit.thenS];apply wpS_seq;apply wpS_region;simp[wpOpsS,go_sem,Tryz.ntmps521,Exit.thenS,axL];apply wpS_seq;apply wpS_region;simp[wpOpsS,go_sem,Tryz.ntmps521,Exit.thenS];refine wpS_cond (t:=true) (by simp[Act.eval,Array.replicate]) ?_;simp only[nu];obtain⟨h1,h2⟩:=hp;obtain⟨v0,hc⟩:=Option.isSome_iff_exists.1 h1;apply wpS_region;simp[wpOpsS,go_sem,Tryz.ntmps521,Exit.thenS,hc,h2];cases c₀;simp_all [bodyPostS,results,Tryz.results521,settle]
def jM(s:ag):Nat:=match fU 30 s with
 |some t=>s.length-t.length
 |none=>0
def LS{s t:ag}(h:fU 30 s=some t):jM s=s.length-t.length/\0<jM s/\jM s<=s.length:=by have:=wJ 30 _ _ h;unfold jM;rw[h];dsimp only;omega
def acD{w:World}(s:ag)(hl:s.length<1000000):aq Lg #[.string (S s)] w (λe w'=>e=.returned (.int .i64 (jM s:Int))/\Still w w'):=by
 apply anv;refine aQ λw1 r1 s1 z1=>aQ λw2 r2 s2 z2=>?_;have Fh:=r1.still s2;have dP:=s1.trans s2;refine(j5 _).mono ?_;rintro _ w3 ⟨rfl,rfl⟩;have bad:∀{w4:World},Row w4 w.heap.size 3 ⟨[.int .i64 0]⟩->Still w w4->fU 30 s=none->
   CallsD aM KZ #[.pointer (some ⟨w.heap.size,0,none⟩)] (.panicking HY) w4 (λed u w7=>(∃rv,ed=.returned rv)/\settle u=.returning/\∃v2:Int,w7.cell? ⟨w.heap.size,0,none⟩=some (.int .i64 v2)/\(Ending.returned (.int .i64 v2)=.returned (.int .i64 (jM s:Int))/\Still w w7)):=by
  intro w4 r4 s4 hn;refine(api ⟨w.heap.size,0,none⟩ 80 w4 (r4.wr 0 (by simp))).mono ?_;rintro e u w7 ⟨rfl,hu,rfl⟩;refine⟨⟨_,rfl⟩,hu,0,(r4.fW 0 (.int .i64 0)).aj rfl,?_,s4.box (aV _) ((Mod.refl (λi=>i=w.heap.size) w4).setCell (p:=⟨w.heap.size,0,none⟩) (.inl rfl) _)⟩;unfold jM;rw[hn];rfl
 by_cases hs:s=[]
 .subst hs
  rw[aG (by decide)];exact .inr ⟨_,rfl,bad Fh dP rfl⟩
 rw[aL (by simpa using hs)];refine .inl ⟨rfl,(acA (g:=w1.heap.size) hs r2 hl).mono ?_⟩;rintro e w4 ⟨hm,h⟩;have r4:Row w4 w.heap.size 3 ⟨[.int .i64 0]⟩:=Fh.mod hm (by rintro e;have:=r1.lt;omega);have s4:Still w w4:=dP.box (by omega) hm;cases hu:fU 30 s with
 |none=>rw[hu]at h;obtain⟨rfl,_⟩:=h;exact .inr ⟨_,rfl,bad r4 s4 hu⟩
 |some t=>
  rw[hu]at h;obtain⟨rfl,hsc⟩:=h;have hk:=LS hu;refine .inl ⟨rfl,t,hsc.cell,?_⟩
  try dsimp only[zR]
  rw[show i64.wrap ((s.length:Int)-(t.length:Int))=(jM s:Int) by rw[wrap_i64 (by omega) (by omega)];omega];refine aHb r4 λw5 r5 m5 _=>?_;refine(arp _ _).mono ?_;rintro _ _ _ ⟨rfl,rfl,rfl⟩;exact⟨⟨_,rfl⟩,rfl,_,r5.aj rfl,rfl,s4.box (aV _) m5⟩
end Go.Proofs.YtihaaoehhgmphaaGreatDoor.L
namespace Go.Proofs.YtihaaoehhgmphaaGreatDoor.L
open IntKind Go.RowKit Vc
variable{w:World}
abbrev cX(w:World)(g:Nat)(s:ag)(v:Value)(q:Bool)(d:Int):Prop:=Row w g 503 ⟨[.string (S s),v,.bool q,.int .i64 d]⟩
def PS(w:World)(g B:Nat)(s:ag)(l:List Pt)(q:Bool)(d:Int):Prop:=∃v,cX w g s v q d/\iq w B l v
abbrev MP(g B:Nat)(w w':World):Prop:=Mod (λk=>k=g\/B<=k) w w'
def MP.trans{g B:Nat}{a b c:World}(h:MP g B a b)(k:MP g B b c):MP g B a c:=Mod.trans h k (λ_ h=>h) (λ_ _ h=>h)
def _root_.Go.Proofs.YtihaaoehhgmphaaGreatDoor.Still.mp{g B:Nat}{a b:World}(h:Still a b):MP g B a b:=h.weaken λ_ h=>h.elim
def MP.still{g B:Nat}{a b c:World}(h:MP g B a b)(k:Still b c):MP g B a c:=MP.trans h k.mp
def cX.text{g:Nat}{s:ag}{v:Value}{q:Bool}{d:Int}(h:cX w g s v q d):w.cell? ⟨g,0,none⟩=some (.string (S s)):=h.aj rfl
def cX.quoted{g:Nat}{s:ag}{v:Value}{q:Bool}{d:Int}(h:cX w g s v q d):w.cell? ⟨g,2,none⟩=some (.bool q):=h.aj rfl
def cX.depth{g:Nat}{s:ag}{v:Value}{q:Bool}{d:Int}(h:cX w g s v q d):w.cell? ⟨g,3,none⟩=some (.int .i64 d):=h.aj rfl
def jN(x:Pt)(b:Bool):Pt:=.mk x.k (x.q||b) x.t x.n x.o x.w
def awz(x:Pt)(b:Bool):(jN x b).wt=x.wt:=by rw[Pt.vm,Pt.vm];rfl
def PS.still{w':World}{g B:Nat}{s:ag}{l:List Pt}{q:Bool}{d:Int}(h:PS w g B s l q d)(hs:Still w w'):PS w' g B s l q d:=by obtain⟨v,h1,h2⟩:=h;exact⟨v,h1.still hs,h2.still hs⟩
def wU{g B n:Nat}{s:ag}{l:List Pt}{v vw:Value}{q:Bool}{d:Int}{x:Pt}(hr:cX w g s v q d)(ho:iq w B l v)(hg:g<B)(hB:B<=w.heap.size)(hw:cD w (λk=>B<=k/\k<w.heap.size/\v.ownBlock≠some k) x.w vw)(hn:n<=s.length)(hl:cG l+x.wt<1000000000):
  aq oE #[.pointer (some ⟨g,0,none⟩),EV x vw,.int .i64 (n:Int)] w (λe w'=>e=.returned (.tuple #[])/\PS w' g B (s.drop n) (fP l (jN x q)) q d/\MP g B w w'):=by
 obtain⟨wp,wc,rfl⟩:=hw.form;apply alU;refine aQ λw1 r1 s1 z1=>?_;have f1:=(GI (x:=x) r1).2.1;have aHc:cX w1 g s v q d:=hr.still s1;refine⟨λw4=>Row w4 w.heap.size 51 ⟨gX (jN x q) (.slice wp x.w.length wc)⟩/\Still w w4,⟨_,f1,aA (λh=>?_) (λh=>?_)⟩,?_⟩
 .refine aHb r1 λw2 r2 m2 z2=>⟨?_,s1.box (aV _) m2⟩
  have e:gX (jN x q) (.slice wp x.w.length wc)=fh (gX x (.slice wp x.w.length wc)) 1 [.bool true]:=by rw[show jN x q=.mk x.k true x.t x.n x.o x.w by rw[jN,h,Bool.true_or]];rfl
  rw[e];exact r2
 .refine⟨_,by rw[aHa];exact aHc.quoted,aHb r1 λw2 r2 m2 z2=>⟨?_,s1.box (aV _) m2⟩⟩
  have e:gX (jN x q) (.slice wp x.w.length wc)=fh (gX x (.slice wp x.w.length wc)) 1 [.bool q]:=by rw[show jN x q=.mk x.k q x.t x.n x.o x.w by rw[jN,h,yh]];rfl
  rw[e];exact r2
 rintro _ w4 ⟨r4,s4⟩;have sd:Still w w4.drew:=s4.cy;have hrd:=hr.still sd;have Dk:=ho.still sd;obtain⟨p,c,xs,hv,hown,hcs⟩:=Dk;subst hv;have Dk:iq w4.drew B l (.slice p l.length c):=⟨p,c,xs,rfl,hown,hcs⟩;have rd:Row w4.drew w.heap.size 51 ⟨gX (jN x q) (.slice wp x.w.length wc)⟩:=r4.still (iH w4);refine⟨λwq=>wq=w4.drew,rfl,p,l.length,c,?_,(jN x q).k,(jN x q).q,(jN x q).t,(jN x q).n,(jN x q).o,wp,x.w.length,wc,?_,?_,?_,?_,?_,?_,?_⟩
 .rintro _ rfl
  rw[aHa];exact hrd.aj rfl
 .rintro _ rfl;exact rd.aj rfl
 .rintro _ rfl;exact rd.aj rfl
 .rintro _ rfl;exact rd.aj rfl
 .rintro _ rfl;exact rd.aj rfl
 .rintro _ rfl;exact rd.aj rfl
 .rintro _ rfl;exact rd.aj rfl
 have hzd:=sd.size;refine(G8 (x:=jN x q) Dk (by omega) ((hw.still sd).mono λk hk=>⟨hk.1,by omega,hk.2.2⟩) (by rw[awz];exact hl)).mono ?_;rintro _ w5 ⟨v5,rfl,rA,m5,aF5⟩;obtain⟨p5,c5,xs5,rfl,ayz,aAe⟩:=rA;have kG:cX w5 g s (.slice p l.length c) q d:=hrd.mod m5 λe=>by have:=(Dk.mQ e).1;omega
 refine .inl ⟨_,_,_,rfl,?_⟩;show cJ ((Addr.mk g 0 none).add 1) _ _ _ _
 rw[aHa];refine aHb kG λw6 r6 m6 z6=>?_;refine⟨s,r6.aj rfl,by omega,by omega,?_⟩;rw[b6];refine dO r6 (by simp[fh]) (by simp[Value.oneCell']) λw7 r7 m7 z7=>⟨rfl,⟨_,r7,?_⟩,?_⟩
 .have rA:iq w5 B (fP l (jN x q)) (.slice p5 (fP l (jN x q)).length c5):=⟨p5,c5,xs5,rfl,ayz,aAe⟩
  exact(rA.mod m6 λk hk _ e=>by omega).mod m7 λk hk _ e=>by omega
 .have m5':MP g B w4.drew w5:=m5.weaken λk hk=>.inr (Dk.mQ hk).1
  exact((sd.mp.trans m5').trans (m6.weaken λk hk=>.inl hk)).trans (m7.weaken λk hk=>.inl hk)
def arq{P:ag->Rs (List Pt)}(_:∀s,P s≠.bad 0)(q:Bool)(s:ag):Hy P q s≠.bad 0:=λh=>by cases h
def abp{P:ag->Rs (List Pt)}(hP:∀s,P s≠.bad 0)(q:Bool)(s:ag):kg P q s≠.bad 0:=by
 unfold kg;split
 .split
  .intro h;cases h
  .split
   .rename_i t _ _
    cases hb:Hy P q ((s.drop 2).take (s.length-t.length-3))with
    |bad k=>intro h;injection h with h;exact arq hP _ _ (hb.trans (by rw[h]))
    |ok x=>intro h;cases h
   .split<;>(intro h;cases h)
 .split
  .intro h;cases h
  .split<;>(intro h;cases h)
def L5{one:ag->Rs (List Pt×Nat)}(ht:AH one)(ho:∀c r,one (c::r)≠.bad 0):∀(n:Nat) (acc:List Pt) (s:ag),s.length<n->aHr one n acc s≠.bad 0
 |0,_,_,h=>by omega
 |n+1,acc,[],_=>λh=>by cases h
 |n+1,acc,c::r,hn=>by
  simp only[aHr];cases h1:one (c::r)with
  |bad k=>intro h;injection h with h;exact ho c r (h1.trans (by rw[h]))
  |ok x=>have h2:=ht _ _ h1;simp only[bf]at hn h2;exact L5 ht ho n _ _ (by rw[ig,bf];omega)
def S0{P:ag->Rs (List Pt)}(hP:∀s,P s≠.bad 0)(c:UInt8)(r:ag):nN P (c::r)≠.bad 0:=by
 simp only[nN];split
 .cases hd:kg P true (c::r)with
  |bad k=>intro h;injection h with h;exact abp hP _ _ (hd.trans (by rw[h]))
  |ok x=>intro h;cases h
 .split<;>(intro h;cases h)
def awA{P:ag->Rs (List Pt)}(hP:∀s,P s≠.bad 0)(s:ag):qi P s≠.bad 0:=by
 unfold qi;split
 .intro h;cases h
 .exact L5 (Gv P) (S0 hP) _ _ _ (aHP _)
def acE{P:ag->Rs (List Pt)}(hP:∀s,P s≠.bad 0)(c:UInt8)(r:ag):kO P (c::r)≠.bad 0:=by
 simp only[kO];split
 .cases hd:kg P false (c::r)with
  |bad k=>intro h;injection h with h;exact abp hP _ _ (hd.trans (by rw[h]))
  |ok x=>intro h;cases h
 .split
  .split
   .intro h;cases h
   .rename_i t _
    split
    .intro h;cases h
    .split
     .cases hd:qi P (r.take (r.length-t.length-1))with
      |bad k=>intro h;injection h with h;exact awA hP _ (hd.trans (by rw[h]))
      |ok x=>intro h;cases h
     .intro h;cases h
  .intro h;cases h
def CD:∀(L:Nat) (s:ag),ef L s≠.bad 0
 |0,s=>λh=>by cases h
 |L+1,s=>L5 (R3 _) (acE (CD L)) _ _ _ (aHP _)
def jw(w:World)(s:ag)(L:Nat)(e:Ending)(w':World):Prop:=(match ef L s with
 |.ok l=>∃v,e=.returned (.tuple #[v,.int .i64 0])/\cD w' (λk=>w.heap.size<=k/\k<w'.heap.size) l v
 |.bad k=>e=.returned (.tuple #[.slice none 0 0,.int .i64 (k:Int)]))/\Still w w'
def axM(L:Nat):Prop:=∀(w:World) (s:ag),s.length<1000000->123∉s->aq RV #[.string (S s),.int .i64 (31-(L:Int))] w (jw w s L)
def yW(w:World)(g B:Nat)(l:List Pt)(q:Bool)(d:Int)(s:ag)(x:Rs (Pt×Nat))(e:Ending)(w':World):Prop:=(match x with
 |.ok p=>e=.returned (.int .i64 0)/\PS w' g B (s.drop p.2) (fP l p.1) q d
 |.bad k=>e=.returned (.int .i64 (k:Int))/\∃s' v',cX w' g s' v' q d)/\MP g B w w'
def apj{c:UInt8}{r t:ag}(hc:c=40\/c=123)(h:fU 30 (36::c::r)=some t):t.length+3<=(36::c::r).length:=by
 rcases hc with rfl|rfl
 .have h:dU 29 41 r=some t:=h
  have:=Aa _ _ _ _ h;simp only[bf];omega
 .have h:dU 29 125 r=some t:=h
  have:=Aa _ _ _ _ h;simp only[bf];omega
def aoE{P:ag->Rs (List Pt)}{q:Bool}{c:UInt8}{r:ag}(hc:c=40\/c=123):kg P q (36::c::r)=(match fU 30 (36::c::r)with
  |none=>.bad 90
  |some _=>if c=123 then(Hy P q (r.take (jM (36::c::r)-3))).and λp=>.ok (p,jM (36::c::r))
   else if 4<jM (36::c::r)/\(36::c::r)[2]?=some 40/\(36::c::r)[jM (36::c::r)-2]?=some 41 then .ok (.mk 3 q (((36::c::r).drop 3).take (jM (36::c::r)-5)) [] [] [],jM (36::c::r))
   else .ok (.mk 2 q (r.take (jM (36::c::r)-3)) [] [] [],jM (36::c::r))):=by
 unfold kg;have hh:((36::c::r:ag).drop 1).head?=some 40\/((36::c::r:ag).drop 1).head?=some 123:=by
  rcases hc with rfl|rfl
  .exact .inl rfl
  .exact .inr rfl
 rw[aL hh];cases hu:fU 30 (36::c::r)with
 |none=>rfl
 |some t=>
  have:=(LS hu).1;rw[this];have e:(((36::c::r:ag).drop 1).head?=some 123)=(c=123):=by show(some c=some 123)=_;rw[F7]
  simp only[e];rfl
def abq(s:ag)(n a k:Nat)(hk:k<=n-a):((s.take n).drop a).take k=(s.drop a).take k:=by rw[List.drop_take,Re,BZ hk]
def TD{s:ag}{n i:Nat}(h:i<n):(s.take n)[i]?=s[i]?:=by rw[aJ2,aL h]
def S1{s:ag}{i:Nat}{b c:UInt8}(h:s[i]?=some b):(s[i]?=some c)↔((b.toNat:Int)=(c.toNat:Int)):=by rw[h,F7];exact aHi.symm
set_option maxHeartbeats 1000000 in
def au7{L:Nat}{g B:Nat}{c:UInt8}{r:ag}(nb:123∉(36::c::r:ag)){l:List Pt}{q:Bool}(hs:PS w g B (36::c::r) l q (30-(L:Int)))(hg:g<B)(hB:B<=w.heap.size)(hc:c=40\/c=123)(hl:(36::c::r).length<1000000)(hw:cG l+12*(36::c::r).length<500000000):
  aq QA #[.pointer (some ⟨g,0,none⟩)] w (yW w g B l q (30-(L:Int)) (36::c::r) (kg (ef L) q (36::c::r))):=by
 obtain⟨v,hr,ho⟩:=hs;apply alk;refine⟨_,hr.text,(acD _ hl).mono ?_⟩;rintro _ w1 ⟨rfl,s1⟩;have aHc:cX w1 g _ v q _:=hr.still s1;have aHL:=ho.still s1;rw[aoE hc];refine .inl ⟨_,rfl,?_⟩;cases hu:fU 30 (36::c::r)with
 |none=>
  have h0:jM (36::c::r)=0:=by unfold jM;rw[hu]
  rw[h0];exact aA (λ_=>⟨⟨rfl,_,_,aHc⟩,s1.mp⟩) (λh=>absurd (aX h) (by decide))
 |some t=>
  obtain⟨h1,h2,h3⟩:=LS hu;have h4:=apj hc hu;have h5:3<=jM (36::c::r):=by omega
  generalize jM (36::c::r)=n at h1 h2 h3 h5;dsimp only;have e1:i64.wrap ((n:Int)-1)=((n-1:Nat):Int):=wI;have e2:i64.wrap ((n:Int)-2)=((n-2:Nat):Int):=wI;have htn:((36::c::r).take n).length=n:=by rw[aHl];omega
  refine aA (λh=>absurd (aR h) (by omega)) (λ_=>⟨_,aHc.text,by omega,by omega,by decide,c,?_,?_⟩)
  .rw[b6]
   rw[TD (show Int.toNat 1<n by show 1<n;omega)];rfl
  rw[b6,e1,e2];have zz:=s1.size
  -- a part of its own is put
  have put:∀(x:Pt) (w6:World),w6=w1->x.q=false->x.w=[]->x.wt<=12*(36::c::r).length+20->aq oE #[.pointer (some ⟨g,0,none⟩),EV x (.slice none 0 0),.int .i64 (n:Int)] w6 (λed w7=>(ed=.returned (.tuple #[])/\yW w g B l q (30-(L:Int)) (36::c::r) (.ok (.mk x.k q x.t x.n x.o x.w,n)) (.returned (.int .i64 0)) w7)\/(∃ch,ed=.panicked ch/\yW w g B l q (30-(L:Int)) (36::c::r) (.ok (.mk x.k q x.t x.n x.o x.w,n)) (.panicked ch) w7)):=by
   rintro x _ rfl hq O2 hwt;refine(wU (x:=x) (n:=n) aHc aHL hg (by omega) (by rw[O2];exact cD.nil _ _ _ _) h3 (by omega)).mono ?_;rintro _ w7 ⟨rfl,h7,m7⟩;have e:jN x q=.mk x.k q x.t x.n x.o x.w:=by rw[jN,hq,yh]
   rw[e]at h7;exact .inl ⟨rfl,⟨rfl,h7⟩,s1.mp.trans m7⟩
  refine aA (λh=>?_) (λh=>?_)
  .have Fy:c=123:=aHi.1 (aR h)
   subst Fy;exact absurd (by simp) nb
  .have Fy:¬c=123:=λe=>aX h (aHi.2 e)
   rw[aG Fy];refine⟨λb w6=>w6=w1/\(b=true↔(4<n/\(36::c::r)[2]?=some 40/\(36::c::r)[n-2]?=some 41)),aA (λh6=>?_) (λh6=>⟨rfl,λe=>(by cases e),λe=>?_⟩),?_⟩
   .have h6:4<n:=by have:=aR h6;omega
    obtain⟨b1,hU⟩:∃b1,(36::c::r)[2]?=some b1:=⟨_,gW (by omega)⟩;obtain⟨b2,fS⟩:∃b2,(36::c::r)[n-2]?=some b2:=⟨_,gW (by omega)⟩;refine⟨by decide,b1,by rw[TD (show Int.toNat 2<n by show 2<n;omega)];exact hU,aA (λh7=>⟨by omega,b2,by rw[b6,TD (by omega)];exact fS,rfl,?_⟩) (λh7=>⟨rfl,λe=>(by cases e),λe=>?_⟩)⟩
    .rw[oC,S1 hU,S1 fS]
     exact⟨λe=>⟨h6,aR h7,e⟩,λe=>e.2.2⟩
    .rw[S1 hU]at e
     exact absurd e.2.1 (aX h7)
   .have:=aX h6
    omega
   .rintro b _ w6 ⟨rfl,hb⟩
    refine aA (λh8=>?_) (λh8=>?_)
    .have h9:=hb.1 h8
     rw[aL h9];have ht:((((36::c::r:ag).take n).drop (Int.toNat 3)).take (Int.toNat ((n-2:Nat):Int)-Int.toNat 3))=((36::c::r).drop 3).take (n-5):=by
      rw[b6];show((((36::c::r:ag).take n).drop 3).take (n-2-3))=_
      rw[abq _ _ _ _ (by omega),show n-2-3=n-5 by omega]
     rw[ht];exact⟨by decide,by omega,by omega,put (.mk 3 false (((36::c::r).drop 3).take (n-5)) [] [] []) w6 rfl rfl rfl (by simp only[Pt.wt,cG,aHf,aHl];omega)⟩
    .rw[aG λh9=>by rw[hb.2 h9]at h8;cases h8]
     have ht:((((36::c::r:ag).take n).drop (Int.toNat 2)).take (Int.toNat ((n-1:Nat):Int)-Int.toNat 2))=r.take (n-3):=by
      rw[b6];show((((36::c::r:ag).take n).drop 2).take (n-1-2))=_
      rw[abq _ _ _ _ (by omega),show n-1-2=n-3 by omega];rfl
     rw[ht];exact⟨by decide,by omega,by omega,put (.mk 2 false (r.take (n-3)) [] [] []) w6 rfl rfl rfl (by simp only[Pt.wt,cG,aHf,aHl];omega)⟩
def ap8(c:UInt8):([48,49,50,51,52,53,54,55,56,57,35,63,64,42]:ag).contains c=UF c:=by
 have h:∀n:Nat,n<256->([48,49,50,51,52,53,54,55,56,57,35,63,64,42]:ag).contains (UInt8.ofNat n)=UF (UInt8.ofNat n):=by decide+kernel
 have:=h c.toNat c.toNat_lt;rwa[Kz]at this
def afv(x:UInt8)(r:ag):pf [x] r=decide (r.head?=some x):=by
 rw[Lh];cases r with
 |nil=>rfl
 |cons c r=>rw[sZ];simp[List.isPrefixOf];exact eq_comm
set_option maxHeartbeats 1000000 in
def atj{L:Nat}{g B:Nat}{r:ag}(nb:123∉(36::r:ag)){l:List Pt}{q:Bool}(hs:PS w g B (36::r) l q (30-(L:Int)))(hg:g<B)(hB:B<=w.heap.size)(hl:(36::r).length<1000000)(hw:cG l+12*(36::r).length<500000000):
  aq Qr #[.pointer (some ⟨g,0,none⟩)] w (yW w g B l q (30-(L:Int)) (36::r) (kg (ef L) q (36::r))):=by
 have hs':=hs;obtain⟨v,hr,ho⟩:=hs;simp only[bf]at hl hw;apply ak1;have e1:(36::r:ag).drop (Int.toNat 1)=r:=rfl;refine⟨_,hr.text,by decide,by simp only[bf];omega,?_⟩;rw[e1];refine(SV r (by omega)).mono ?_;rintro _ w1 ⟨rfl,s1⟩;have hnl:=aIS r
 -- what the name is
 refine .inl ⟨_,rfl,λnm w4=>nm=r.take (if 0<bV r then bV r else nU r)/\Still w w4,⟨λb w3=>(b=true↔bV r=0/\0<nU r)/\Still w w3,aA (λh=>aA (λh2=>?_) (λh2=>?_)) (λh=>?_),?_⟩,?_⟩
 .have h:r.take (bV r)=[]:=aR h
  rw[take_nil hnl]at h;have h2:¬r=[]:=nt h2;obtain⟨c,y,rfl⟩:=aJj h2;refine⟨by decide,c,rfl,(index_spec _ c).mono ?_⟩;rintro _ w2 ⟨⟨n,rfl,hn⟩,rfl⟩;rw[ap8]at hn;refine .inl ⟨_,rfl,?_,s1⟩;rw[hn];simp only[nU];refine⟨λe=>⟨h,by rw[aL e];decide⟩,λe=>?_⟩;have:=e.2;split at this;·assumption
  .omega
 .have h2:r=[]:=nf h2
  subst h2;exact⟨⟨λe=>(by cases e),λe=>absurd e.2 (by decide)⟩,s1⟩
 .have h:¬r.take (bV r)=[]:=aX h
  rw[take_nil hnl]at h;exact⟨⟨λe=>(by cases e),λe=>absurd e.1 h⟩,s1⟩
 .rintro b _ w3 ⟨hb,s3⟩
  refine aA (λh=>?_) (λh=>?_)
  .have hh:=hb.1 h
   have h1:=ab7 r;have h2:=Tn r;refine⟨by decide,by omega,?_,s3⟩;rw[aG (by omega),show nU r=1 by omega];rfl
  .refine⟨?_,s3⟩
   by_cases h0:0<bV r
   .rw[aL h0]
   .have:¬0<nU r:=λe=>by rw[hb.2 ⟨by omega,e⟩]at h;cases h
    rw[aG h0];congr 1;omega
 rintro _ _ w4 ⟨rfl,s4⟩;refine⟨λb w7=>(b=true↔r.head?=some 40\/r.head?=some 123)/\Still w w7,(ZD r [40]).mono ?_,?_⟩
 .rintro _ w5 ⟨rfl,rfl⟩
  rw[afv];refine .inl ⟨_,rfl,aA (λh=>⟨?_,s4⟩) (λh=>(ZD r [123]).mono ?_)⟩
  .rw[h]
   exact⟨λ_=>.inl (aR h),λ_=>rfl⟩
  .rintro _ w6 ⟨rfl,rfl⟩
   rw[afv];refine .inl ⟨_,rfl,?_,s4⟩;rw[oC];exact⟨.inr,λe=>e.resolve_left (aX h)⟩
 rintro b _ w7 ⟨hb,s7⟩;have hz:=s7.size;refine aA (λh=>?_) (λh=>?_)
 .have hh:=hb.1 h
  obtain⟨c,y,rfl⟩:∃c y,r=c::y:=by
   cases r with
   |nil=>rcases hh with e|e<;>cases e
   |cons c y=>exact⟨c,y,rfl⟩
  have hc:c=40\/c=123:=by simpa using hh
  refine(au7 nb (hs'.still s7) hg (by omega) hc (by simp only[bf]at hl⊢;omega) (by simp only[bf]at hw⊢;omega)).mono ?_;rintro e8 w8 ⟨h8,m8⟩;cases hd:kg (ef L) q (36::c::y)with
  |ok p=>rw[hd]at h8;obtain⟨rfl,h9⟩:=h8;exact .inl ⟨_,rfl,⟨rfl,h9⟩,s7.mp.trans m8⟩
  |bad k=>rw[hd]at h8;obtain⟨rfl,h9⟩:=h8;exact .inl ⟨_,rfl,⟨rfl,h9⟩,s7.mp.trans m8⟩
 have hno:¬(r.head?=some 40\/r.head?=some 123):=λe=>by rw[hb.2 e]at h;cases h
 have xS:cX w7 g _ v q _:=hr.still s7;have zj:=ho.still s7;have put:∀(x:Pt) (n:Nat),x.q=false->x.w=[]->x.wt<=12*(r.length+1)+20->n<=r.length+1->kg (ef L) q (36::r)=.ok (.mk x.k q x.t x.n x.o x.w,n)->aq oE #[.pointer (some ⟨g,0,none⟩),EV x (.slice none 0 0),.int .i64 (n:Int)] w7 (λed w9=>(ed=.returned (.tuple #[])/\yW w g B l q (30-(L:Int)) (36::r) (kg (ef L) q (36::r)) (.returned (.int .i64 0)) w9)\/(∃ch,ed=.panicked ch/\yW w g B l q (30-(L:Int)) (36::r) (kg (ef L) q (36::r)) (.panicked ch) w9)):=by
  intro x n hq O2 hwt hn hd;refine(wU (x:=x) (n:=n) xS zj hg (by omega) (by rw[O2];exact cD.nil _ _ _ _) (by simp only[bf];omega) (by omega)).mono ?_;rintro _ w9 ⟨rfl,h9,m9⟩;rw[hd];have e:jN x q=.mk x.k q x.t x.n x.o x.w:=by rw[jN,hq,yh]
  rw[e]at h9;exact .inl ⟨rfl,⟨rfl,h9⟩,s7.mp.trans m9⟩
 have hd0:kg (ef L) q (36::r)=if 0<bV r then .ok (.mk 1 q [] (r.take (bV r)) [] [],bV r+1)else if 0<nU r then .ok (.mk 1 q [] (r.take 1) [] [],2)else .ok (.mk 0 q [36] [] [] [],1):=by unfold kg;simp only[BU,KP];rw[aG hno]
 have aF6:=ab7 r;have aF7:=Tn r;refine aA (λh5=>?_) (λh5=>?_)
 .have h5:¬r.take (if 0<bV r then bV r else nU r)=[]:=nt h5
  rw[take_nil (by split<;>omega)]at h5;have hlen:(r.take (if 0<bV r then bV r else nU r)).length=(if 0<bV r then bV r else nU r):=by rw[aHl];split<;>omega
  rw[hlen,show i64.wrap (1+((if 0<bV r then bV r else nU r:Nat):Int))=(((if 0<bV r then bV r else nU r)+1:Nat):Int) by rw[wrap_i64 (by omega) (by split<;>omega)];omega]
  by_cases h0:0<bV r
  .rw[aL h0]at h5⊢
   exact put (.mk 1 false [] (r.take (bV r)) [] []) (bV r+1) rfl rfl (by simp only[Pt.wt,cG,aHf,aHl];omega) (by omega) (by rw[hd0,aL h0];rfl)
  .rw[aG h0]at h5⊢
   have h6:nU r=1:=by omega
   rw[h6];exact put (.mk 1 false [] (r.take 1) [] []) 2 rfl rfl (by simp only[Pt.wt,cG,aHf,aHl];omega) (by omega) (by rw[hd0,aG h0,aL (by omega)];rfl)
 .have h5:r.take (if 0<bV r then bV r else nU r)=[]:=nf h5
  rw[take_nil (by split<;>omega)]at h5;have h6:¬0<bV r:=λe=>by rw[aL e]at h5;omega
  rw[aG h6]at h5;exact put (.mk 0 false [36] [] [] []) 1 rfl rfl (by simp only[Pt.wt,cG,aHf,bf];omega) (by omega) (by rw[hd0,aG h6,aG (by omega)];rfl)
def A2(w:World)(g B:Nat)(l:List Pt)(q:Bool)(d:Int)(s:ag)(x:Rs (List Pt×Nat))(e:Ending)(w':World):Prop:=(match x with
 |.ok p=>e=.returned (.int .i64 0)/\PS w' g B (s.drop p.2) (p.1.foldl fP l) q d
 |.bad k=>e=.returned (.int .i64 (k:Int))/\∃s' v',cX w' g s' v' q d)/\MP g B w w'
def yW.one{g B:Nat}{l:List Pt}{q:Bool}{d:Int}{s:ag}{x:Rs (Pt×Nat)}{e:Ending}{w':World}(h:yW w g B l q d s x e w'):A2 w g B l q d s (x.and λy=>.ok ([y.1],y.2)) e w':=by
 cases x with
 |ok p=>exact h
 |bad k=>exact h
def gZ(q:Bool)(L:Nat):ag->Rs (List Pt×Nat):=if q=true then nN (ef L)else kO (ef L)
def abr(q:Bool)(L:Nat):AH (gZ q L):=by
 unfold gZ;split
 .exact Gv _
 .exact R3 _
def ars(q:Bool)(L:Nat):Bears (gZ q L):=by
 unfold gZ;split
 .exact ZX (MF L)
 .exact ZY (MF L)
def awB(q:Bool)(L:Nat)(c:UInt8)(r:ag):gZ q L (c::r)≠.bad 0:=by
 unfold gZ;split
 .exact S0 (CD L) c r
 .exact acE (CD L) c r
def ap9(q:Bool)(L:Nat)(r:ag):gZ q L (36::r)=(kg (ef L) q (36::r)).and λy=>.ok ([y.1],y.2):=by
 cases q
 .simp only[gZ,kO,kV,iV,nu]
 .simp only[gZ,nN,nu]
def atk{one:ag->Rs (List Pt×Nat)}(ht:AH one)(l:List Pt)(c:UInt8)(r:ag):aHr one ((c::r).length+1) l (c::r)=(one (c::r)).and λx=>aHr one (((c::r).drop x.2).length+1) (x.1.foldl fP l) ((c::r).drop x.2):=by
 show(one (c::r)).and (λx=>aHr one (c::r).length (x.1.foldl fP l) ((c::r).drop x.2))=_;cases h:one (c::r)with
 |bad k=>rfl
 |ok x=>have h2:=ht _ _ h;simp only[Rs.and];refine aaZ ht _ _ _ _ ?_ (aHP _);rw[ig];omega
def yL(g:Nat)(w:World):Nat:=match w.cell? ⟨g,0,none⟩with
 |some (.string s)=>s.size
 |_=>0
def cX.len{g:Nat}{s:ag}{v:Value}{q:Bool}{d:Int}(h:cX w g s v q d):yL g w=s.length:=by unfold yL;rw[h.text];rfl
def aeB(w:World)(g B:Nat)(q:Bool)(d:Int)(L:Nat)(l:List Pt)(s:ag)(e:Ending)(w':World):Prop:=(match aHr (gZ q L) (s.length+1) l s with
 |.ok l'=>e=.returned (.int .i64 0)/\PS w' g B [] l' q d
 |.bad k=>e=.returned (.int .i64 (k:Int))/\∃s' v',cX w' g s' v' q d)/\MP g B w w'
def afw(L:Nat):Prop:=∀(w:World) (g B:Nat) (c:UInt8) (r:ag) (l:List Pt),PS w g B (c::r) l false (30-(L:Int))->g<B->B<=w.heap.size->(c=92\/c=39\/c=34)->(c::r).length<1000000->cG l+12*(c::r).length<500000000->123∉(c::r:ag)->
 aq Qz #[.pointer (some ⟨g,0,none⟩)] w (A2 w g B l false (30-(L:Int)) (c::r) (kO (ef L) (c::r)))
def abt(c:UInt8):([36,96,34,92]:ag).contains c=true↔(c=36\/c=96\/c=34\/c=92):=by simp
def art{L g B:Nat}{c:UInt8}{r:ag}{l:List Pt}{d:Int}(hs:PS w g B (c::r) l true d)(hc:c≠36)(hg:g<B)(hB:B<=w.heap.size)(hl:(c::r).length<1000000)(hw:cG l+12*(c::r).length<500000000):
  aq Qf #[.pointer (some ⟨g,0,none⟩)] w (λe w'=>∃b:Bool,e=.returned (.bool b)/\(b=true->A2 w g B l true d (c::r) (nN (ef L) (c::r)) (.returned (.int .i64 0)) w')/\(b=false->w'=w/\nN (ef L) (c::r)=.ok ([tx true [c]],1))):=by
 obtain⟨v,hr,ho⟩:=hs;simp only[bf]at hl hw;apply akI;have no:¬(c=92/\(r.head?=some 36\/r.head?=some 96\/r.head?=some 34\/r.head?=some 92))->(∃b:Bool,Ending.returned (.bool false)=.returned (.bool b)/\(b=true->A2 w g B l true d (c::r) (nN (ef L) (c::r)) (.returned (.int .i64 0)) w)/\(b=false->w=w/\nN (ef L) (c::r)=.ok ([tx true [c]],1))):=by intro h;refine⟨false,rfl,λe=>(by cases e),λ_=>⟨rfl,?_⟩⟩;simp only[nN];rw[aG hc,aG h]
 refine⟨_,hr.text,aA (λh=>?_) (λh=>⟨_,hr.text,by decide,c,rfl,aA (λh2=>?_) (λh2=>?_)⟩)⟩
 .have h:=aR h
  simp only[bf]at h;have:r=[]:=pU (by omega);subst this;exact no λe=>by rcases e.2 with e|e|e|e<;>cases e
 .have h2:¬c=92:=λe=>nt h2 (aHi.2 e)
  exact no λe=>h2 e.1
 .have h2:c=92:=aHi.1 (nf h2)
  subst h2;have h:=aX h;simp only[bf]at h;obtain⟨b,y,rfl⟩:∃b y,r=b::y:=by
   cases r with
   |nil=>simp at h
   |cons b y=>exact⟨b,y,rfl⟩
  refine⟨_,hr.text,by decide,b,rfl,(index_spec _ b).mono ?_⟩;rintro _ w1 ⟨⟨n,rfl,hn⟩,rfl⟩;have hd:nN (ef L) (92::b::y)=if(b=36\/b=96\/b=34\/b=92)then .ok ([tx true [b]],2)else .ok ([tx true [92]],1):=by simp[nN]
  refine .inl ⟨_,rfl,aA (λh3=>?_) (λh3=>⟨_,hr.text,by decide,by decide,by simp only[bf];omega,?_⟩)⟩
  .have h3:n<0:=aR h3
   have h4:¬([36,96,34,92]:ag).contains b=true:=by rw[<-hn,oC];omega
   rw[abt]at h4;exact no λe=>h4 (by simpa using e.2)
  .have h3:¬n<0:=aX h3
   have h4:([36,96,34,92]:ag).contains b=true:=by rw[<-hn,oC];omega
   rw[abt]at h4;refine(wU (x:=tx false [b]) (vw:=.slice none 0 0) (n:=2) hr ho hg hB (cD.nil _ _ _ _) (by simp only[bf];omega) (by rw[yR];simp only[bf,aHf]at hw⊢;omega)).mono ?_;rintro _ w2 ⟨rfl,h2,m2⟩;refine .inl ⟨rfl,true,rfl,λ_=>?_,λe=>(by cases e)⟩;rw[hd,aL h4];exact⟨⟨rfl,h2⟩,m2⟩
set_option maxHeartbeats 1000000 in
def afx{L:Nat}(hL:L<=30){q:Bool}(hq:q=false->afw L){g B:Nat}{s:ag}{l:List Pt}(hs:PS w g B s l q (30-(L:Int)))(hg:g<B)(hB:B<=w.heap.size)(hl:s.length<1000000)(hw:cG l+12*s.length<500000000)(nb:123∉s):
  aq KF #[.pointer (some ⟨g,0,none⟩)] w (aeB w g B q (30-(L:Int)) L l s):=by
 apply alT;refine⟨λex w1=>((∃s1 l1,ex=0/\PS w1 g B s1 l1 q (30-(L:Int))/\aHr (gZ q L) (s1.length+1) l1 s1=aHr (gZ q L) (s.length+1) l s/\cG l1+12*s1.length<=cG l+12*s.length/\s1<:+s)\/(∃(k:Nat) (s':ag) (v':Value),k≠0/\ex=(k:Int)/\aHr (gZ q L) (s.length+1) l s=.bad k/\cX w1 g s' v' q (30-(L:Int))))/\MP g B w w1,
  λex w1=>if ex=0 then 1+yL g w1 else 0,⟨.inl ⟨s,l,rfl,hs,rfl,aV _,yd _⟩,Mod.refl _ _⟩,?_⟩
 rintro ex _ w1 ⟨h1|⟨k,s',v',hk,rfl,hT,aHc⟩,m1⟩;rotate_left
 .refine⟨_,aHc.text,aA (λ_=>aA (λh=>absurd (aR h) (by omega)) (λ_=>?_)) (λ_=>?_)⟩
  .refine⟨?_,m1⟩
   rw[hT];exact⟨rfl,_,_,aHc⟩
  .refine⟨?_,m1⟩
   rw[hT];exact⟨rfl,_,_,aHc⟩
 obtain⟨s1,l1,rfl,hs1,hT,hw1,hl1⟩:=h1;have Jr:=hl1.length_le;have A_:=hs1;obtain⟨v1,aHc,aHL⟩:=hs1;have hz:=m1.size;refine⟨_,aHc.text,aA (λhne=>?_) (λhe=>?_)⟩;rotate_left
 .have he:s1=[]:=nf he
  subst he;refine⟨?_,m1⟩;rw[<-hT];exact⟨rfl,A_⟩
 have hne:s1≠[]:=nt hne;obtain⟨c,r,rfl⟩:=aJj hne;have Bw:123∉(c::r:ag):=λe=>nb (hl1.subset e)
 -- what a taking comes to, for the loop
 have next:∀(e:Ending) (w2:World),A2 w1 g B l1 q (30-(L:Int)) (c::r) (gZ q L (c::r)) e w2->∃n:Int,e=.returned (.int .i64 n)/\(((∃s1 l1,n=0/\PS w2 g B s1 l1 q (30-(L:Int))/\aHr (gZ q L) (s1.length+1) l1 s1=aHr (gZ q L) (s.length+1) l s/\cG l1+12*s1.length<=cG l+12*s.length/\s1<:+s)\/(∃(k:Nat) (s':ag) (v':Value),k≠0/\n=(k:Int)/\aHr (gZ q L) (s.length+1) l s=.bad k/\cX w2 g s' v' q (30-(L:Int))))/\MP g B w w2)/\(if n=0 then 1+yL g w2 else 0)<(if(0:Int)=0 then 1+yL g w1 else 0):=by
  rintro e w2 ⟨h2,m2⟩;rw[atk (abr q L)]at hT;rw[aL rfl,aHc.len];cases ho:gZ q L (c::r)with
  |ok x=>rw[ho]at h2 hT;obtain⟨rfl,hs2⟩:=h2;have ht:=abr q L _ _ ho;have hb:=ars q L _ _ ho;have hf:=Mh x.1 l1;have hdl:((c::r).drop x.2).length=(c::r).length-x.2:=ig;refine⟨0,rfl,⟨.inl ⟨_,_,rfl,hs2,hT,by omega,(List.drop_suffix _ _).trans hl1⟩,m1.trans m2⟩,?_⟩;obtain⟨v2,hr2,_⟩:=hs2;rw[aL rfl,hr2.len];omega
  |bad k=>rw[ho]at h2 hT;obtain⟨rfl,s',v',hr2⟩:=h2;have hk:k≠0:=λe=>awB q L c r (by rw[ho,e]);refine⟨_,rfl,⟨.inr ⟨k,s',v',hk,rfl,hT.symm,hr2⟩,m1.trans m2⟩,?_⟩;rw[aG (by omega)];omega
 have hlc:(c::r).length<1000000:=by omega
 have O3:cG l1+12*(c::r).length<500000000:=by omega
 refine aA (λ_=>⟨_,aHc.text,by decide,c,rfl,aA (λBG=>?_) (λBG=>?_)⟩) (λh=>absurd rfl (aX h))
 .have BG:c=36:=aHi.1 (aR BG)
  subst BG;refine(atj Bw A_ hg (by omega) hlc O3).mono ?_;intro e w2 h2;have:=yW.one h2;rw[<-ap9]at this;obtain⟨n,he,hi,hm⟩:=next e w2 this;exact .inl ⟨n,he,hi,hm⟩
 have BG:¬c=36:=λe=>aX BG (aHi.2 e)
 -- one byte is put
 have byte:∀(w5:World),w5=w1->gZ q L (c::r)=.ok ([tx q [c]],1)->aq oE #[.pointer (some (Addr.mk g 0 none)),(.agg #[(.int .i64 0),(.bool false),(.string (S ((c::r:ag).take (Int.toNat (1:Int))))),(.string (S ([]:List UInt8))),(.string (S ([]:List UInt8))),(.slice none 0 0)]),(.int .i64 (1:Int))] w5 (λed w7=>(ed=.returned (.tuple #[])/\(((∃s1 l1,(0:Int)=0/\PS w7 g B s1 l1 q (30-(L:Int))/\aHr (gZ q L) (s1.length+1) l1 s1=aHr (gZ q L) (s.length+1) l s/\cG l1+12*s1.length<=cG l+12*s.length/\s1<:+s)\/(∃(k:Nat) (s':ag) (v':Value),k≠0/\(0:Int)=(k:Int)/\aHr (gZ q L) (s.length+1) l s=.bad k/\cX w7 g s' v' q (30-(L:Int))))/\MP g B w w7)/\(if(0:Int)=0 then 1+yL g w7 else 0)<(if(0:Int)=0 then 1+yL g w1 else 0))\/(∃ch,ed=.panicked ch/\aeB w g B q (30-(L:Int)) L l s (.panicked ch) w7)):=by
  rintro _ rfl ho;refine(wU (x:=tx false [c]) (vw:=.slice none 0 0) (n:=1) aHc aHL hg (by omega) (cD.nil _ _ _ _) (by simp) (by rw[yR];simp only[bf,aHf]at O3⊢;omega)).mono ?_;rintro _ w7 ⟨rfl,h7,m7⟩;have e:jN (tx false [c]) q=tx q [c]:=by simp[jN,tx,Pt.k,Pt.q,Pt.t,Pt.n,Pt.o,Pt.w]
  rw[e]at h7;obtain⟨n,he,hi,hm⟩:=next (.returned (.int .i64 0)) w7 (by rw[ho];exact⟨⟨rfl,h7⟩,m7⟩);obtain rfl:n=0:=by injection he with he;injection he with _ he;exact he.symm
  exact .inl ⟨rfl,hi,hm⟩
 refine⟨λb w4=>(b=true->(((∃s1 l1,(0:Int)=0/\PS w4 g B s1 l1 q (30-(L:Int))/\aHr (gZ q L) (s1.length+1) l1 s1=aHr (gZ q L) (s.length+1) l s/\cG l1+12*s1.length<=cG l+12*s.length/\s1<:+s)\/(∃(k:Nat) (s':ag) (v':Value),k≠0/\(0:Int)=(k:Int)/\aHr (gZ q L) (s.length+1) l s=.bad k/\cX w4 g s' v' q (30-(L:Int))))/\MP g B w w4)/\(if(0:Int)=0 then 1+yL g w4 else 0)<(if(0:Int)=0 then 1+yL g w1 else 0))/\(b=false->w4=w1/\(q=true->gZ q L (c::r)=.ok ([tx q [c]],1))),⟨q,by rw[aHa];exact aHc.quoted,aA (λJN=>?_) (λJO=>?_)⟩,?_⟩
 .subst JN
  refine(art (L:=L) A_ BG hg (by omega) hlc O3).mono ?_;rintro _ w3 ⟨b,rfl,hU,fS⟩;refine .inl ⟨b,rfl,λhb=>?_,λhb=>?_⟩
  .obtain⟨n,he,hi,hm⟩:=next _ w3 (show A2 w1 g B l1 true (30-(L:Int)) (c::r) (gZ true L (c::r)) (.returned (.int .i64 0)) w3 from hU hb)
   obtain rfl:n=0:=by injection he with he;injection he with _ he;exact he.symm
   exact⟨hi,hm⟩
  .exact⟨(fS hb).1,λ_=>(fS hb).2⟩
 .exact⟨λe=>(by cases e),λ_=>⟨rfl,λe=>by rw[JO]at e;cases e⟩⟩
 rintro b _ w4 ⟨hU,fS⟩;refine aA (λhb=>hU hb) (λhb=>?_);obtain⟨rfl,hq1⟩:=fS hb;refine⟨q,by rw[aHa];exact aHc.quoted,aA (λJO=>?_) (λJN=>?_)⟩
 .have JO:q=false:=by simpa using JO
  subst JO;refine(index_spec _ c).mono ?_;rintro _ w5 ⟨⟨n,rfl,hn⟩,rfl⟩;have Fy:([92,39,34]:ag).contains c=true↔(c=92\/c=39\/c=34):=by simp
  refine .inl ⟨_,rfl,aA (λh0=>?_) (λh0=>⟨_,aHc.text,by decide,by simp only[bf];omega,byte w5 rfl ?_⟩)⟩
  .have h0:([92,39,34]:ag).contains c=true:=by rw[<-hn];exact h0
   refine(hq rfl w5 g B c r l1 A_ hg (by omega) (Fy.1 h0) hlc O3 Bw).mono ?_;intro e w6 h6;obtain⟨n,he,hi,hm⟩:=next e w6 h6;exact .inl ⟨n,he,hi,hm⟩
  .have h0:¬([92,39,34]:ag).contains c=true:=by rw[<-hn,h0];decide
   rw[Fy]at h0;simp only[gZ,kO,kV,iV];rw[aG BG,aG h0]
 .have JN:q=true:=by simpa using JN
  exact⟨_,aHc.text,by decide,by simp only[bf];omega,byte w4 rfl (hq1 JN)⟩
def atl{l' l:List Pt}{k:Nat}(h:k<l'.length):(l'.take (k+1)).foldl fP l=fP ((l'.take k).foldl fP l) l'[k]:=by rw[take_one h,List.foldl_append];rfl
set_option maxHeartbeats 1000000 in
def au8{L:Nat}(hL:L<=30):afw L:=by
 intro w g B c r l hs hg hB hc hl hw nb;have hs':=hs;obtain⟨v,hr,ho⟩:=hs;apply alj;refine⟨_,hr.text,(acD _ hl).mono ?_⟩;rintro _ w1 ⟨rfl,s1⟩;have aHc:cX w1 g _ v false _:=hr.still s1;have aHL:=ho.still s1;have z1:=s1.size;simp only[bf]at hl hw;have aAf:¬c=36:=by rcases hc with rfl|rfl|rfl<;>decide
 have hout:kO (ef L) (c::r)=(match fU 30 (c::r)with
   |none=>.bad 90
   |some t=>
    if c=92 then .ok ([tx true (r.take 1)],2)
    else if c=34 then(qi (ef L) (r.take (r.length-t.length-1))).and λl=>.ok (l,r.length+1-t.length)
    else .ok ([tx true (r.take (r.length-t.length-1))],r.length+1-t.length)):=by
  simp only[kO];rw[aG aAf,aL hc];cases fU 30 (c::r)<;>rfl
 rw[hout];refine .inl ⟨_,rfl,?_⟩;cases hu:fU 30 (c::r)with
 |none=>
  have h0:jM (c::r)=0:=by unfold jM;rw[hu]
  rw[h0];exact aA (λ_=>⟨⟨rfl,_,_,aHc⟩,s1.mp⟩) (λh=>absurd (aX h) (by decide))
 |some t=>
  obtain⟨h1,h2,h3⟩:=LS hu;simp only[bf]at h1 h3;have kQ:c=92->∃b,r=b::t:=by
   rintro rfl;cases r with
   |nil=>cases hu
   |cons b y=>have:some y=some t:=hu;injection this with this;exact⟨b,by rw[this]⟩
  have h5:2<=jM (c::r):=by
   rcases Decidable.em (c=92)with e|e
   .obtain⟨b,rfl⟩:=kQ e
    simp only[bf]at h1;omega
   .have:=ab_ (hc.resolve_left e) hu
    omega
  generalize hn:jM (c::r)=n at h1 h2 h3 h5;dsimp only;have emx:(if i64.wrap ((n:Int)-1)>1 then i64.wrap ((n:Int)-1)else 1)=((n-1:Nat):Int):=by rw[wrap_i64 (by omega) (by omega)];split<;>omega
  rw[emx];have hin:(((c::r:ag).drop (Int.toNat 1)).take (Int.toNat ((n-1:Nat):Int)-Int.toNat 1))=r.take (r.length-t.length-1):=by
   rw[b6];show r.take (n-1-1)=_
   congr 1;omega
  have e2:r.length+1-t.length=n:=by omega
  rw[e2];have put:∀(tt:ag) (w6:World),w6=w1->tt.length<=r.length->aq oE #[.pointer (some ⟨g,0,none⟩),EV (tx true tt) (.slice none 0 0),.int .i64 (n:Int)] w6 (λed w7=>(ed=.returned (.tuple #[])/\A2 w g B l false (30-(L:Int)) (c::r) (.ok ([tx true tt],n)) (.returned (.int .i64 0)) w7)\/(∃ch,ed=.panicked ch/\A2 w g B l false (30-(L:Int)) (c::r) (.ok ([tx true tt],n)) (.panicked ch) w7)):=by rintro tt _ rfl WN;refine(wU (x:=tx true tt) (n:=n) aHc aHL hg (by omega) (cD.nil _ _ _ _) (by simp only[bf];omega) (by rw[yR];omega)).mono ?_;rintro _ w7 ⟨rfl,h7,m7⟩;exact .inl ⟨rfl,⟨rfl,h7⟩,s1.mp.trans m7⟩
  refine aA (λh=>absurd (aR h) (by omega)) (λ_=>⟨c::r,aHc.text,by decide,by omega,by simp only[bf];omega,?_⟩);rw[hin];refine⟨_,aHc.text,by decide,c,rfl,aA (λh=>?_) (λh=>aA (λqx=>?_) (λqx=>?_))⟩
  .have h:c=92:=aHi.1 (aR h)
   obtain⟨b,rfl⟩:=kQ h;rw[aL h];simp only[bf]at h1;have hn2:n=2:=by omega
   rw[hn2]at put⊢;exact⟨_,aHc.text,by decide,by decide,by simp only[bf];omega,put [b] w1 rfl (by simp)⟩
  .have h:¬c=92:=λe=>aX h (aHi.2 e)
   have qx:c=34:=aHi.1 (aR qx);rw[aG h,aL qx];refine⟨_,by rw[aHa];exact aHc.depth,aQ λw3 r3 s3 z3=>?_⟩;generalize V0:r.take (r.length-t.length-1)=inner;have hil:inner.length<=r.length-1-t.length:=by rw[<-V0,aHl];omega
   rw[V0]at r3;have hy:PS w3 w1.heap.size (w1.heap.size+1) inner [] true (30-(L:Int)):=⟨_,r3,iq.nil _ _⟩;refine(afx hL (q:=true) (λe=>by cases e) hy (by omega) (by omega) (by omega) (by simp only[cG];omega) (λe=>nb (BO _ (Kk (V0.symm▸e))))).mono ?_;rintro e4 w4 ⟨h4,m4⟩;have JP:Still w1 w4:=Mod.trans s3 m4 (λ_ h=>h) λk hk e=>by omega
   have hr4:cX w4 g _ v false _:=aHc.still JP;have qt:=aHL.still JP;have ayA:aHr (gZ true L) (inner.length+1) [] inner=aHr (nN (ef L)) (inner.length+1) [] inner:=rfl;rw[ayA]at h4;cases hlp:aHr (nN (ef L)) (inner.length+1) [] inner with
   |bad k=>
    rw[hlp]at h4;obtain⟨rfl,_⟩:=h4;have hk:k≠0:=λe=>L5 (Gv _) (S0 (CD L)) _ _ _ (aHP _) (by rw[hlp,e]);have hd:qi (ef L) inner=.bad k:=by unfold qi;rw[aG,hlp];rintro rfl;cases hlp
    rw[hd];refine .inl ⟨_,rfl,aA (λ_=>⟨⟨rfl,_,_,hr4⟩,(s1.trans JP).mp⟩) (λhh=>absurd (nf hh) (by omega))⟩
   |ok l0=>
    rw[hlp]at h4;obtain⟨rfl,hy4⟩:=h4;refine .inl ⟨_,rfl,aA (λhh=>absurd rfl (nt hh)) (λ_=>?_)⟩;obtain⟨l2,hd,jQ⟩:∃l2,qi (ef L) inner=.ok l2/\cG l2<=12*inner.length+8:=by
     cases hd:qi (ef L) inner with
     |ok l2=>exact⟨l2,rfl,aej (MF L) hd⟩
     |bad k=>
      exfalso;unfold qi at hd;split at hd
      .cases hd
      .rw[hlp]at hd;cases hd
    rw[hd]
    -- the parts within
    refine⟨λw6=>(∃v6,cX w6 w1.heap.size [] v6 true (30-(L:Int))/\iq w6 (w1.heap.size+1) l2 v6)/\Still w1 w6,aA (λh6=>?_) (λh6=>?_),?_⟩
    .have h6:inner=[]:=aR h6
     subst h6;obtain rfl:l0=[]:=by injection hlp with hlp;exact hlp.symm
     obtain rfl:l2=[tx true []]:=by injection hd with hd;exact hd.symm
     obtain⟨v4,kG,rA⟩:=hy4;have z4:w1.heap.size<w4.heap.size:=kG.lt;refine(wU (x:=.mk 0 false [] [] [] []) (vw:=.slice none 0 0) (n:=0) kG rA (by omega) (by omega) (cD.nil _ _ _ _) (by simp) (by simp[cG,Pt.wt])).mono ?_;rintro _ w5 ⟨rfl,h5,m5⟩;refine .inl ⟨rfl,h5,Mod.trans JP m5 (λ_ h=>h) λk hk e=>by omega⟩
    .have h6:¬inner=[]:=aX h6
     have:l2=l0:=by unfold qi at hd;rw[aG h6,hlp]at hd;injection hd with hd;exact hd.symm
     subst this;exact⟨hy4,JP⟩
    rintro _ w6 ⟨⟨v6,ahm,aKR⟩,s6⟩;obtain⟨p6,c6,xs6,rfl,ayB,aAg⟩:=aKR;have aKR:iq w6 (w1.heap.size+1) l2 (.slice p6 l2.length c6):=⟨p6,c6,xs6,rfl,ayB,aAg⟩;have aAh:=aKR.sl;have z6:w1.heap.size<w6.heap.size:=ahm.lt;have aF8:=aKr l2;refine⟨p6,l2.length,c6,ahm.aj rfl,λx1 w7=>∃k:Nat,x1=(k:Int)/\k<=l2.length/\(∃v7,cX w7 g (c::r) v7 false (30-(L:Int))/\iq w7 B ((l2.take k).foldl fP l) v7/\∀j,v7.ownBlock=some j->j<w1.heap.size\/w6.heap.size<=j)/\cD w7 (λj=>w1.heap.size+1<=j/\j<w6.heap.size) l2 (.slice p6 l2.length c6)/\MP g B w1 w7/\w6.heap.size<=w7.heap.size,λx1 _=>l2.length-x1.toNat,⟨0,rfl,dK _,⟨v,aHc.still s6,aHL.still s6,λj hj=>.inl (aHL.mQ hj).2⟩,aAh,s6.mp,aV _⟩,?_⟩;rintro _ _ w7 ⟨k,rfl,hk,⟨v7,xS,zj,V2⟩,ahn,m7,z7⟩;refine aA (λhx=>?_) (λhx=>?_);rotate_left
    .have hx:k=l2.length:=by have:=aX hx;omega
     rw[hx,oD]at zj;refine⟨_,xS.text,by omega,by simp only[bf];omega,?_⟩;rw[b6];refine aHb xS λbE gP m12 z12=>⟨⟨rfl,v7,gP,zj.mod m12 λj hj _ e=>by omega⟩,(s1.mp.trans m7).trans (m12.weaken λj hj=>.inl hj)⟩
    have hx:k<l2.length:=by have:=aR hx;omega
    obtain⟨b,wp,wc,rfl,c0,c1,c2,c3,c4,c5,hsw⟩:=ahn.fields hx;rw[b6];refine⟨by omega,by omega,_,_,_,_,_,_,_,_,c0,c1,c2,c3,c4,c5,xu rfl ahl λw9 r9 s9 z9=>?_⟩;have sd:Still w7 w9.drew:=s9.cy;have rd:=r9.still (iH w9);have pQ:cX w9.drew g (c::r) v7 false (30-(L:Int)):=xS.still sd;have mz:=zj.still sd;have zd:=sd.size;obtain⟨p9,c9,xs9,rfl,ayC,aAi⟩:=mz;have mz:iq w9.drew B ((l2.take k).foldl fP l) (.slice p9 ((l2.take k).foldl fP l).length c9):=⟨p9,c9,xs9,rfl,ayC,aAi⟩;have hwf:=Mh (l2.take k) l;have hwt:=aeA hx;refine⟨λwq=>wq=w9.drew,rfl,p9,((l2.take k).foldl fP l).length,c9,λwq hq=>by subst hq;rw[aHa];exact pQ.aj rfl,_,_,_,_,_,_,_,_,λwq hq=>by subst hq;exact rd.aj rfl,λwq hq=>by subst hq;exact rd.aj rfl,λwq hq=>by subst hq;exact rd.aj rfl,λwq hq=>by subst hq;exact rd.aj rfl,λwq hq=>by subst hq;exact rd.aj rfl,λwq hq=>by subst hq;exact rd.aj rfl,?_⟩;refine(G8 (x:=l2[k]) mz (by omega) ((hsw.still sd).mono λj hj=>⟨by omega,by omega,λe=>by rcases V2 j e with e|e<;>omega⟩) (by omega)).mono ?_;rintro _ aO ⟨v10,rfl,V3,m10,yV⟩;obtain⟨xW,c10,aAj,rfl,axN,ayD⟩:=V3;have V3:iq aO B (fP ((l2.take k).foldl fP l) l2[k]) (.slice xW (fP ((l2.take k).foldl fP l) l2[k]).length c10):=⟨xW,c10,aAj,rfl,axN,ayD⟩;have tH:cX aO g (c::r) (.slice p9 ((l2.take k).foldl fP l).length c9) false (30-(L:Int)):=pQ.mod m10 λe=>by have:=(mz.mQ e).1;omega
    refine .inl ⟨_,_,_,rfl,?_⟩;show cJ ((Addr.mk g 0 none).add 1) _ _ _ _
    rw[aHa];refine aHb tH λbh aHz m11 zG=>?_;rw[show i64.wrap ((k:Int)+1)=((k+1:Nat):Int) by rw[wrap_i64 (by omega) (by omega)];omega];have aIs:=m10.size;refine⟨⟨k+1,rfl,hx,⟨_,aHz,?_,λj hj=>?_⟩,?_,?_,?_⟩,by dsimp only;omega⟩
    .rw[atl hx]
     exact V3.mod m11 λj hj _ e=>by omega
    .rcases yV j hj with e|e
     .exact V2 j e
     ·right;omega
    .refine((ahn.still sd).mod m10 λj hj e=>?_).mod m11 λj hj e=>?_
     .rcases V2 j e with e|e<;>omega
     .omega
    .exact((m7.still sd).trans (m10.weaken λj hj=>.inr (mz.mQ hj).1)).trans (m11.weaken λj hj=>.inl hj)
    .omega
  .have h:¬c=92:=λe=>aX h (aHi.2 e)
   have qx:¬c=34:=λe=>aX qx (aHi.2 e);rw[aG h,aG qx];exact put _ w1 rfl (by rw[aHl];omega)
def au9{L:Nat}(hL:L<=30):axM (L+1):=by
 intro w s hs nb;have e1:(31:Int)-((L+1:Nat):Int)=30-(L:Int):=by omega
 rw[e1];apply anu;refine aA (λh=>absurd (aR h) (by omega)) (λ_=>aQ λw1 r1 s1 z1=>?_);have hp:PS w1 w.heap.size (w.heap.size+1) s [] false (30-(L:Int)):=⟨_,r1,iq.nil _ _⟩;refine(afx (by omega) (q:=false) (λ_=>au8 (by omega)) hp (by omega) (by omega) hs (by simp only[cG];omega) nb).mono ?_;rintro e2 w2 ⟨h2,m2⟩;have s2:Still w w2:=Mod.trans s1 m2 (λ_ h=>h) λk hk e=>by omega
 have hlp:aHr (gZ false L) (s.length+1) [] s=ef (L+1) s:=rfl;rw[hlp]at h2;unfold jw;cases hw:ef (L+1) s with
 |bad k=>rw[hw]at h2;obtain⟨rfl,_⟩:=h2;have hk:k≠0:=λe=>CD (L+1) s (by rw[hw,e]);exact .inl ⟨_,rfl,aA (λ_=>⟨rfl,s2⟩) (λhh=>absurd (nf hh) (by omega))⟩
 |ok l=>rw[hw]at h2;obtain⟨rfl,v,hr2,cc⟩:=h2;obtain⟨p,c,xs,rfl,hown,hcs⟩:=cc;have cc:iq w2 (w.heap.size+1) l (.slice p l.length c):=⟨p,c,xs,rfl,hown,hcs⟩;exact .inl ⟨_,rfl,aA (λhh=>absurd rfl (nt hh)) (λ_=>⟨_,_,_,hr2.aj rfl,⟨_,rfl,cc.sl.mono λk hk=>⟨by omega,hk.2⟩⟩,s2⟩)⟩
def abu(s:ag)(hs:s.length<1000000)(nb:123∉s):aq Lf #[.string (S s)] w (jw w s 30):=by
 apply ant;refine(au9 (L:=29) (by decide) w s hs nb).mono ?_;rintro e w1 h;unfold jw at h⊢;obtain⟨h,s1⟩:=h;cases hw:ef 30 s with
 |bad k=>rw[hw]at h;exact .inl ⟨_,_,_,_,h,rfl,s1⟩
 |ok l=>rw[hw]at h;obtain⟨v,rfl,fM⟩:=h;obtain⟨p,c,rfl⟩:=fM.form;exact .inl ⟨_,_,_,_,rfl,⟨_,rfl,fM⟩,s1⟩
def dz.tr{g:Nat}{a b c:World}(h:dz g a b)(k:dz g b c):dz g a c:=Mod.trans h k (λ_ h=>h) (λ_ _ h=>h)
def SyW(w:World)(g:Nat)(r:Rs (List Pt×Ts))(e:Ending)(w':World):Prop:=dz g w w'/\match r with
 |.ok x=>∃v,e=.returned v/\cD w' (λk=>w.heap.size<=k/\k<w'.heap.size) x.1 v/\Pz w' g x.2
 |.bad k=>e=.panicked (k7 k)
def abv{g:Nat}{s:Ts}(h:Pz w g s)(hb:TB s):aq FX #[.pointer (some ⟨g,0,none⟩)] w (SyW w g (pn s)):=by
 apply akE;refine(Al h 0).mono ?_;rintro _ w1 ⟨rfl,s1⟩;refine .inl ⟨_,_,rfl,agf (λhk=>?_) (λhk=>⟨s1.only,?_⟩)⟩
 .have hk:=aR hk
  obtain⟨k,t,r,rfl⟩:∃k t r,s=(k,t)::r:=by
   cases s with
   |nil=>exact absurd hk (by decide)
   |cons x r=>exact⟨x.1,x.2,r,rfl⟩
  have hk:(k:Int)=0:=hk;obtain rfl:k=0:=by omega
  refine(LR (h.still s1)).mono ?_;rintro _ w2 ⟨rfl,o2,h2⟩;have o12:dz g w w2:=s1.only.tr o2;have hz:=s1.size;have jz:=o2.size;refine .inl ⟨_,_,rfl,(abu t hb.head.1 hb.af2).mono ?_⟩;rintro e3 w3 ⟨hp,s3⟩;have hpf:pn ((0,t)::r)=(ef 30 t).and λl=>.ok (l,r):=rfl;cases hw:ef 30 t with
  |bad j=>rw[hw]at hp;have hj:j≠0:=λe=>CD 30 t (by rw[hw,e]);refine .inl ⟨_,_,_,_,hp,(LH j).mono ?_⟩;rintro _ w4 ⟨rfl,rfl⟩;rw[aG hj];refine .inr ⟨_,rfl,o12.tr s3.only,?_⟩;rw[hpf,hw];rfl
  |ok l=>rw[hw]at hp;obtain⟨v,rfl,fM⟩:=hp;obtain⟨p,c,rfl⟩:=fM.form;have hf:=LH (w:=w3) 0;rw[aL rfl]at hf;refine .inl ⟨_,_,_,_,rfl,hf.mono ?_⟩;rintro _ w4 ⟨rfl,rfl⟩;refine .inl ⟨rfl,o12.tr s3.only,?_⟩;rw[hpf,hw];exact⟨_,rfl,fM.mono λk hk=>⟨by omega,hk.2⟩,h2.still s3⟩
 .have hk:=aX hk
  have:pn s=.bad 100:=by
   cases s with
   |nil=>rfl
   |cons x r=>simp only[pn];rw[aG];intro e;exact hk (by simp[e])
  rw[this]
def SyR(w:World)(g:Nat)(r:Rs ((ag×List Pt)×Ts))(e:Ending)(w':World):Prop:=dz g w w'/\match r with
 |.ok x=>∃v,e=.returned (.agg #[.string (S x.1.1),v])/\cD w' (λk=>w.heap.size<=k/\k<w'.heap.size) x.1.2 v/\Pz w' g x.2
 |.bad k=>e=.panicked (k7 k)
def aru{g:Nat}{s:Ts}(h:Pz w g s)(hb:TB s)(hs:s≠[]):aq FW #[.pointer (some ⟨g,0,none⟩)] w (SyR w g (u_ s)):=by
 apply akA;obtain⟨x,r,rfl⟩:=aJj hs;have hg:=h.lt;refine aQ λw1 r1 s1 z1=>(LR (h.still s1)).mono ?_;rintro _ w2 ⟨rfl,o2,h2⟩;have jz:=o2.size;refine .inl ⟨_,_,rfl,(abv h2 hb.tail).mono ?_⟩;rintro e3 w3 ⟨o3,hp⟩;have vO:=o3.size;have hrf:u_ (x::r)=(pn r).and λy=>.ok ((x.2,y.1),y.2):=rfl;have Dr:dz g w w3:=(s1.only.tr o2).tr o3;cases hw:pn r with
 |bad j=>rw[hw]at hp;refine .inr ⟨_,hp,Dr,?_⟩;rw[hrf,hw];rfl
 |ok y=>rw[hw]at hp;obtain⟨v,rfl,fM,h3⟩:=hp;obtain⟨p,c,rfl⟩:=fM.form;refine .inl ⟨_,_,_,rfl,?_⟩;have r3:=(r1.mod o2 (by omega)).mod o3 (by omega);refine aHb r3 λw4 r4 m4 z4=>⟨_,_,_,_,r4.aj rfl,r4.aj rfl,Mod.trans Dr m4 (λ_ h=>h) (λi hi e=>by omega),?_⟩;rw[hrf,hw];exact⟨_,rfl,(fM.mod m4 λk hk e=>by omega).mono λk hk=>⟨by omega,by omega⟩,h3.mod m4 λk hk e=>by omega⟩
def arv(s:ag):aq DL #[.string (S s),.string (S [61])] w (λe w'=>e=.returned (.tuple #[.string (S (if s.head?=some 61 then s.drop 1 else s)),.bool (decide (s.head?=some 61))])/\w'=w):=by
 apply Yn;have ep:pf [61] s=decide (s.head?=some 61):=by
  rw[Lh];cases s with
  |nil=>rfl
  |cons c r=>rw[sZ];simp[List.isPrefixOf];exact eq_comm
 have h:aq J2 #[.string (S s),.string (S [61])] w (λe w'=>e=.returned (.tuple #[.string (S (if s.head?=some 61 then s.drop 1 else s)),.bool (decide (s.head?=some 61))])/\w'=w):=by
  apply XU;refine(Tryz.stringslite_HasPrefix (S s) (S [61]) _).mono ?_;rintro _ w1 ⟨rfl,rfl⟩;have e2:Lib.hasPrefix (S s).data.toList (S [61]).data.toList=pf [61] s:=(Lh _ _).symm;rw[e2,ep];refine .inl ⟨_,rfl,aA (λh=>?_) (λh=>?_)⟩
  .have h:¬s.head?=some 61:=by simpa using h
   rw[aG h,eX h];exact⟨rfl,rfl⟩
  .have h:s.head?=some 61:=by simpa using h
   rw[aL h,fe h];have hl:1<=s.length:=by
    cases s with
    |nil=>cases h
    |cons c r=>simp
   exact⟨by decide,by simp only[bf,aHf];omega,rfl,rfl⟩
 refine h.mono ?_;rintro _ w1 ⟨rfl,rfl⟩;exact .inl ⟨_,_,rfl,rfl,rfl⟩
def aJf(s:Ts):Option (Rs ((ag×List Pt)×Ts)):=match s with
 |(_,t)::r=>(aIY t).map λy=>(ef 30 y.2).and λl=>.ok ((y.1,l),r)
 |[]=>none
def SyA(w:World)(g:Nat)(s:Ts)(e:Ending)(w':World):Prop:=dz g w w'/\match aJf s with
 |none=>∃t p n c,e=.returned (.tuple #[.agg #[.string (S t),.slice p n c],.bool false])/\Pz w' g s
 |some (.ok x)=>∃p c,e=.returned (.tuple #[.agg #[.string (S x.1.1),.slice p x.1.2.length c],.bool true])/\cD w' (λk=>w.heap.size<=k/\k<w'.heap.size) x.1.2 (.slice p x.1.2.length c)/\Pz w' g x.2
 |some (.bad k)=>e=.panicked (k7 k)
def anW{g:Nat}{k:Nat}{t:ag}{r:Ts}(h:Pz w g ((k,t)::r))(hb:TB ((k,t)::r)):aq PI #[.pointer (some ⟨g,0,none⟩)] w (SyA w g ((k,t)::r)):=by
 apply ajU;have hg:=h.lt;have hnl:=aIS t;refine aQ λw1 r1 s1 z1=>(Al (h.still s1) 0).mono ?_;rintro _ w2 ⟨rfl,s2⟩;refine .inl ⟨_,_,rfl,(SV t hb.head.1).mono ?_⟩;rintro _ w3 ⟨rfl,s3⟩;have iE:=(s1.trans s2).trans s3;have aF9:=iE.size;have aF_:=s2.size;have aGa:=s3.size;refine .inl ⟨_,rfl,aHb ((r1.still s2).still s3) λw4 r4 m4 z4=>?_⟩;have htl:(t.take (bV t)).length=bV t:=by rw[aHl];omega
 have s4:Still w w4:=iE.box (aV _) m4;have h4:Pz w4 g ((k,t)::r):=h.still s4;refine⟨_,r4.aj rfl,by omega,by simp only[QU,PN];omega,?_⟩;rw[b6,htl];refine(arv (t.drop (bV t))).mono ?_;rintro _ w5 ⟨rfl,rfl⟩;have hhd:(t.drop (bV t)).head?=t[bV t]?:=by rw[List.head?_drop]
 -- none
 have none:aIY t=none->∀(t1:ag) (w6:World),Row w6 w.heap.size 208 ⟨[.string (S t1),.slice none 0 0]⟩->Still w w6->SyA w g ((k,t)::r) (.returned (.tuple #[.agg #[.string (S t1),.slice none 0 0],.bool false])) w6:=by
  intro hno t1 w6 r6 s6;refine⟨s6.only,?_⟩;have:aJf ((k,t)::r)=.none:=by simp only[aJf,hno,Q4]
  rw[this];exact⟨_,_,_,_,rfl,h.still s6⟩
 refine .inl ⟨_,_,rfl,aA (λhx=>?_) (λhx=>?_)⟩
 .have hx:¬(t.drop (bV t)).head?=some 61:=nt hx
  refine⟨_,_,_,_,r4.aj rfl,r4.aj rfl,dO r4 (by simp[fh]) (by simp[Value.oneCell']) λw6 r6 m6 z6=>⟨_,_,_,_,r6.aj rfl,r6.aj rfl,?_⟩⟩;refine none ?_ _ w6 r6 (s4.box (aV _) m6);unfold aIY;rw[aG];rintro⟨_,e⟩;exact hx (by rw[hhd];exact e)
 have hx:(t.drop (bV t)).head?=some 61:=nf hx;refine⟨_,r4.aj rfl,aA (λhn=>?_) (λhn=>?_)⟩
 .have hn:t.take (bV t)=[]:=aR hn
  rw[hn,aHf]at htl;refine⟨_,_,_,_,r4.aj rfl,r4.aj rfl,dO r4 (by simp[fh]) (by simp[Value.oneCell']) λw6 r6 m6 z6=>⟨_,_,_,_,r6.aj rfl,r6.aj rfl,?_⟩⟩;refine none ?_ _ w6 r6 (s4.box (aV _) m6);unfold aIY;rw[aG];rintro⟨e,_⟩;omega
 have hn:t.take (bV t)≠[]:=aX hn;have hn0:0<bV t:=by
  rcases oB (bV t)with e|e
  .rw[e]at hn
   exact absurd rfl hn
  .exact e
 have aAk:aIY t=some (t.take (bV t),t.drop (bV t+1)):=by unfold aIY;rw[aL ⟨hn0,by rw[<-hhd];exact hx⟩]
 have hres:aJf ((k,t)::r)=some ((ef 30 (t.drop (bV t+1))).and λl=>.ok ((t.take (bV t),l),r)):=by simp only[aJf,aAk,Gc]
 have e5:(if(t.drop (bV t)).head?=some 61 then(t.drop (bV t)).drop 1 else t.drop (bV t))=t.drop (bV t+1):=by rw[aL hx,B0]
 rw[e5];have htb:=hb.head.1;refine(abu (t.drop (bV t+1)) (by rw[ig];omega) λe=>hb.af2 (FV e)).mono ?_;rintro e6 w6 ⟨hp,s6⟩;have Jv:=s6.size;have BC:=s4.size;have je:=s4.trans s6;cases hw:ef 30 (t.drop (bV t+1))with
 |bad j=>rw[hw]at hp;have hj:j≠0:=λe=>CD 30 _ (by rw[hw,e]);refine .inl ⟨_,_,_,_,hp,(LH j).mono ?_⟩;rintro _ w7 ⟨rfl,rfl⟩;rw[aG hj];refine .inr ⟨_,rfl,je.only,?_⟩;rw[hres,hw];rfl
 |ok l=>rw[hw]at hp;obtain⟨v,rfl,fM⟩:=hp;obtain⟨p,c,rfl⟩:=fM.form;have hf:=LH (w:=w6) 0;rw[aL rfl]at hf;refine .inl ⟨_,_,_,_,rfl,hf.mono ?_⟩;rintro _ w7 ⟨rfl,rfl⟩;refine .inl ⟨rfl,dO (r4.still s6) (by simp[fh]) (by simp[Value.oneCell']) λw8 r8 m8 z8=>?_⟩;have s8:Still w w8:=je.box (aV _) m8;refine(LR (h.still s8)).mono ?_;rintro _ w9 ⟨rfl,o9,h9⟩;have Fg:=o9.size;have r9:=r8.mod o9 (by omega);refine .inl ⟨_,_,rfl,_,_,_,_,r9.aj rfl,r9.aj rfl,dO r9 (by simp[fh]) (by simp[Value.oneCell']) λaO eB m10 aIs=>⟨_,_,_,_,eB.aj rfl,eB.aj rfl,Mod.trans (s8.only.tr o9) m10 (λ_ h=>h) (λi hi e=>by omega),?_⟩⟩;rw[hres,hw];exact⟨p,c,rfl,(((fM.mod m8 λk hk e=>by omega).mod o9 λk hk e=>by omega).mod m10 λk hk e=>by omega).mono λk hk=>⟨by omega,by omega⟩,h9.mod m10 λk hk e=>by omega⟩
def Ds(w:World)(g:Nat)(r:Rs (Nd×Ts))(e:Ending)(w':World):Prop:=dz g w w'/\match r with
 |.ok x=>∃cs,e=.returned (.agg ⟨cs⟩)/\ey w' (λk=>w.heap.size<=k/\k<w'.heap.size) x.1 cs/\Pz w' g x.2
 |.bad k=>e=.panicked (k7 k)
def aAl(f:FuncId)(args:Array Value)(gn:Nat)(w1:World)(K:World->Prop)(R:Ending->World->Prop):Prop:=
 ∃Sw:World->Prop,Sw w1.drew/\∃(v:Option Addr) (vL vC:Nat),(∀wq:World,Sw wq->wq.cell? (Addr.mk gn 7 none)=some (.slice v vL vC))/\aq f args w1.drew (λed w5=>(∃dh:Int,∃nY:Bool,∃rName:List UInt8,∃(nJ:Option Addr) (nE aHT:Nat),∃(nB:Option Addr) (nv aHQ:Nat),∃(nG:Option Addr) (aHS nD:Nat),∃(nZ:Option Addr) (nO nP:Nat),∃(nQ:Option Addr) (nK nL:Nat),ed=.returned (.agg #[(.int .i64 dh),(.bool nY),(.string (S rName)),(.slice nJ nE aHT),(.slice nB nv aHQ),(.slice nG aHS nD),(.slice nZ nO nP),(.slice nQ nK nL)])/\Sw w5/\c7 (w5.alloc (.cells #[(.int .i64 dh),(.bool nY),(.string (S rName)),(.slice nJ nE aHT),(.slice nB nv aHQ),(.slice nG aHS nD),(.slice nZ nO nP),(.slice nQ nK nL)] 66)) (λ(w6:World)=>Sw w6/\dL w6 66 8 152 v vL vC (some (Addr.mk w5.heap.size 0 none)) 1 (λ(p1:Option Addr) (cp:Nat) (w7:World)=>cJ (Addr.mk gn 7 none) K 0 [(.slice p1 (vL+1) cp)] w7)))\/(∃ch,ed=.panicked ch/\R (.panicked ch) w5))
def S2{w0 w1:World}{g gn B:Nat}{X:Nat->Prop}{x:Nd}{vw va vr vo vk:Value}(nb:NB w0 w1 g gn B X x vw va vr vo vk){f:FuncId}{args:Array Value}{r:Rs (Nd×Ts)}(HZ:aq f args w1.drew (Ds w1.drew g r))(hn:x.ks.length<1000000){K:World->Prop}{R:Ending->World->Prop}
  (IY:∀k w',r=.bad k->dz g w0 w'->R (.panicked (k7 k)) w')(hok:∀y vk' w' X',r=.ok y->NB w0 w' g gn B X' (x.N6 y.1) vw va vr vo vk'->Pz w' g y.2->Mod (λk=>k=g\/B<=k) w1 w'->K w'):aAl f args gn w1 K R:=by
 obtain⟨p,c,rfl⟩:=nb.ok.form;have wh:=nb.still (iH w1);refine⟨λwq=>wq.cell? (Addr.mk gn 7 none)=some (.slice p x.ks.length c),wh.row.aj rfl,p,x.ks.length,c,λ_ h=>h,?_⟩;refine(HZ).mono ?_;rintro e5 w5 ⟨o5,hp⟩;have rF:=wh.on o5;cases hr:r with
 |bad k=>rw[hr]at hp;exact .inr ⟨_,hp,IY k w5 hr rF.only⟩
 |ok y=>rw[hr]at hp;obtain⟨cs,rfl,hnd,h5⟩:=hp;obtain⟨pw,cw,pa,ca,pr,cr,po,co,pk,ck,rfl,_⟩:=hnd.outs;refine .inl ⟨_,_,_,_,_,_,_,_,_,_,_,_,_,_,_,_,_,_,rfl,rF.row.aj rfl,NB.N6 (x:=x) (y:=y.1) wh o5 hnd hn λp' c' w' X' BH hm=>?_⟩;have hB:=nb.hB;have hg:=nb.hg;exact hok y _ w' X' hr BH (h5.mod hm λk hk hb=>by omega) (Mod.trans (Mod.trans ((iH w1).weaken λ_ h=>h.elim) o5 (λ_ h=>h) (λ_ _ h=>.inl h)) hm (λ_ h=>h) (λ_ _ h=>.inr h))
def ayE(g gn:Nat)(w1:World)(K:World->Prop)(R:Ending->World->Prop):Prop:=
 ∃Sw:World->Prop,Sw w1.drew/\∃(v:Option Addr) (vL vC:Nat),(∀wq:World,Sw wq->wq.cell? (Addr.mk gn 3 none)=some (.slice v vL vC))/\aq FX #[.pointer (some ⟨g,0,none⟩)] w1.drew (λed w5=>(∃(r:Option Addr) (rL rC:Nat),ed=.returned (.slice r rL rC)/\Sw w5/\c7 (w5.alloc (.cells #[(.slice r rL rC)] 49)) (λ(w6:World)=>Sw w6/\dL w6 49 1 24 v vL vC (some (Addr.mk w5.heap.size 0 none)) 1 (λ(p1:Option Addr) (cp:Nat) (w7:World)=>cJ (Addr.mk gn 3 none) K 0 [(.slice p1 (vL+1) cp)] w7)))\/(∃ch,ed=.panicked ch/\R (.panicked ch) w5))
def arw{w0 w1:World}{g gn B:Nat}{X:Nat->Prop}{x:Nd}{vw va vr vo vk:Value}(nb:NB w0 w1 g gn B X x vw va vr vo vk){s:Ts}(hz:Pz w1 g s)(hb:TB s)(hn:x.ws.length<1000000){K:World->Prop}{R:Ending->World->Prop}
  (IY:∀k w',pn s=.bad k->dz g w0 w'->R (.panicked (k7 k)) w')(hok:∀y vw' w' X',pn s=.ok y->NB w0 w' g gn B X' (x.N4 y.1) vw' va vr vo vk->Pz w' g y.2->Mod (λk=>k=g\/B<=k) w1 w'->K w'):ayE g gn w1 K R:=by
 obtain⟨p,c,rfl⟩:=nb.ow.form;have wh:=nb.still (iH w1);refine⟨λwq=>wq.cell? (Addr.mk gn 3 none)=some (.slice p x.ws.length c),wh.row.aj rfl,p,x.ws.length,c,λ_ h=>h,?_⟩;refine(abv (hz.still (iH w1)) hb).mono ?_;rintro e5 w5 ⟨o5,hp⟩;have rF:=wh.on o5;cases hr:pn s with
 |bad k=>rw[hr]at hp;exact .inr ⟨_,hp,IY k w5 hr rF.only⟩
 |ok y=>rw[hr]at hp;obtain⟨v,rfl,fM,h5⟩:=hp;obtain⟨q,d,rfl⟩:=fM.form;refine .inl ⟨_,_,_,rfl,rF.row.aj rfl,NB.N4 (x:=x) (y:=y.1) wh o5 ⟨_,rfl,fM⟩ hn λp' c' w' X' BH hm=>?_⟩;have hB:=nb.hB;have hg:=nb.hg;exact hok y _ w' X' hr BH (h5.mod hm λk hk hb=>by omega) (Mod.trans (Mod.trans ((iH w1).weaken λ_ h=>h.elim) o5 (λ_ h=>h) (λ_ _ h=>.inl h)) hm (λ_ h=>h) (λ_ _ h=>.inr h))
def aAm(g gn:Nat)(w1:World)(K:World->Prop)(R:Ending->World->Prop):Prop:=
 ∃Sw:World->Prop,Sw w1.drew/\∃(v:Option Addr) (vL vC:Nat),(∀wq:World,Sw wq->wq.cell? (Addr.mk gn 5 none)=some (.slice v vL vC))/\aq FW #[.pointer (some ⟨g,0,none⟩)] w1.drew (λed w5=>(∃zv:List UInt8,∃(yO:Option Addr) (yE yF:Nat),ed=.returned (.agg #[(.string (S zv)),(.slice yO yE yF)])/\Sw w5/\c7 (w5.alloc (.cells #[(.string (S zv)),(.slice yO yE yF)] 138)) (λ(w6:World)=>Sw w6/\dL w6 138 2 40 v vL vC (some (Addr.mk w5.heap.size 0 none)) 1 (λ(p1:Option Addr) (cp:Nat) (w7:World)=>cJ (Addr.mk gn 5 none) K 0 [(.slice p1 (vL+1) cp)] w7)))\/(∃ch,ed=.panicked ch/\R (.panicked ch) w5))
def atm{w0 w1:World}{g gn B:Nat}{X:Nat->Prop}{x:Nd}{vw va vr vo vk:Value}(nb:NB w0 w1 g gn B X x vw va vr vo vk){s:Ts}(hz:Pz w1 g s)(hb:TB s)(hs:s≠[])(hn:x.rs.length<1000000){K:World->Prop}{R:Ending->World->Prop}
  (IY:∀k w',u_ s=.bad k->dz g w0 w'->R (.panicked (k7 k)) w')(hok:∀y vr' w' X',u_ s=.ok y->NB w0 w' g gn B X' (x.aJF y.1) vw va vr' vo vk->Pz w' g y.2->Mod (λk=>k=g\/B<=k) w1 w'->K w'):aAm g gn w1 K R:=by
 obtain⟨p,c,rfl⟩:=nb.ord.form;have wh:=nb.still (iH w1);refine⟨λwq=>wq.cell? (Addr.mk gn 5 none)=some (.slice p x.rs.length c),wh.row.aj rfl,p,x.rs.length,c,λ_ h=>h,?_⟩;refine(aru (hz.still (iH w1)) hb hs).mono ?_;rintro e5 w5 ⟨o5,hp⟩;have rF:=wh.on o5;cases hr:u_ s with
 |bad k=>rw[hr]at hp;exact .inr ⟨_,hp,IY k w5 hr rF.only⟩
 |ok y=>rw[hr]at hp;obtain⟨v,rfl,fM,h5⟩:=hp;obtain⟨q,d,rfl⟩:=fM.form;refine .inl ⟨_,_,_,_,rfl,rF.row.aj rfl,NB.aJF (x:=x) (y:=y.1) wh o5 ⟨_,rfl,fM⟩ hn λp' c' w' X' BH hm=>?_⟩;have hB:=nb.hB;have hg:=nb.hg;exact hok y _ w' X' hr BH (h5.mod hm λk hk hb=>by omega) (Mod.trans (Mod.trans ((iH w1).weaken λ_ h=>h.elim) o5 (λ_ h=>h) (λ_ _ h=>.inl h)) hm (λ_ h=>h) (λ_ _ h=>.inr h))
def axO(a:Addr)(gr:Nat)(w:World)(R:Ending->World->Prop):Prop:=
 ∃cH:Int,∃fK:Bool,∃cC:List UInt8,∃(aHx:Option Addr) (fA fB:Nat),∃(aHv:Option Addr) (aHt aHu:Nat),∃(aHw:Option Addr) (fu fy:Nat),∃(aHy:Option Addr) (fG fH:Nat),∃(fI:Option Addr) (fE fF:Nat),w.cell? a=some (.int .i64 cH)/\w.cell? (a.add 1)=some (.bool fK)/\w.cell? (a.add 2)=some (.string (S cC))/\w.cell? (a.add 3)=some (.slice aHx fA fB)/\w.cell? (a.add 4)=some (.slice aHv aHt aHu)/\w.cell? (a.add 5)=some (.slice aHw fu fy)/\w.cell? (a.add 6)=some (.slice aHy fG fH)/\w.cell? (a.add 7)=some (.slice fI fE fF)/\cJ (Addr.mk gr 0 none) (λ(w7:World)=>∃eY:Int,∃kA:Bool,∃eA:List UInt8,∃(j9:Option Addr) (j6 j7:Nat),∃(j0:Option Addr) (jY jZ:Nat),∃(j8:Option Addr) (aHF j4:Nat),∃(kB:Option Addr) (kj ko:Nat),∃(kr:Option Addr) (j_ ke:Nat),w7.cell? (Addr.mk gr 0 none)=some (.int .i64 eY)/\w7.cell? (Addr.mk gr 1 none)=some (.bool kA)/\w7.cell? (Addr.mk gr 2 none)=some (.string (S eA))/\w7.cell? (Addr.mk gr 3 none)=some (.slice j9 j6 j7)/\w7.cell? (Addr.mk gr 4 none)=some (.slice j0 jY jZ)/\w7.cell? (Addr.mk gr 5 none)=some (.slice j8 aHF j4)/\w7.cell? (Addr.mk gr 6 none)=some (.slice kB kj ko)/\w7.cell? (Addr.mk gr 7 none)=some (.slice kr j_ ke)/\R (.returned (.agg #[(.int .i64 eY),(.bool kA),(.string (S eA)),(.slice j9 j6 j7),(.slice j0 jY jZ),(.slice j8 aHF j4),(.slice kB kj ko),(.slice kr j_ ke)])) w7) 0 [(.int .i64 cH),(.bool fK),(.string (S cC)),(.slice aHx fA fB),(.slice aHv aHt aHu),(.slice aHw fu fy),(.slice aHy fG fH),(.slice fI fE fF)] w
def aaA{w0:World}{g B:Nat}{a:Addr}{x:Nd}{cs:List Value}{R:Ending->World->Prop}(hc:aH7 w a cs)(hn:ey w (λk=>B<=k/\k<w.heap.size) x cs)(ho:dz g w0 w)(hres:Row w w0.heap.size 66 ⟨qd⟩)(hB:w0.heap.size<B)
  (hR:∀w' cs,Mod (λk=>k=w0.heap.size) w w'->dz g w0 w'->ey w' (λk=>w0.heap.size<=k/\k<w'.heap.size) x cs->R (.returned (.agg ⟨cs⟩)) w'):axO a w0.heap.size w R:=by
 obtain⟨pw,cw,pa,ca,pr,cr,po,co,pk,ck,rfl,_⟩:=hn.outs;refine⟨_,_,_,_,_,_,_,_,_,_,_,_,_,_,_,_,_,_,hc.zero,hc 1 _ rfl,hc 2 _ rfl,hc 3 _ rfl,hc 4 _ rfl,hc 5 _ rfl,hc 6 _ rfl,hc 7 _ rfl,aHb hres λw' r' m' z'=>?_⟩;refine⟨_,_,_,_,_,_,_,_,_,_,_,_,_,_,_,_,_,_,r'.aj rfl,r'.aj rfl,r'.aj rfl,r'.aj rfl,r'.aj rfl,r'.aj rfl,r'.aj rfl,r'.aj rfl,hR w' _ m' (Mod.trans ho m' (λ_ h=>h) (λi hi e=>by omega)) ?_⟩;exact(hn.mod m' λk hk e=>by omega).mono λk hk=>⟨by omega,by omega⟩
def N7(L:Nat):Prop:=∀(w:World) (g:Nat) (s:Ts),Pz w g s->TB s->aq Ke #[.pointer (some ⟨g,0,none⟩),.int .i64 (31-(L:Int))] w (Ds w g ((kF L).1 s))
def atn{neg:Bool}{ks:List Nd}(h:¬(ks.length=1/\neg=false)):Io neg ks=.mk 1 neg [] [] [] [] [] ks:=by
 match ks with
 |[]=>rfl
 |[k]=>
  cases neg with
  |true=>rfl
  |false=>exact absurd ⟨rfl,rfl⟩ h
 |a::b::r=>rfl
def awC{L:Nat}(hc:N7 L){g:Nat}{s:Ts}(h:Pz w g s)(hb:TB s):aq Ku #[.pointer (some ⟨g,0,none⟩),.int .i64 (31-(L:Int))] w (Ds w g (CL (kF L).1 s)):=by
 apply akV;have hg:=h.lt;have he:=(adh L).1;have JQ:=(Ua L).1;refine aQ λw1 r1 s1 z1=>(wO (h.still s1) 0 (t:=aIW) (by decide)).mono ?_;rintro _ w2 ⟨rfl,o2,h2⟩;have jz:=o2.size;refine .inl ⟨_,rfl,aQ λw3 r3 s3 z3=>aHb r3 λw4 r4 m4 z4=>?_⟩;have r4:Row w4 w2.heap.size 66 ⟨aHJ (.mk 1 (aHA 0 aIW s) [] [] [] [] [] []) (.slice none 0 0) (.slice none 0 0) (.slice none 0 0) (.slice none 0 0) (.slice none 0 0)⟩:=r4;have N8:Row w4 w.heap.size 66 ⟨qd⟩:=((r1.mod o2 (by omega)).still s3).mod m4 (by omega);have o4:dz g w w4:=Mod.trans ((s1.only.tr o2).tr s3.only) m4 (λ_ h=>h) (λi hi e=>by omega);have h4:=(h2.still s3).mod m4 (by intro k hk e;omega);have hb4:TB (if aHA 0 aIW s=true then s.tail else s):=hb.aJy (aeo _ s);have Xq:=NB.Xo (B:=w.heap.size+1) r4 o4 hg (by omega) (by omega) ⟨rfl,rfl,rfl,rfl,rfl⟩;have hpf:CL (kF L).1 s=((kF L).1 (if aHA 0 aIW s=true then s.tail else s)).and λx=>aIz (aIk (kF L).1 (aHA 0 aIW s)) [x.1] x.2:=rfl;rw[hpf];clear hpf;generalize(if aHA 0 aIW s=true then s.tail else s)=s0 at*;generalize aHA 0 aIW s=neg at*;have hs0:=hb4.1;refine S2 Xq (hc _ _ _ (h4.still (iH _)) hb4) (show 0<1000000 by decide) (λk w' hr o=>⟨o,?_⟩) (λy vk5 w5 X5 hr rF h5 m5=>?_)
 .rw[hr]
  rfl
 rw[hr];have IZ:=N8.mod m5 (by intro e;omega);have hy1:=he _ _ hr;have hy2:=JQ _ _ hr;refine⟨λw9=>∃s9 ks vk X,NB w w9 g w2.heap.size (w.heap.size+1) X (.mk 1 neg [] [] [] [] [] ks) (.slice none 0 0) (.slice none 0 0) (.slice none 0 0) (.slice none 0 0) vk/\Row w9 w.heap.size 66 ⟨qd⟩/\Pz w9 g s9/\s9<:+s0/\ks.length+s9.length<=s0.length/\aIz (aIk (kF L).1 neg) ks s9=aIz (aIk (kF L).1 neg) [y.1] y.2,EJ g,⟨y.2,[y.1],vk5,X5,rF,IZ,h5,hy2,by simp only[bf,aHf];omega,rfl⟩,?_⟩;rintro _ w9 ⟨s9,ks,vk,X,O4,aho,h9,zf,hlen,heq⟩;simp only[Rs.and];rw[<-heq,aIQ (Se he _)];clear heq;refine(wO h9 1 (t:=U5) (by decide)).mono ?_;rintro _ aO ⟨rfl,Dt,h10⟩;refine .inl ⟨_,rfl,aA (λhx=>?_) (λhx=>?_)⟩
 .rw[hx,aL rfl]at h10
  have hps:aIk (kF L).1 neg ks s9=((kF L).1 (jK s9.tail)).and λx=>.ok (.inl (ks++[x.1],x.2)):=by unfold aIk;rw[aL hx]
  rw[hps];have htl:=T8 hx;have Jr:=Ai s9.tail;have ahp:jK s9.tail<:+s0:=(D2 _).trans ((L3 _).trans zf);refine(D5 h10).mono ?_;rintro _ bh ⟨rfl,xZ,h11⟩;have N9:=(O4.on Dt).on xZ;have Nl:=(aho.mod Dt (by omega)).mod xZ (by omega);refine .inl ⟨rfl,S2 N9 (hc _ _ _ (h11.still (iH _)) (hb4.aJy ahp)) (show ks.length<1000000 by omega) (λk w' hr o=>⟨o,?_⟩) (λz aAn bE X12 hr aAo h12 m12=>?_)⟩
  .rw[hr]
   rfl
  have hz1:=he _ _ hr;rw[hr];refine⟨⟨z.2,ks++[z.1],aAn,X12,aAo,Nl.mod m12 (by intro e;omega),h12,(JQ _ _ hr).trans ahp,by simp only[cB,bf,aHf];omega,?_⟩,by rw[h12.len,h9.len];omega⟩;rfl
 .rw[hx,aG (by decide)]at h10
  have hps:aIk (kF L).1 neg ks s9=.ok (.inr (Io neg ks,s9)):=by unfold aIk;rw[aG (by rw[hx];decide)]
  rw[hps];have zg:=O4.on Dt;have Nn:=aho.mod Dt (by omega);obtain⟨p,c,rfl⟩:=zg.ok.form;refine⟨λcL=>cL=aO/\¬(ks.length=1/\neg=false),⟨λb aHe=>aHe=aO/\(b=true↔ks.length=1/\neg=false),⟨p,ks.length,c,zg.row.aj rfl,aA (λe=>⟨neg,zg.row.aj rfl,rfl,?_⟩) (λe=>⟨rfl,λh=>(by cases h),λh=>absurd h.1 (by have:=aX e;omega)⟩)⟩,?_⟩,?_⟩
  .have:=aR e
   cases neg with
   |true=>exact⟨λh=>(by cases h),λh=>(by cases h.2)⟩
   |false=>exact⟨λ_=>⟨by omega,rfl⟩,λ_=>rfl⟩
  .rintro b _ aHe ⟨rfl,hb⟩
   refine aA (λxU=>?_) (λFl=>⟨rfl,λh=>by rw[hb.2 h]at Fl;cases Fl⟩);obtain⟨e1,e2⟩:=hb.1 xU;obtain⟨k,rfl⟩:∃k,ks=[k]:=by
    match ks,e1 with
    |[k],_=>exact⟨k,rfl⟩
   obtain⟨q,cs,rfl,_,hnd,hcs⟩:=zg.ok.at.get (i:=0) rfl;refine⟨some q,_,c,zg.row.aj rfl,by decide,show(0:Int)<((1:Nat):Int) by decide,aaA hcs hnd zg.only Nn (aHP _) λw' cs' m' o' hn'=>⟨o',?_⟩⟩;have:Io neg [k]=k:=by rw[e2];rfl
   rw[this];exact⟨_,rfl,hn',h10.mod m' λj hj e=>by omega⟩
  .rintro _ cL ⟨rfl,hno⟩
   refine SG zg Nn (aHP _) λw' cs' m' o' hn'=>⟨o',?_⟩;rw[atn hno];exact⟨_,rfl,hn',h10.mod m' λj hj e=>by omega⟩
def au_{L:Nat}(hc:N7 L){g:Nat}{s:Ts}(h:Pz w g s)(hb:TB s):aq P8 #[.pointer (some ⟨g,0,none⟩),.int .i64 (31-(L:Int))] w (Ds w g (Bb (kF L).1 s)):=by
 apply akr;have hg:=h.lt;have hsp:=acj (Ua L).1;show zM _ _ _ _
 unfold Bb;refine aQ λw1 r1 s1 z1=>(awC hc (h.still s1) hb).mono ?_;rintro e2 w2 ⟨o2,hp⟩;have jz:=o2.size;cases hr:CL (kF L).1 s with
 |bad k=>rw[hr]at hp;exact .inr ⟨_,hp,s1.only.tr o2,rfl⟩
 |ok y=>
 rw[hr]at hp;obtain⟨cs,rfl,hnd,h2⟩:=hp;have hy2:=hsp _ _ hr;obtain⟨pw,cw,pa,ca,pr,cr,po,co,pk,ck,rfl,_⟩:=hnd.outs;refine .inl ⟨_,_,_,_,_,_,_,_,_,_,_,_,_,_,_,_,_,_,rfl,aQ λw3 r3 s3 z3=>aQ λw4 r4 s4 z4=>aHb r4 λw5 r5 m5 z5=>?_⟩;have r5:Row w5 w3.heap.size 66 ⟨aHJ (.mk 2 false [] [] [] [] [] [y.1]) (.slice none 0 0) (.slice none 0 0) (.slice none 0 0) (.slice none 0 0) (.slice (some ⟨w2.heap.size,0,none⟩) 1 1)⟩:=r5;have IZ:Row w5 w.heap.size 66 ⟨qd⟩:=(((r1.mod o2 (by omega)).still s3).still s4).mod m5 (by omega);have r3':=(r3.still s4).mod m5 (by omega);have o5:dz g w w5:=Mod.trans (((s1.only.tr o2).tr s3.only).tr s4.only) m5 (λ_ h=>h) (λi hi e=>by omega);have h5:=((h2.still s3).still s4).mod m5 (by intro k hk e;omega);have aAp:ey w5 (λk=>w.heap.size+1<=k/\k<w5.heap.size/\k≠w3.heap.size/\k≠w2.heap.size) y.1 _:=(((hnd.still s3).still s4).mod m5 (λk hk e=>by omega)).mono λk hk=>⟨by omega,by omega,by omega,by omega⟩;have rF:=NB.mkK (B:=w.heap.size+1) r5 r3' aAp o5 hg (by omega) (by omega) (by omega) (by omega) ⟨rfl,rfl,rfl,rfl,rfl⟩;refine⟨λw9=>w9=w5,λ_=>0,rfl,?_⟩;rintro _ w6 rfl;refine aQ λw7 r7 s7 z7=>(AB (h5.still s7) 1 (de.row (l:=[Vz,WI]) r7) (by decide)).mono ?_;rintro _ w8 ⟨rfl,s8⟩;have hby:=hb.aJy hy2;rw[TC (by decide),Ek (by decide),hby.NP (k:=1) (t:=Vz) (by decide),hby.NP (k:=1) (t:=WI) (by decide)];have Xr:=s7.trans s8;have mB:=rF.still Xr;have h8:=h5.still Xr;refine .inl ⟨_,rfl,aA (λhx=>by cases hx) (λ_=>?_)⟩;refine⟨none,0,0,mB.row.aj rfl,aA (λ_=>?_) (λe=>absurd rfl (aX e))⟩;obtain⟨q,cs,he,_,hnd,hcs⟩:=mB.ok.at.get (i:=0) rfl;obtain rfl:=bU he;exact⟨_,_,_,mB.row.aj rfl,by decide,show(0:Int)<((1:Nat):Int) by decide,aaA hcs hnd mB.only (IZ.still Xr) (aHP _) λw' cs' m' o' hn'=>⟨o',_,rfl,hn',h8.mod m' λj hj e=>by omega⟩⟩
def awD{L:Nat}(hc:N7 L){g:Nat}{s:Ts}(h:Pz w g s)(hb:TB s):aq Qk #[.pointer (some ⟨g,0,none⟩),.int .i64 (31-(L:Int))] w (Ds w g (EA (kF L).1 s)):=by
 apply akN;have hg:=h.lt;have he:=(adh L).1;have hea:=acf he;have hsa:=auG (Ua L).1;have hs0:=hb.1;refine aQ λw1 r1 s1 z1=>aQ λw2 r2 s2 z2=>aHb r2 λw3 r3 m3 z3=>?_;have r3:Row w3 w1.heap.size 66 ⟨aHJ (.mk 3 false [] [] [] [] [] []) (.slice none 0 0) (.slice none 0 0) (.slice none 0 0) (.slice none 0 0) (.slice none 0 0)⟩:=r3;have E2:Row w3 w.heap.size 66 ⟨qd⟩:=(r1.still s2).mod m3 (by omega);have s3:Still w w3:=(s1.trans s2).box (by omega) m3;have Fa:=NB.Xo (B:=w.heap.size+1) r3 s3.only hg (by omega) (by omega) ⟨rfl,rfl,rfl,rfl,rfl⟩;refine(D5 (h.still s3)).mono ?_;rintro _ w4 ⟨rfl,o4,h4⟩;have Jr:=Ai s;refine .inl ⟨rfl,λw9=>∃s9 ks vk X,NB w w9 g w1.heap.size (w.heap.size+1) X (aJa ks) (.slice none 0 0) (.slice none 0 0) (.slice none 0 0) (.slice none 0 0) vk/\Row w9 w.heap.size 66 ⟨qd⟩/\Pz w9 g s9/\s9<:+s/\ks.length+s9.length<=s.length/\aIz (r_ (kF L).1) ks s9=EA (kF L).1 s,EJ g,⟨jK s,[],_,_,Fa.on o4,E2.mod o4 (by omega),h4,D2 s,by simp only[aHf];omega,rfl⟩,?_⟩;rintro _ w5 ⟨s9,ks,vk,X,rF,IZ,h5,zf,hlen,heq⟩;rw[<-heq,aIQ (Sf he)];clear heq;refine(SY h5).mono ?_;rintro _ w6 ⟨rfl,s6⟩;have BH:=rF.still s6;have ahq:=IZ.still s6;have h6:=h5.still s6;refine .inl ⟨_,rfl,aA (λhx=>?_) (λhx=>?_)⟩
 .have hx:CK s9=false:=by simpa using hx
  have hls:r_ (kF L).1 ks s9=(Bb (kF L).1 s9).and λx=>if aHA 1 Il x.2=true then .ok (.inl (ks++[x.1],jK x.2.tail))else if aHA 2 [10] x.2=true then .ok (.inl (ks++[x.1],jK x.2))else .ok (.inr (aJa (ks++[x.1]),x.2)):=by unfold r_;rw[aG (by rw[hx];decide)]
  rw[hls];refine S2 BH (au_ hc (h6.still (iH _)) (hb.aJy zf)) (show ks.length<1000000 by omega) (λk w' hr o=>⟨o,?_⟩) (λy ahr aO X10 hr zg h10 m10=>?_)
  .rw[hr]
   rfl
  have hz1:=hea _ _ hr;have hsy:=(hsa _ _ hr).trans zf;rw[hr];simp only[Rs.and];have Nn:=ahq.mod m10 (by intro e;omega);have hl1:=Ai y.2;have jQ:=Ai y.2.tail;have ht:=T9 y.2;refine(wO h10 1 (t:=Il) (by decide)).mono ?_;rintro _ bh ⟨rfl,xZ,h11⟩;have N9:=zg.on xZ;have Nl:=Nn.mod xZ (by omega);refine .inl ⟨_,rfl,aA (λh1=>?_) (λh1=>?_)⟩
  .have h1:aHA 1 Il y.2=false:=by simpa using h1
   rw[h1,aG (by decide)]at h11;refine aQ λbE gP fZ z12=>(AB (h11.still fZ) 2 (de.row (l:=[[10]]) gP) (by decide)).mono ?_;rintro _ bw ⟨rfl,iE⟩;rw[Ek (by decide)];have V4:=fZ.trans iE;have N_:=N9.still V4;have agi:=Nl.still V4;have xV:=h11.still V4;refine .inl ⟨_,rfl,aA (λh2=>?_) (λh2=>?_)⟩
   .have h2:aHA 2 [10] y.2=false:=by simpa using h2
    refine SG N_ agi (aHP _) λw' cs' m' o' hn'=>⟨o',?_⟩;rw[aG (by rw[h1];decide),aG (by rw[h2];decide)];exact⟨_,rfl,hn',xV.mod m' λj hj e=>by omega⟩
   .have h2:aHA 2 [10] y.2=true:=by simpa using h2
    refine(D5 xV).mono ?_;rintro _ b8 ⟨rfl,OS,aKh⟩;refine .inl ⟨rfl,⟨jK y.2,ks++[y.1],ahr,X10,N_.on OS,agi.mod OS (by omega),aKh,(D2 _).trans hsy,by simp only[cB,bf,aHf];omega,?_⟩,by rw[aKh.len,h5.len];omega⟩;rw[aG (by rw[h1];decide),aL h2]
  .have h1:aHA 1 Il y.2=true:=by simpa using h1
   rw[h1,aL rfl]at h11;refine(D5 h11).mono ?_;rintro _ aHe ⟨rfl,o16,aHH⟩;refine .inl ⟨rfl,⟨jK y.2.tail,ks++[y.1],ahr,X10,N9.on o16,Nl.mod o16 (by omega),aHH,(D2 _).trans ((L3 _).trans hsy),by simp only[cB,bf,aHf];omega,?_⟩,by rw[aHH.len,h5.len];omega⟩;rw[aL h1]
 .have hx:CK s9=true:=by simpa using hx
  have hls:r_ (kF L).1 ks s9=.ok (.inr (aJa ks,s9)):=by unfold r_;rw[aL hx]
  rw[hls];exact SG BH ahq (aHP _) λw' cs' m' o' hn'=>⟨o',_,rfl,hn',h6.mod m' λj hj e=>by omega⟩
def adB(s:Ts):decide (((((s[0]?).getD (2,[])).1:Nat):Int)=0)=OB s:=by
 cases s with
 |nil=>rfl
 |cons x r=>
  obtain⟨k,t⟩:=x;show decide ((k:Int)=0)=decide (k=0)
  exact sY.2 (by omega)
def ap_{a:List (List Pt)×List (ag×List Pt)×List (ag×List Pt)}{s:Ts}(h:u9 s=true):kY a s=(u_ s).and λx=>.ok (.inl ((a.1,a.2.1,a.2.2++[x.1]),x.2)):=by unfold kY;rw[aL h]
def aqa{a:List (List Pt)×List (ag×List Pt)×List (ag×List Pt)}{s:Ts}(h:u9 s=false)(hk:OB s=false):kY a s=if a.1.length+a.2.1.length+a.2.2.length=0 then .bad 100 else .ok (.inr (.mk 0 false [] a.1 a.2.1 a.2.2 [] [],s)):=by
 unfold kY;rw[aG (by rw[h];decide)]
 match s,hk with
 |[],_=>rfl
 |(k,t)::r,hk=>simp only[aG (aX hk)]
def Sj{a:List (List Pt)×List (ag×List Pt)×List (ag×List Pt)}{t:ag}{r:Ts}{R:Rs ((ag×List Pt)×Ts)}(h:u9 ((0,t)::r)=false)(ha:a.1=[])(hR:aJf ((0,t)::r)=some R):kY a ((0,t)::r)=R.and λx=>.ok (.inl ((a.1,a.2.1++[x.1],a.2.2),x.2)):=by
 unfold kY;rw[aG (by rw[h];decide)];simp only[aL ha,aJf]at hR⊢;cases hy:aIY t with
 |none=>rw[hy]at hR;cases hR
 |some y=>rw[hy]at hR;obtain rfl:=bU hR;simp only[↓reduceIte];cases ef 30 y.2<;>rfl
def apk{a:List (List Pt)×List (ag×List Pt)×List (ag×List Pt)}{t:ag}{r:Ts}(h:u9 ((0,t)::r)=false)(ha:a.1≠[]\/aJf ((0,t)::r)=none):kY a ((0,t)::r)=(pn ((0,t)::r)).and λx=>.ok (.inl ((a.1++[x.1],a.2.1,a.2.2),x.2)):=by
 unfold kY;rw[aG (by rw[h];decide)];have hn:(if a.1=[]then aIY t else none)=none:=by
  rcases ha with ha|ha
  .rw[aG ha]
  .split
   .cases hy:aIY t with
    |none=>rfl
    |some y=>simp only[aJf,hy]at ha;cases ha
   ·rfl
 simp only[hn,pn,↓reduceIte];cases ef 30 t<;>rfl
def aqb{g:Nat}{s:Ts}(h:Pz w g s)(hb:TB s):aq P5 #[.pointer (some ⟨g,0,none⟩)] w (Ds w g (ki s)):=by
 apply akj;have hg:=h.lt;have hs0:=hb.1;refine aQ λw1 r1 s1 z1=>?_;have r1:Row w1 w.heap.size 66 ⟨aHJ (.mk 0 false [] [] [] [] [] []) (.slice none 0 0) (.slice none 0 0) (.slice none 0 0) (.slice none 0 0) (.slice none 0 0)⟩:=r1;have Bw:=NB.Xo (B:=w.heap.size) r1 s1.only hg (aV _) (aV _) ⟨rfl,rfl,rfl,rfl,rfl⟩;refine⟨λw2=>∃s9 ws mC rs vw va vr X,NB w w2 g w.heap.size w.heap.size X (.mk 0 false [] ws mC rs [] []) vw va vr (.slice none 0 0) (.slice none 0 0)/\Pz w2 g s9/\s9<:+s/\ws.length+mC.length+rs.length+s9.length<=s.length/\aIz kY (ws,mC,rs) s9=ki s,EJ g,⟨s,[],[],[],_,_,_,_,Bw,h.still s1,yd _,by simp only[aHf];omega,rfl⟩,?_⟩;rintro _ w2 ⟨s9,ws,mC,rs,vw,va,vr,X,WC,h2,zf,hlen,heq⟩;have hm:=aIQ wH (ws,mC,rs) s9;rw[heq]at hm;clear heq;have Xt:=hb.aJy zf;refine(aok h2).mono ?_;rintro _ w3 ⟨rfl,s3⟩;have Fa:=WC.still s3;have h3:=h2.still s3;refine .inl ⟨_,rfl,aA (λhx=>?_) (λhx=>?_)⟩
 .have hst:=ap_ (a:=(ws,mC,rs)) hx
  rw[hst]at hm;refine atm Fa h3 Xt (by rintro rfl;cases hx) (show rs.length<1000000 by omega) (λk w' hr o=>⟨o,?_⟩) (λz vr4 w4 X4 hr Xq h4 m4=>?_)
  .rw[hr]at hm
   have hm:ki s=.bad k:=hm;rw[hm]
  rw[hr]at hm;have hz1:=aao _ _ hr;have jz:=aa6 _ _ hr;exact⟨⟨z.2,ws,mC,rs++[z.1],vw,va,vr4,X4,Xq,h4,jz.trans zf,by simp only[cB,bf,aHf];omega,hm.symm⟩,by rw[h4.len,h2.len];omega⟩
 refine(Al h3 0).mono ?_;rintro _ w8 ⟨rfl,s8⟩;have mB:=Fa.still s8;have h8:=h3.still s8;refine .inl ⟨_,_,rfl,?_⟩
 try dsimp only[zR]
 rw[adB];obtain⟨pw,cw,rfl⟩:=mB.ow.form;obtain⟨pa,ca,rfl⟩:=mB.oa.form;obtain⟨pr,cr,rfl⟩:=mB.ord.form;refine aA (λhk=>?_) (λhk=>?_)
 .have hk:OB s9=false:=by simpa using hk
  rw[aqa hx hk]at hm;simp only at hm;refine⟨pw,ws.length,cw,mB.row.aj rfl,pa,mC.length,ca,mB.row.aj rfl,pr,rs.length,cr,mB.row.aj rfl,agf (λht=>?_) (λht=>⟨mB.only,?_⟩)⟩
  .have ht:=aR ht
   rw[wrap_i64 (n:=(ws.length:Int)+(mC.length:Int)) (by omega) (by omega),wrap_i64 (by omega) (by omega)]at ht;rw[aG (by omega)]at hm;have hm:ki s=.ok (.mk 0 false [] ws mC rs [] [],s9):=hm;refine aro mB λw' cs' m' o' hn'=>⟨o',?_⟩;rw[hm];exact⟨_,rfl,hn',h8.mod m' λj hj e=>by omega⟩
  .have ht:=aX ht
   rw[wrap_i64 (n:=(ws.length:Int)+(mC.length:Int)) (by omega) (by omega),wrap_i64 (by omega) (by omega)]at ht;rw[aL (by omega)]at hm;have hm:ki s=.bad 100:=hm;rw[hm]
 have hk:OB s9=true:=by simpa using hk
 obtain⟨t,r,rfl⟩:∃t r,s9=(0,t)::r:=by
  match s9,hk with
  |(k,t)::r,hk=>exact⟨t,r,by rw[show k=0 from aR hk]⟩
 simp only[bf]at hlen;refine⟨λcF=>NB w cF g w.heap.size w.heap.size X (.mk 0 false [] ws mC rs [] []) (.slice pw ws.length cw) (.slice pa mC.length ca) (.slice pr rs.length cr) (.slice none 0 0) (.slice none 0 0)/\Pz cF g ((0,t)::r)/\(ws≠[]\/aJf ((0,t)::r)=none),⟨pw,ws.length,cw,mB.row.aj rfl,aA (λhe=>?_) (λhe=>?_)⟩,?_⟩
 .have sN:ws=[]:=pU (by have:=aR he;omega)
  refine(anW h8 Xt).mono ?_;rintro e11 bh ⟨xZ,hp⟩;have aGb:=xZ.size;have hl8:=mB.row.lt;cases hR:aJf ((0,t)::r)with
  |none=>rw[hR]at hp;obtain⟨t',p',n',c',rfl,h11⟩:=hp;refine .inl ⟨_,_,_,_,_,rfl,aQ λbE gP fZ z12=>aHb gP λbw ld m13 xT=>?_⟩;have Dr:dz g w8 bw:=Mod.trans (xZ.tr fZ.only) m13 (λ_ h=>h) (λi hi e=>by omega);exact⟨mB.on Dr,(h11.still fZ).mod m13 (by intro k hk e;omega),.inr rfl⟩
  |some R=>
   rw[hR]at hp;rw[Sj hx sN hR]at hm;cases R with
   |bad k=>have hm:ki s=.bad k:=hm;exact .inr ⟨_,hp,(mB.on xZ).only,by rw[hm]⟩
   |ok z=>obtain⟨p',c',rfl,fM,h11⟩:=hp;have hz1:=wH _ _ _ (Sj (a:=(ws,mC,rs)) hx sN hR);have jz:=aap _ _ _ (Sj (a:=(ws,mC,rs)) hx sN hR);have hz1:z.2.length<((0,t)::r).length:=hz1;have jz:z.2<:+(0,t)::r:=jz;simp only[bf]at hz1;refine .inl ⟨_,_,_,_,_,rfl,aQ λbE gP fZ z12=>aHb gP λbw ld m13 xT=>?_⟩;have Dr:dz g w8 bw:=Mod.trans (xZ.tr fZ.only) m13 (λ_ h=>h) (λi hi e=>by omega);have xV:=(h11.still fZ).mod m13 (by intro k hk e;omega);have N_:=mB.on Dr;have ayF:cD bw (λk=>w8.heap.size<=k/\k<bw.heap.size) z.1.2 (.slice p' z.1.2.length c'):=fM.dN (λk hk=>⟨by omega,by omega⟩) λa v ⟨k,hk,ea⟩ hcell=>wT m13 (by rw[ea];show¬k=bh.heap.size;omega) (fZ.cell hcell);refine⟨pa,mC.length,ca,N_.row.aj rfl,z.1.1,p',z.1.2.length,c',ld.aj rfl,ld.aj rfl,NB.ayy (y:=z.1) mB Dr ⟨_,rfl,ayF⟩ (show mC.length<1000000 by omega) λp2 c2 aHe X16 aAq m16=>?_⟩;have aHH:=xV.mod m16 (by intro k hk e;omega);exact⟨⟨z.2,ws,mC++[z.1],rs,_,_,_,X16,aAq,aHH,jz.trans zf,by simp only[cB,bf,aHf];omega,hm.symm⟩,by rw[aHH.len,h2.len];simp only[bf];omega⟩
 .exact⟨mB,h8,.inl (by rintro rfl;exact aX he rfl)⟩
 .rintro _ cF ⟨aAr,Fv,hor⟩
  rw[apk (a:=(ws,mC,rs)) hx hor]at hm;refine arw aAr Fv Xt (show ws.length<1000000 by omega) (λk w' hr o=>⟨o,?_⟩) (λz vw9 w9 X9 hr O4 h9 m9=>?_)
  .rw[hr]at hm
   have hm:ki s=.bad k:=hm;rw[hm]
  rw[hr]at hm;have hz1:=aan _ _ hr;have jz:=aa5 _ _ hr;simp only[bf]at hz1;exact⟨⟨z.2,ws++[z.1],mC,rs,vw9,_,_,X9,O4,h9,jz.trans zf,by simp only[cB,bf,aHf];omega,hm.symm⟩,by rw[h9.len,h2.len];simp only[bf];omega⟩
def Rs.axP{α β:Type}(x:α)(f:α->Rs β):(Rs.ok x).and f=f x:=rfl
def ava{s:Ts}(hb:TB s){j:Nat}(hj:j<7):aIu j≠tG ((((s[0]?).getD (2,[])).1:Nat):Int) ((s[0]?).getD (2,[])).2:=by
 intro h;have key:∀j,j<7->∃k:Nat,∃t,aIu j=tG (k:Int) t/\(k,t)∈CM:=seven ⟨1,U4,rfl,by decide⟩ ⟨0,afi,rfl,by decide⟩ ⟨0,tIf,rfl,by decide⟩ ⟨0,afj,rfl,by decide⟩ ⟨0,afk,rfl,by decide⟩ ⟨0,agR,rfl,by decide⟩ ⟨0,af0,rfl,by decide⟩;obtain⟨k,t,e,hm⟩:=key j hj;rw[e]at h;obtain⟨h1,h2⟩:=adm h
 match s,hb,h1,h2 with
 |[],_,h1,h2=>have h1:(k:Int)=2:=h1;have h2:t=[]:=h2;rw[h2,show k=2 by omega]at hm;exact absurd hm (by decide)
 |(k',t')::r,hb,h1,h2=>have h1:(k:Int)=(k':Int):=h1;have h2:t=t':=h2;rw[h2,show k=k' by omega]at hm;exact(hb.2 (k',t') (by simp)).2.2.2.1 hm
def aqc{s:Ts}(hb:TB s):xY 0 CJ s=false:=by
 match s,hb with
 |[],_=>rfl
 |(k,t)::r,hb=>
  show(decide (k=0)&&CJ.contains t)=false;have:=(hb.2 (k,t) (by simp)).2.2.2.1
  by_cases hk:k=0
  .subst hk
   rw[fe rfl,B2];refine QE.2 λhc=>this ?_;exact aI0 _ (dY.2 ⟨t,by simpa using hc,rfl⟩)
  .rw[eX hk]
   rfl
def AY.still{w':World}{g:Nat}{es:List (Value×Value)}(h:AY w g es)(hm:Still w w'):AY w' g es:=by obtain⟨ms,c,hg,hp⟩:=h;exact⟨ms,c,(hm.block g (aH0.1 hg).1 (λh=>h)).trans hg,hp⟩
def avb(r:Ts)(k:Nat){t:ag}(ht:t≠[]):(decide (((((r[0]?).getD (2,[])).1:Nat):Int)=(k:Int))&&((decide (((r[0]?).getD (2,[])).2=t))&&true))=aHA k t r:=by
 cases r with
 |nil=>show(_&&((decide (([]:ag)=t))&&true))=false;have e:decide (([]:ag)=t)=false:=eX (λe=>ht e.symm);rw[e];simp
 |cons x r=>
  obtain⟨k',t'⟩:=x;show(decide ((k':Int)=(k:Int))&&(decide (t'=t)&&true))=decide (some (k',t')=some (k,t))
  by_cases hk:k'=k
  .subst hk
   simp
  .simp[hk]
   omega
set_option maxRecDepth 10000 in
def arx{L:Nat}(h0:0<L):N7 L:=by
 intro w g s h hb;show Calls _ _ _ w (Ds w g (ki s))
 apply ake;have hg:=h.lt;refine aQ λw1 r1 s1 z1=>aA (λhd=>absurd (aR hd) (by omega)) (λ_=>?_);intro us w2 s2 z2 hmap;have h2:=(h.still s1).still s2;refine(Al h2 0).mono ?_;rintro _ w3 ⟨rfl,s3⟩;have h3:=h2.still s3;have iE:=(s1.trans s2).trans s3;have E2:=(r1.still s2).still s3;have vP:=E2.lt;have hx:((s[0]?).getD (2,[])).1<1000/\((s[0]?).getD (2,[])).2.length<1000000:=by
  cases s with
  |nil=>exact⟨by decide,by decide⟩
  |cons x r=>exact⟨hb.kind,hb.head.1⟩
 refine .inl ⟨_,_,rfl,auJ (hmap.still s3) hx.1 hx.2 (λj hj hkey=>absurd hkey (ava hb hj)) (λhno=>?_)⟩;refine⟨λpM=>Still w3 pM,aA (λhf=>by cases hf) (λ_=>?_),?_⟩;rotate_left
 .intro _ pM Xu
  have agj:=E2.still Xu;have o27:=(iE.trans Xu).only (g:=g);have aGc:=agj.lt;refine(aqb (h3.still Xu) hb).mono ?_;rintro e28 aJg ⟨o28,hp⟩;have ahs:=o27.tr o28;cases hr:ki s with
  |bad k=>rw[hr]at hp;exact .inr ⟨_,hp,ahs,rfl⟩
  |ok y=>
  rw[hr]at hp;obtain⟨cs,rfl,hnd,h28⟩:=hp;obtain⟨pw,cw,pa,ca,pr,cr,po,co,pk,ck,rfl,_⟩:=hnd.outs;refine .inl ⟨_,_,_,_,_,_,_,_,_,_,_,_,_,_,_,_,_,_,rfl,aHb (agj.mod o28 (by omega)) λw' r' m' z'=>?_⟩;refine⟨_,_,_,_,_,_,_,_,_,_,_,_,_,_,_,_,_,_,r'.aj rfl,r'.aj rfl,r'.aj rfl,r'.aj rfl,r'.aj rfl,r'.aj rfl,r'.aj rfl,r'.aj rfl,Mod.trans ahs m' (λ_ h=>h) (λi hi e=>by omega),?_⟩;exact⟨_,rfl,(hnd.mod m' λk hk e=>by omega).mono λk hk=>⟨by omega,by omega⟩,h28.mod m' λj hj e=>by omega⟩
 refine⟨λb cL=>Still w3 cL/\b=false,Z4.mono ?_,?_⟩
 .rintro _ bO ⟨q,rfl,hq,lq⟩
  refine .inl ⟨_,_,_,rfl,(AB (h3.still lq) 0 hq (by decide)).mono ?_⟩;rintro _ b8 ⟨rfl,aJA⟩;rw[aqc hb];refine .inl ⟨_,rfl,aA (λhx=>by cases hx) (λ_=>?_)⟩;refine aQ λaHe r16 lB Xv=>(AB (((h3.still lq).still aJA).still lB) 0 (de.row (l:=[aIW]) r16) (by decide)).mono ?_;rintro _ cF ⟨rfl,sQ⟩;exact .inl ⟨_,rfl,((lq.trans aJA).trans lB).trans sQ,by rw[Ek (by decide)];exact hb.NP (by decide)⟩
 rintro b _ cL ⟨ot,rfl⟩;have h18:=h3.still ot;refine aA (λhrb=>by cases hrb) (λ_=>?_);refine⟨λb jO=>Still w3 jO/\b=false,(Al h18 0).mono ?_,?_⟩
 .rintro _ dV ⟨rfl,aHI⟩
  refine .inl ⟨_,_,rfl,?_⟩
  try dsimp only[zR]
  rw[adB];refine aA (λhw=>?_) (λhw=>⟨ot.trans aHI,rfl⟩);obtain⟨t,r,rfl⟩:∃t r,s=(0,t)::r:=by
   match s,hw with
   |(k,t)::r,hw=>exact⟨t,r,by rw[show k=0 from aR hw]⟩
  refine(Al (h18.still aHI) 0).mono ?_;rintro _ eu ⟨rfl,ni⟩;refine .inl ⟨_,_,rfl,(apQ t hb.head.1).mono ?_⟩;rintro _ eM ⟨rfl,tU⟩;have Vf:=(aHI.trans ni).trans tU;refine .inl ⟨_,rfl,aA (λhn=>?_) (λ_=>⟨ot.trans Vf,rfl⟩)⟩;refine(Al (h18.still Vf) 1).mono ?_;rintro _ eO ⟨rfl,Du⟩;have e1:((0,t)::r)[1]?=r[0]?:=rfl;rw[e1];refine .inl ⟨_,_,rfl,?_⟩
  try dsimp only[zR]
  rw[show(decide (((((r[0]?).getD (2,[])).1:Nat):Int)=(1:Int))&&((decide (((r[0]?).getD (2,[])).2=[40]))&&true))=aHA 1 U4 r from avb r 1 (by decide),hb.tail.NP (by decide)];exact aA (λh=>by cases h) (λ_=>⟨(ot.trans Vf).trans Du,rfl⟩)
 rintro b _ jO ⟨jd,rfl⟩;exact aA (λhf=>by cases hf) (λ_=>jd)
end Go.Proofs.YtihaaoehhgmphaaGreatDoor.L
namespace Go.Proofs.YtihaaoehhgmphaaGreatDoor.L
open IntKind Go.RowKit Vc
def ary(p q:Addr)(w:World):
  CallsD aM 53 #[.pointer (some p),.pointer (some q)] .returning w λe u' w'=>e=.returned (.tuple #[])/\u'=.returning/\w'=w:=by
 refine callsD_of_wpS Tryz.func53 rfl λc₀ cs hu=>?_;apply wpS_seq;apply wpS_region;simp[wpOpsS,go_sem,recoverD,hu,Tryz.ntmps53,Exit.thenS];apply wpS_seq;apply wpS_region;simp[wpOpsS,go_sem,Tryz.ntmps53,Exit.thenS];refine wpS_cond (t:=false) (by simp[Act.eval,Array.replicate]) ?_;simp only[kV,iV];refine wpS_of_wp (wp_skip ?_);cases c₀;simp_all [bodyPostS,results,Tryz.results53]
def apl(p q:Addr)(n:Int)(w:World)(P:World->Prop)(h:cJ p (λw1=>cJ q P 0 [.int .i64 n] w1) 0 [(.int .i64 0),(.bool false),(.string (S ([]:List UInt8))),(.slice none 0 0),(.slice none 0 0),(.slice none 0 0),(.slice none 0 0),(.slice none 0 0)] w.drew):
  CallsD aM 53 #[.pointer (some p),.pointer (some q)] (.panicking [{v:=.iface 28 (.int .i64 n),recovered:=false}]) w λe u' w'=>e=.returned (.tuple #[])/\settle u'=.returning/\P w':=by
 refine callsD_of_wpS Tryz.func53 rfl λc₀ cs hu=>?_;apply wpS_seq;apply wpS_region;simp[wpOpsS,go_sem,recoverD,hu,Tryz.ntmps53,Exit.thenS];apply wpS_seq;apply wpS_region;simp[wpOpsS,go_sem,Tryz.ntmps53,Exit.thenS];refine wpS_cond (t:=true) (by simp[Act.eval,Array.replicate]) ?_;simp only[nu];refine wpS_of_wp ?_;have et:(#[Value.pointer (some p),Value.pointer (some q)]++((((Array.replicate 7 undef).setIfInBounds 1 (Value.iface 28 (Value.int i64 n))).setIfInBounds 0 (Value.iface 28 (Value.int i64 n))).setIfInBounds 2 (Value.iface 28 (Value.int i64 n))).setIfInBounds 3 (Value.bool true))=
   ⟨[.pointer (some p),.pointer (some q),.iface 28 (.int .i64 n),.iface 28 (.int .i64 n),.iface 28 (.int .i64 n),.bool true,undef,undef,undef]⟩:=by rfl
 rw[et];refine D0 (P:=aM) (m:=.held) (ds:=[]) (l:=[.pointer (some p),.pointer (some q),.iface 28 (.int .i64 n),.iface 28 (.int .i64 n),.iface 28 (.int .i64 n),.bool true,undef,undef,undef]) (K:=λl' w'=>P w') (E:=λ_ _=>False) (Eq.mp (α:=∃Sw:World->Prop,Sw w.drew/\(cJ p (λw1=>cJ q P 0 [.int .i64 n] w1) 0 [(.int .i64 0),(.bool false),(.string (S ([]:List UInt8))),(.slice none 0 0),(.slice none 0 0),(.slice none 0 0),(.slice none 0 0),(.slice none 0 0)] w.drew)/\(cJ p (λw1=>cJ q P 0 [.int .i64 n] w1) 0 [(.int .i64 0),(.bool false),(.string (S ([]:List UInt8))),(.slice none 0 0),(.slice none 0 0),(.slice none 0 0),(.slice none 0 0),(.slice none 0 0)] w.drew)) (by kernel_rfl) ⟨λ_=>True,trivial,h,h⟩) ?_ ?_
 .intro l' w' _ hP
  cases c₀;simp_all [bodyPostS,results,Tryz.results53,act,settle]
 .intro l' c w' _ h
  exact h.elim
def abw:∀n,Ends (se n)
 |0=>λs t h=>by cases h
 |n+1=>by
  intro s t h;rw[se]at h;split at h
  .obtain rfl:=bU h;exact yd _
  .split at h
   .rename_i x hx
    exact(abw n _ _ h).trans (aqN 30 _ _ hx)
   .cases h
def aqd{a:UInt8}{r t:ag}{l:List Tok}(h:ku a r=some (l,t)):
  ((a=32\/a=9)/\l=[]/\t=r)\/(a=35/\l=[]/\t=uR r)\/(a=10/\l=[(2,[10])]/\t=r)\/
  ((¬(a=32\/a=9)/\¬a=35/\¬a=10)/\oK a=true/\l=[(1,(a::r).take (iu (a::r)))]/\t=(a::r).drop (iu (a::r)))\/
  ((¬(a=32\/a=9)/\¬a=35/\¬a=10)/\oK a=false/\∃p,p≠[]/\a::r=p++t/\nW (p++t)=some t/\l=[(0,p)]):=by
 unfold ku at h
 by_cases h1:a=32\/a=9
 .rw[aL h1]at h
  obtain⟨rfl,rfl⟩:=aIN .. ▸bU h;exact .inl ⟨h1,rfl,rfl⟩
 rw[aG h1]at h
 by_cases h2:a=35
 .rw[aL h2]at h
  obtain⟨rfl,rfl⟩:=aIN .. ▸bU h;exact .inr (.inl ⟨h2,rfl,rfl⟩)
 rw[aG h2]at h
 by_cases h3:a=10
 .rw[aL h3]at h
  obtain⟨rfl,rfl⟩:=aIN .. ▸bU h;exact .inr (.inr (.inl ⟨h3,rfl,rfl⟩))
 rw[aG h3]at h
 by_cases h4:oK a=true
 .rw[aL h4]at h
  obtain⟨rfl,rfl⟩:=aIN .. ▸bU h;exact .inr (.inr (.inr (.inl ⟨⟨h1,h2,h3⟩,h4,rfl,rfl⟩)))
 rw[aG h4]at h;have h4:oK a=false:=by simpa using h4
 refine .inr (.inr (.inr (.inr ⟨⟨h1,h2,h3⟩,h4,?_⟩)));split at h
 .rename_i t' ht
  obtain⟨rfl,rfl⟩:=aIN .. ▸bU h;obtain⟨p,hp⟩:=abw _ _ _ ht;have hlen:=R8 (s:=a::r) h4 ht;refine⟨p,?_,hp.symm,by rw[hp];exact ht,?_⟩
  .rintro rfl
   rw[<-hp]at hlen;simp at hlen
  .rw[<-hp]
   simp
 .cases h
def aaB{a:UInt8}{r t p:ag}(h:¬(a=32\/a=9)/\¬a=35/\¬a=10)(he:oK a=false)(hp:a::r=p++t)(hw:nW (p++t)=some t):ku a r=some ([(0,p)],t):=by unfold ku;rw[aG h.1,aG h.2.1,aG h.2.2,aG (by rw[he];decide),hp,hw];simp
def ato{a:UInt8}{r:ag}(h:¬(a=32\/a=9)/\¬a=35/\¬a=10)(he:oK a=true):ku a r=some ([(1,(a::r).take (iu (a::r)))],(a::r).drop (iu (a::r))):=by unfold ku;rw[aG h.1,aG h.2.1,aG h.2.2,aL he]
def L6{a:UInt8}{r t:ag}{l:List Tok}(h:ku a r=some (l,t)):toks (a::r)=(toks t).map (l++·):=by rw[SZ,h];rfl
def map_nil(o:Option (List Tok)):o.map (([]:List Tok)++·)=o:=by cases o<;>simp
end Go.Proofs.YtihaaoehhgmphaaGreatDoor.L
