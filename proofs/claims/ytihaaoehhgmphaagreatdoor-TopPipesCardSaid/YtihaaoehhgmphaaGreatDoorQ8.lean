/- Texts of one proof, one behind the other. Conditions: as each theorem names them. -/
import Derived.Test.YtihaaoehhgmphaaGreatDoorQ7
import Derived.Tactics
import Derived.Tactics2
import Derived.Defers
import Derived.Recover
import Derived.Laws.Pointers
set_option linter.all false
namespace Go.Proofs.YtihaaoehhgmphaaGreatDoor.L
open IntKind Go.RowKit Vc
variable{w:World}
abbrev Scan(w:World)(g:Nat)(s:ag):Prop:=Row w g 200 ⟨[.string (S s)]⟩
abbrev dy(g:Nat)(w w':World):Prop:=Mod (λi=>i=g) w w'
def dy.trans{g:Nat}{a b c:World}(h:dy g a b)(k:dy g b c):dy g a c:=Mod.trans h k (λ_ h=>h) (λ_ _ h=>h)
def Hv:List PanicEntry:=[{v:=.iface 28 (.int .i64 80),recovered:=false}]
def mV(g:Nat)(w:World)(o:Option ag)(e:Ending)(w':World):Prop:=
 dy g w w'/\match o with
  |some t=>e=.returned (.tuple #[])/\Scan w' g t
  |none=>e=.panicked Hv/\∃t,Scan w' g t
def aJl(ok:Bool):aH3 xE #[.bool ok] w (λe w'=>e=(if ok=true then .returned (.tuple #[])else .panicked Hv)/\w'=w):=by
 refine ank _ _ _ ?_;exact aB (λh=>by have:ok=false:=(by simpa using h);subst this;exact⟨rfl,rfl⟩) (λh=>by have:ok=true:=(by simpa using h);subst this;exact⟨rfl,rfl⟩)
def Scan.cell{g:Nat}{s:ag}(h:Scan w g s):w.cell? ⟨g,0,none⟩=some (.string (S s)):=h.dY rfl
def Scan.put{g:Nat}{s:ag}(h:Scan w g s)(t:ag):Scan (w.setCell ⟨g,0,none⟩ (.string (S t))) g t:=h.gZ 0 _
def dy.put{g:Nat}(t:Value):dy g w (w.setCell ⟨g,0,none⟩ t):=(Mod.refl (λi=>i=g) w).setCell (p:=⟨g,0,none⟩) (.inl rfl) _
def xK{g:Nat}{s:ag}(h:Scan w g s)(n:Nat):aH3 ot #[.pointer (some ⟨g,0,none⟩),.int .i64 (n:Int)] w
  (λe w'=>mV g w (if n<=s.length then some (s.drop n)else none) e w'):=by
 refine akK _ _ _ _ ?_;refine⟨_,h.cell,(aJl _).mono ?_⟩;rintro _ w1 ⟨rfl,rfl⟩
 by_cases hn:n<=s.length
 .rw[aR hn,aR (fV (by omega))]
  refine .inl ⟨rfl,_,h.cell,by omega,by omega,h.wr 0 (by simp),dy.put _,rfl,?_⟩;rw[bT];exact h.put _
 .rw[aL hn,aL (by simp;omega)]
  exact .inr ⟨_,rfl,Mod.refl _ _,rfl,s,h⟩
def mV.next{g:Nat}{o:Option ag}{e:Ending}{w1 w':World}(hm:dy g w w1)(h:mV g w1 o e w'):mV g w o e w':=⟨hm.trans h.1,h.2⟩
def mV.on{g:Nat}{o:Option ag}{f:ag->Option ag}{e:Ending}{w1:World}{R:Ending->World->Prop}(hr:∀e w',mV g w (o.bind f) e w'->R e w')(h:mV g w o e w1){K:World->Prop}
  (hk:∀t,o=some t->dy g w w1->Scan w1 g t->(∀e w',mV g w1 (f t) e w'->R e w')->K w1):(e=.returned (.tuple #[])/\K w1)\/(∃ch,e=.panicked ch/\R (.panicked ch) w1):=by
 obtain⟨hm,h⟩:=h;cases o with
 |none=>obtain⟨rfl,ht⟩:=h;exact .inr ⟨_,rfl,hr _ _ ⟨hm,rfl,ht⟩⟩
 |some t=>obtain⟨rfl,ht⟩:=h;exact .inl ⟨rfl,hk t rfl hm ht (λe w' h=>hr _ _ (mV.next hm h))⟩
def aaP:∀s:ag,(if 0<=Go.Lib.indexByte s 39 then some (s.drop (Go.Lib.indexByte s 39+1).toNat)else none)=aJT s/\(0<=Go.Lib.indexByte s 39->Go.Lib.indexByte s 39<s.length)/\-1<=Go.Lib.indexByte s 39
 |[]=>⟨rfl,by decide,by decide⟩
 |a::r=>by
  obtain⟨h1,h2,h3⟩:=aaP r;simp only[Go.Lib.indexByte,aJT,Du]
  by_cases ha:a=39
  .rw[aR ha,aR ha]
   refine⟨rfl,λ_=>by simp only[bf];omega,by decide⟩
  .rw[aL ha,aL ha,<-h1]
   by_cases hr:Go.Lib.indexByte r 39= -1
   .rw[aR hr,hr]
    exact⟨rfl,λh=>absurd h (by decide),by decide⟩
   .rw[aL hr,aR (by omega),aR (by omega)]
    refine⟨?_,λ_=>by simp only[bf];have:=h2 (by omega);omega,by omega⟩;congr 1;rw[show(Go.Lib.indexByte r 39+1+1).toNat=(Go.Lib.indexByte r 39+1).toNat+1 by omega,Bi]
def L9(d:Nat):Prop:=∀(w:World) (g:Nat) (s:ag),s≠[]->Scan w g s->s.length<1000000->aH3 zj #[.pointer (some ⟨g,0,none⟩),.int .i64 (31-(d:Int))] w (λe w'=>mV g w (aIt d s) e w')
def LP(d:Nat):Prop:=∀(w:World) (g:Nat) (s:ag) (c:UInt8),Scan w g s->s.length<1000000->aH3 Bg #[.pointer (some ⟨g,0,none⟩),.int .u8 (c.toNat:Int),.int .i64 (31-(d:Int))] w (λe w'=>mV g w (eU d c s) e w')
set_option maxHeartbeats 1000000 in
def aLL{d:Nat}(hd:d<=31)(ih:d≠0->LP (d-1)):L9 d:=by
 intro w g s hs h hlen;refine akP _ _ _ _ ?_;refine(aJl _).mono ?_;rintro _ w1 ⟨rfl,rfl⟩
 by_cases hd0:d=0
 .subst hd0
  rw[aL (by simp),aap];exact .inr ⟨_,rfl,Mod.refl _ _,rfl,s,h⟩
 obtain⟨k,rfl⟩:∃k,d=k+1:=⟨d-1,by omega⟩;have ih:=ih hd0;rw[Py]at ih;have e1:i64.wrap (31-((k+1:Nat):Int)+1)=31-(k:Int):=by rw[wrap_i64 (by omega) (by omega)];omega
 rw[aR (fV (by omega)),e1];obtain⟨a,r,rfl⟩:=aKs hs;simp only[bf]at hlen;have hu:aIt (k+1) (a::r)=kH (eU k) (a::r):=rfl;rw[hu]
 -- a skip, and what ends
 have U0:∀(n:Nat) (c:UInt8) (s2:ag),n<=(a::r).length->(a::r).drop n=s2->∀R:Ending->World->Prop,(∀e w',mV g w1 (eU k c s2) e w'->R e w')->
   aH3 ot #[(.pointer (some ⟨g,0,none⟩)),(.int .i64 (n:Int))] w1 (λmh w6=>(mh=.returned (.tuple #[])/\aH3 Bg #[(.pointer (some ⟨g,0,none⟩)),(.int .u8 (c.toNat:Int)),(.int .i64 (31-(k:Int)))] w6 (λaJw w7=>(aJw=.returned (.tuple #[])/\R (.returned (.tuple #[])) w7)\/(∃IN,aJw=.panicked IN/\R (.panicked IN) w7)))\/(∃aJ7,mh=.panicked aJ7/\R (.panicked aJ7) w6)):=by
  intro n c s2 hn afM R hR;refine(xK h n).mono λe w6 ht=>?_;rw[aR hn,afM]at ht;obtain⟨hm,rfl,hs2⟩:=ht;have kJ:s2.length<1000000:=by rw[<-afM];simp only[jx,bf];omega
  refine .inl ⟨rfl,(ih w6 g s2 c hs2 kJ).mono λe w7 ht=>?_⟩;have ht:=mV.next hm ht;cases ho:eU k c s2 with
  |none=>rw[ho]at ht;obtain⟨hm2,rfl,h3⟩:=ht;exact .inr ⟨_,rfl,hR _ _ (by rw[ho];exact⟨hm2,rfl,h3⟩)⟩
  |some t=>rw[ho]at ht;obtain⟨hm2,rfl,h3⟩:=ht;exact .inl ⟨rfl,hR _ _ (by rw[ho];exact⟨hm2,rfl,h3⟩)⟩
 have SE:∀(n:Nat) (o:Option ag),(if n<=(a::r).length then some ((a::r).drop n)else none)=o->∀R:Ending->World->Prop,(∀e w',mV g w1 o e w'->R e w')->
   aH3 ot #[(.pointer (some ⟨g,0,none⟩)),(.int .i64 (n:Int))] w1 (λmh w6=>(mh=.returned (.tuple #[])/\R (.returned (.tuple #[])) w6)\/(∃aJ7,mh=.panicked aJ7/\R (.panicked aJ7) w6)):=by
  intro n o ho R hR;refine(xK h n).mono λe w6 ht=>?_;rw[ho]at ht;cases o with
  |none=>obtain⟨hm2,rfl,h3⟩:=ht;exact .inr ⟨_,rfl,hR _ _ ⟨hm2,rfl,h3⟩⟩
  |some t=>obtain⟨hm2,rfl,h3⟩:=ht;exact .inl ⟨rfl,hR _ _ ⟨hm2,rfl,h3⟩⟩
 refine .inl ⟨rfl,_,h.cell,by decide,a,rfl,aB (λaIC=>?_) (λaIC=>⟨_,h.cell,by decide,a,rfl,aB (λxj=>?_) (λxj=>⟨_,h.cell,by decide,a,rfl,aB (λqd=>?_) (λqd=>⟨_,h.cell,?_⟩)⟩)⟩)⟩
 .have aIC:a=92:=dS.1 (aT aIC)
  refine SE 2 _ ?_ _ (λe w' h=>h);simp only[kH,aR aIC];cases r with
  |nil=>rfl
  |cons b t=>simp
 .have aIC:¬a=92:=λe=>a_ aIC (dS.2 e)
  have xj:a=39:=dS.1 (aT xj);refine⟨_,h.cell,by decide,by simp only[bf];omega,?_⟩;have hq:kH (eU k) (a::r)=aJT r:=by simp only[kH,aL aIC,aR xj]
  rw[hq];obtain⟨i1,i2,i3⟩:=aaP r;refine(Tryz.strings_IndexByte (S r) 39 _).mono ?_;rintro _ w3 ⟨rfl,rfl⟩;have WD:Go.Lib.indexByte (S r).data.toList (Int.toNat 39).toUInt8=Go.Lib.indexByte r 39:=rfl;rw[WD];generalize Go.Lib.indexByte r 39=ix at i1 i2 i3;refine .inl ⟨_,rfl,(aJl _).mono ?_⟩;rintro _ w4 ⟨rfl,rfl⟩
  by_cases h0:0<=ix
  .obtain⟨n,rfl⟩:=ON h0
   have i2:=i2 h0;have e2:i64.wrap ((n:Int)+2)=((n+2:Nat):Int):=by rw[wrap_i64 (by omega) (by omega)];omega
   rw[aR (fV h0),e2];refine .inl ⟨rfl,SE (n+2) _ ?_ _ (λe w' h=>h)⟩;rw[<-i1,aR h0,aR (by simp only[bf];omega),show((n:Int)+1).toNat=n+1 by omega];rfl
  .rw[aL (by simpa using h0)]
   refine .inr ⟨_,rfl,?_⟩;rw[<-i1,aL h0];exact⟨Mod.refl _ _,rfl,_,h⟩
 .have aIC:¬a=92:=λe=>a_ aIC (dS.2 e)
  have xj:¬a=39:=λe=>a_ xj (dS.2 e);have qd:a=34:=dS.1 (aT qd);have hq:kH (eU k) (a::r)=eU k 34 r:=by simp only[kH,aL aIC,aL xj,aR qd]
  rw[hq];exact U0 1 34 r (by simp) rfl _ (λe w' h=>h)
 .have aIC:¬a=92:=λe=>a_ aIC (dS.2 e)
  have xj:¬a=39:=λe=>a_ xj (dS.2 e);have qd:¬a=34:=λe=>a_ qd (dS.2 e);have hq:kH (eU k) (a::r)=BT (eU k) a r:=by simp only[kH,aL aIC,aL xj,aL qd]
  rw[hq];have hp:∀x:UInt8,Go.Lib.hasPrefix (S (a::r)).data.toList (S [36,x]).data.toList=(match r with
   |b::_=>decide (a=36/\b=x)
   |[]=>false):=by
   intro x;show List.isPrefixOf [36,x] (a::r)=_
   cases r with
   |nil=>simp[List.isPrefixOf]
   |cons b t=>
    simp only[List.isPrefixOf,Bool.and_true]
    by_cases h1:a=36
    ·by_cases h2:b=x
     .simp[h1,h2]
     .have:¬x=b:=λe=>h2 e.symm
      simp[h1,h2,this]
    .have:¬36=a:=λe=>h1 e.symm
     simp[h1,this]
  refine(Tryz.strings_HasPrefix (S (a::r)) (S [36,40]) _).mono ?_;rintro _ w3 ⟨rfl,rfl⟩;rw[hp 40];refine .inl ⟨_,rfl,aB (λvD=>?_) (λvD=>⟨_,h.cell,(Tryz.strings_HasPrefix (S (a::r)) (S [36,123]) _).mono ?_⟩)⟩
  .cases r with
   |nil=>cases vD
   |cons b t=>have vD:=aT vD;simp only[BT,aR vD];exact U0 2 41 t (by simp) rfl _ (λe w' h=>h)
  .rintro _ w4 ⟨rfl,rfl⟩
   rw[hp 123];refine .inl ⟨_,rfl,aB (λAG=>?_) (λAG=>?_)⟩
   .cases r with
    |nil=>cases AG
    |cons b t=>have vD:=a_ vD;have AG:=aT AG;simp only[BT,aL vD,aR AG];exact U0 2 125 t (by simp) rfl _ (λe w' h=>h)
   .refine SE 1 _ ?_ _ (λe w' h=>h)
    cases r with
    |nil=>rfl
    |cons b t=>have vD:=a_ vD;have AG:=a_ AG;simp only[BT,aL vD,aL AG];simp
def uc(g:Nat)(w:World):Nat:=match w.cell? ⟨g,0,none⟩with
 |some (.string s)=>s.data.size
 |_=>0
def Scan.len{g:Nat}{s:ag}(h:Scan w g s):uc g w=s.length:=by unfold uc;rw[h.cell];rfl
set_option maxHeartbeats 1000000 in
def ac0{d:Nat}(hd:d<=31)(hu:L9 d)(ih:d≠0->LP (d-1)):LP d:=by
 intro w g s c h hlen;refine akt _ _ _ _ _ ?_;refine⟨λw1=>∃s1,Scan w1 g s1/\dy g w w1/\eU d c s1=eU d c s/\s1.length<=s.length,uc g,⟨s,h,Mod.refl _ _,rfl,aW _⟩,?_⟩;rintro _ w1 ⟨s1,h1,aId,he,hl⟩;rw[<-he];refine⟨_,h1.cell,(aJl _).mono ?_⟩;rintro _ w2 ⟨rfl,rfl⟩;cases s1 with
 |nil=>rw[aL (by simp),aqP];exact .inr ⟨_,rfl,aId,rfl,_,h1⟩
 |cons b r=>
  rw[aR (by simp)];rw[apL]at he⊢;simp only[bf]at hl;refine .inl ⟨rfl,_,h1.cell,by decide,b,rfl,aB (λhb=>?_) (λhb=>?_)⟩
  .have hb:b=c:=dS.1 (aT hb)
   rw[aR hb];refine(xK h1 1).mono λe w3 ht=>?_;rw[aR (by simp)]at ht;obtain⟨dD,rfl,h3⟩:=ht;exact .inl ⟨rfl,aId.trans dD,rfl,h3⟩
  .have hb:¬b=c:=λe=>a_ hb (dS.2 e)
   rw[aL hb]at he⊢
   -- what goes on behind a taking
   have on:∀(o:Option ag) (e:Ending) (w3:World),mV g w2 o e w3->o.bind (eU d c)=eU d c s->(∀t,o=some t->t.length<=r.length)->
     (e=.returned (.tuple #[])/\(∃s1,Scan w3 g s1/\dy g w w3/\eU d c s1=eU d c s/\s1.length<=s.length)/\uc g w3<uc g w2)\/(∃ch,e=.panicked ch/\mV g w (eU d c s) (.panicked ch) w3):=by
    intro o e w3 ht ho hlo;obtain⟨dD,ht⟩:=ht;cases o with
    |none=>obtain⟨rfl,h3⟩:=ht;refine .inr ⟨_,rfl,aId.trans dD,?_⟩;rw[<-ho];exact⟨rfl,h3⟩
    |some t=>obtain⟨rfl,h3⟩:=ht;have:=hlo t rfl;refine .inl ⟨rfl,⟨t,h3,aId.trans dD,ho,by omega⟩,?_⟩;rw[h3.len,h1.len];simp only[bf];omega
   have hrl:r.length<1000000:=by omega
   have unit:(aIt d (b::r)).bind (eU d c)=eU d c s->aH3 zj #[(.pointer (some ⟨g,0,none⟩)),(.int .i64 (31-(d:Int)))] w2 (λve aO=>(ve=.returned (.tuple #[])/\(∃s1,Scan aO g s1/\dy g w aO/\eU d c s1=eU d c s/\s1.length<=s.length)/\uc g aO<uc g w2)\/(∃IM,ve=.panicked IM/\mV g w (eU d c s) (.panicked IM) aO)):=by intro ho;refine(hu w2 g (b::r) (Yk _ _) h1 (by simp only[bf];omega)).mono λe w3 ht=>?_;refine on _ e w3 ht ho λt ht=>?_;have:=vX d _ _ ht;simp only[bf]at this;omega
   have wd:decide (31-(d:Int)<=30)=decide (d≠0):=by apply qW.2;omega
   rw[wd];have hres:eU d c s=(if c=34/\b=39 then(if d=0 then none else eU d c r)else if c=41/\b=40 then(if d=0 then none else(eU (d-1) 41 r).bind (eU d c))else(aIt d (b::r)).bind (eU d c)):=he.symm;rw[he];refine⟨λx w4=>x=decide (c=34/\b=39)/\w4=w2,aB (λhc=>⟨?_,rfl⟩) (λhc=>⟨?_,rfl⟩),?_⟩
   .have hc:c=34:=dS.1 (aT hc)
    apply qW.2;exact⟨λh=>⟨hc,dS.1 h⟩,λh=>dS.2 h.2⟩
   .rw[aIl (λh=>a_ hc (dS.2 h.1))]
   rintro _ _ w4 ⟨rfl,rfl⟩;refine aB (λhq=>?_) (λhq=>?_)
   .have hq:=aT hq
    rw[aR hq]at hres;refine(aJl _).mono ?_;rintro _ w5 ⟨rfl,rfl⟩
    by_cases hd0:d=0
    .rw[aR hd0]at hres
     rw[aL (by simp[hd0])];refine .inr ⟨_,rfl,?_⟩;rw[hres];exact⟨aId,rfl,_,h1⟩
    .rw[aL hd0]at hres
     rw[aR (by simp[hd0])];refine .inl ⟨rfl,(xK h1 1).mono λe w6 ht=>?_⟩;rw[aR (by simp)]at ht;refine on (some r) e w6 ht hres.symm λt ht=>?_;obtain rfl:=bM ht;exact aW _
   .have hq:=a_ hq
    rw[aL hq]at hres;refine aB (λhc=>aB (λCj=>?_) (λCj=>?_)) (λhc=>?_)
    .have hc:c=41:=dS.1 (aT hc)
     have Cj:b=40:=dS.1 (aT Cj);rw[aR ⟨hc,Cj⟩]at hres;refine(aJl _).mono ?_;rintro _ w5 ⟨rfl,rfl⟩
     by_cases hd0:d=0
     .rw[aR hd0]at hres
      rw[aL (by simp[hd0])];refine .inr ⟨_,rfl,?_⟩;rw[hres];exact⟨aId,rfl,_,h1⟩
     .rw[aL hd0]at hres
      rw[aR (by simp[hd0])];have e1:i64.wrap (31-(d:Int)+1)=31-((d-1:Nat):Int):=by rw[wrap_i64 (by omega) (by omega)];omega
      rw[e1];refine .inl ⟨rfl,(xK h1 1).mono λe w6 ht=>?_⟩;rw[aR (by simp)]at ht;obtain⟨k5,rfl,h6⟩:=ht;refine .inl ⟨rfl,(ih hd0 w6 g r 41 h6 hrl).mono λe w7 ht=>?_⟩;refine on _ e w7 (mV.next k5 ht) hres.symm λt ht=>?_;exact Dn (aKN (d-1) 41 _ _ ht)
    .have Cj:¬b=40:=λe=>a_ Cj (dS.2 e)
     rw[aL (λh=>Cj h.2)]at hres;exact unit hres.symm
    .have hc:¬c=41:=λe=>a_ hc (dS.2 e)
     rw[aL (λh=>hc h.1)]at hres;exact unit hres.symm
def levels:∀d,d<=31->L9 d/\LP d
 |0,h=>⟨aLL h (λh=>absurd rfl h),ac0 h (aLL h (λh=>absurd rfl h)) (λh=>absurd rfl h)⟩
 |d+1,h=>by have ih:=(levels d (by omega)).2;have hu:L9 (d+1):=aLL h (λ_=>ih);exact⟨hu,ac0 h hu (λ_=>ih)⟩
def abX{g:Nat}{s:ag}(hs:s≠[])(h:Scan w g s)(hl:s.length<1000000):aH3 zj #[.pointer (some ⟨g,0,none⟩),.int .i64 1] w (λe w'=>mV g w (aIt 30 s) e w'):=
 (levels 30 (by decide)).1 w g s hs h hl
def x_(c:UInt8):Bool:=c==32||c==9||c==10||c==59||c==124||c==38||c==40||c==41||c==60||c==62
def uV:ag->Bool
 |[]=>true
 |c::_=>x_ c
def Zt{g:Nat}{s:ag}(h:Scan w g s):aH3 JS #[.pointer (some ⟨g,0,none⟩)] w (λe w'=>e=.returned (.bool (uV s))/\w'=w):=by
 refine akL _ _ _ ?_;refine⟨_,h.cell,aB (λhe=>?_) (λhe=>⟨_,h.cell,by decide,?_⟩)⟩
 .have he:=aT he
  subst he;exact⟨rfl,rfl⟩
 .have he:=a_ he
  obtain⟨b,r,rfl⟩:=aKs he;refine⟨b,rfl,(Tryz.strings_IndexByte (S [32,9,10,59,124,38,40,41,60,62]) _ _).mono ?_⟩;rintro _ w1 ⟨rfl,rfl⟩;refine .inl ⟨_,rfl,?_,rfl⟩;rw[Q7,show(S [32,9,10,59,124,38,40,41,60,62]).data.toList=[32,9,10,59,124,38,40,41,60,62]from rfl,Ld];congr 2;simp only[uV,x_,C8,FA,Bm,Qj]
def rF:Nat->ag->Option ag
 |0,_=>none
 |n+1,s=>if uV s=true then some s else match aIt 30 s with
  |some t=>rF n t
  |none=>none
def aaQ:∀(n m:Nat) (s:ag),s.length<n->s.length<m->rF n s=rF m s
 |0,_,_,h,_=>by omega
 |_,0,_,_,h=>by omega
 |n+1,m+1,s,hn,hm=>by
  rw[rF,rF];split;·rfl
  .cases hu:aIt 30 s with
   |none=>rfl
   |some t=>have:=vX 30 _ _ hu;exact aaQ n m t (by omega) (by omega)
def pX(s:ag):Option ag:=rF (s.length+1) s
def arp{s:ag}(h:uV s=true):pX s=some s:=by rw[pX,rF,aR h]
def aaR{s t:ag}(h:uV s=false)(hu:aIt 30 s=some t):pX s=pX t:=by have:=vX 30 _ _ hu;rw[pX,rF,aL (by rw[h];decide),hu];exact aaQ _ _ _ (by omega) (by omega)
def aaS{s:ag}(h:uV s=false)(hu:aIt 30 s=none):pX s=none:=by rw[pX,rF,aL (by rw[h];decide),hu]
def apj{g:Nat}{s:ag}(h:Scan w g s)(hl:s.length<1000000):aH3 Po #[.pointer (some ⟨g,0,none⟩)] w
  (λe w'=>dy g w w'/\match pX s with
   |some t=>e=.returned (.string (S (s.take (s.length-t.length))))/\Scan w' g t/\t.length<=s.length
   |none=>e=.panicked Hv/\∃t,Scan w' g t):=by
 refine akM _ _ _ ?_;refine⟨_,h.cell,λw1=>∃s1,Scan w1 g s1/\dy g w w1/\pX s1=pX s/\s1.length<=s.length,uc g,⟨s,h,Mod.refl _ _,rfl,aW _⟩,?_⟩;rintro _ w1 ⟨s1,h1,aId,he,hle⟩;rw[<-he];refine(Zt h1).mono ?_;rintro _ w2 ⟨rfl,rfl⟩;refine .inl ⟨_,rfl,aB (λhne=>?_) (λhne=>?_)⟩
 .have hne:uV s1=false:=by simpa using hne
  have hs1:s1≠[]:=by rintro rfl;cases hne
  refine(abX hs1 h1 (by omega)).mono λe w3 ht=>?_;obtain⟨dD,ht⟩:=ht;cases hu:aIt 30 s1 with
  |none=>rw[hu]at ht;obtain⟨rfl,h3⟩:=ht;refine .inr ⟨_,rfl,aId.trans dD,?_⟩;rw[aaS hne hu];exact⟨rfl,h3⟩
  |some t=>rw[hu]at ht;obtain⟨rfl,h3⟩:=ht;have hlt:=vX 30 _ _ hu;refine .inl ⟨rfl,⟨t,h3,aId.trans dD,(aaR hne hu).symm,by omega⟩,?_⟩;rw[h3.len,h1.len];exact hlt
 .have hne:uV s1=true:=by simpa using hne
  have ew:i64.wrap ((s.length:Int)-(s1.length:Int))=((s.length-s1.length:Nat):Int):=by rw[wrap_i64 (by omega) (by omega)];omega
  refine⟨_,h1.cell,?_⟩
  try dsimp only[zR]
  rw[ew,bT,arp hne];exact⟨by omega,by omega,aId,rfl,h1,hle⟩
def jb:ag->Nat
 |a::b::_=>if a=b/\([38,124,59,62]:ag).contains a=true then 2 else 1
 |_=>1
def arq{g:Nat}{s:ag}(h:Scan w g s)(hs:s≠[]):aH3 OP #[.pointer (some ⟨g,0,none⟩)] w
  (λe w'=>dy g w w'/\e=.returned (.string (S (s.take (jb s))))/\Scan w' g (s.drop (jb s))):=by
 refine ajV _ _ _ ?_;have hol:jb s<=s.length/\(jb s=1\/jb s=2):=by
  match s,hs with
  |[a],_=>exact⟨aW _,.inl rfl⟩
  |a::b::r,_=>simp only[jb];split<;>simp
 refine⟨λn w3=>n=(jb s:Int)/\Scan w3 g s/\dy g w w3,⟨λx w2=>x=decide (jb s=2)/\Scan w2 g s/\dy g w w2,⟨λwq=>Scan wq g s,h.drew,_,λwq hq=>hq.cell,aB (λhl=>?_) (λhl=>⟨?_,h.drew,(Mod.refl _ _).drew⟩)⟩,?_⟩,?_⟩
 ·match s,hs,h with
  |a::b::r,_,h=>
   refine⟨_,λwq hq=>hq.cell,by decide,a,rfl,_,λwq hq=>hq.cell,by decide,b,rfl,aB (λhab=>⟨_,λwq hq=>hq.cell,by decide,a,rfl,(Tryz.strings_IndexByte (S [38,124,59,62]) _ _).mono ?_⟩) (λhab=>⟨?_,h.drew,(Mod.refl _ _).drew⟩)⟩
   .have hab:a=b:=dS.1 (aT hab)
    rintro _ w1 ⟨rfl,rfl⟩;refine .inl ⟨_,rfl,?_,h.drew,(Mod.refl _ _).drew⟩;rw[Q7,show(S [38,124,59,62]).data.toList=[38,124,59,62]from rfl,Ld]
    by_cases hc:([38,124,59,62]:ag).contains a=true
    .have ho:jb (a::b::r)=2:=by simp only[jb,aR (And.intro hab hc)]
     rw[hc,fV ho]
    .have ho:jb (a::b::r)=1:=by simp only[jb,aL (λh=>hc (And.right h))]
     have Ir:([38,124,59,62]:ag).contains a=false:=by simpa using hc
     rw[Ir,aIl (by omega)]
   .have hab:¬a=b:=λe=>a_ hab (dS.2 e)
    have ho:jb (a::b::r)=1:=by simp only[jb,aL (λh=>hab (And.left h))]
    exact(aIl (by omega)).symm
  |[a],_,h=>simp at hl
 ·match s,hs with
  |[a],_=>rfl
  |a::b::r,_=>have:=a_ hl;simp only[bf]at this;omega
 .rintro _ _ w2 ⟨rfl,h2,hm2⟩
  refine aB (λh=>⟨?_,h2,hm2⟩) (λh=>⟨?_,h2,hm2⟩)
  .rw[aT h];rfl
  .have:=a_ h
   rcases hol.2 with e|e
   .rw[e];rfl
   .exact absurd e this
 .rintro _ _ w3 ⟨rfl,h3,dD⟩
  refine⟨_,h3.cell,by omega,by omega,(xK h3 (jb s)).mono λe w4 ht=>?_⟩;rw[aR hol.1]at ht;obtain⟨k4,rfl,h4⟩:=ht;refine .inl ⟨rfl,dD.trans k4,?_,h4⟩;rw[bT]
def ud:ag->ag
 |[]=>[]
 |a::r=>if a=10 then a::r else ud r
def abY:∀s:ag,ud s=(if 0<=Go.Lib.indexByte s 10 then s.drop (Go.Lib.indexByte s 10).toNat else[])/\(0<=Go.Lib.indexByte s 10->Go.Lib.indexByte s 10<s.length)/\-1<=Go.Lib.indexByte s 10
 |[]=>⟨rfl,by decide,by decide⟩
 |a::r=>by
  obtain⟨h1,h2,h3⟩:=abY r;simp only[Go.Lib.indexByte,ud,Du]
  by_cases ha:a=10
  .rw[aR ha,aR ha]
   refine⟨rfl,λ_=>by simp only[bf];omega,by decide⟩
  .rw[aL ha,aL ha,h1]
   by_cases hr:Go.Lib.indexByte r 10= -1
   .rw[aR hr,hr]
    exact⟨rfl,λh=>absurd h (by decide),by decide⟩
   .rw[aL hr,aR (by omega),aR (by omega)]
    refine⟨?_,λ_=>by simp only[bf];have:=h2 (by omega);omega,by omega⟩;rw[show(Go.Lib.indexByte r 10+1).toNat=(Go.Lib.indexByte r 10).toNat+1 by omega,Bi]
def anU{g:Nat}{s:ag}(h:Scan w g s):aH3 OR #[.pointer (some ⟨g,0,none⟩)] w (λe w'=>dy g w w'/\e=.returned (.tuple #[])/\Scan w' g (ud s)):=by
 refine ajZ _ _ _ ?_;refine⟨_,h.cell,(Tryz.strings_IndexByte (S s) 10 _).mono ?_⟩;rintro _ w1 ⟨rfl,rfl⟩;have WD:Go.Lib.indexByte (S s).data.toList (Int.toNat 10).toUInt8=Go.Lib.indexByte s 10:=rfl;rw[WD];obtain⟨i1,i2,i3⟩:=abY s;generalize Go.Lib.indexByte s 10=ix at i1 i2 i3;refine .inl ⟨_,rfl,aB (λh0=>?_) (λh0=>⟨h.wr 0 (by simp),dy.put _,rfl,?_⟩)⟩
 .have h0:=aT h0
  obtain⟨n,rfl⟩:=ON h0;have i2:=i2 h0;refine(xK h n).mono λe w2 ht=>?_;rw[aR (by omega)]at ht;obtain⟨hm2,rfl,h2⟩:=ht;rw[aR h0,bT]at i1;rw[i1];exact .inl ⟨rfl,hm2,rfl,h2⟩
 .have h0:=a_ h0
  rw[aL h0]at i1;rw[i1];exact h.put _
abbrev Tok:=Nat×ag
def QJ:∀s:ag,(ud s).length<=s.length
 |[]=>aW _
 |a::r=>by
  simp only[ud];split
  .exact aW _
  .have:=QJ r
   simp only[bf];omega
def Zu:∀(n:Nat) (s t:ag),rF n s=some t->t.length<=s.length
 |0,_,_,h=>by cases h
 |n+1,s,t,h=>by
  rw[rF]at h;split at h
  .obtain rfl:=bM h;exact aW _
  .split at h
   .rename_i t' ht
    have h1:=vX 30 _ _ ht;have h2:=Zu n _ _ h;omega
   .cases h
def Ra{s t:ag}(he:uV s=false)(h:pX s=some t):t.length<s.length:=by
 cases hu:aIt 30 s with
 |none=>rw[aaS he hu]at h;cases h
 |some t'=>rw[aaR he hu]at h;have h1:=vX 30 _ _ hu;have h2:=Zu _ _ _ h;omega
def aLI{a:UInt8}{r:ag}:0<jb (a::r)/\jb (a::r)<=(a::r).length:=by
 cases r with
 |nil=>exact⟨Nat.one_pos,aW _⟩
 |cons b r=>simp only[jb];split<;>simp
def aIW(a:UInt8)(r:ag):Option (List Tok×ag):=
 if a=32\/a=9 then some ([],r)
 else if a=35 then some ([],ud r)
 else if a=10 then some ([(2,[10])],r)
 else if x_ a=true then some ([(1,(a::r).take (jb (a::r)))],(a::r).drop (jb (a::r)))
 else match pX (a::r)with
  |some t=>some ([(0,(a::r).take ((a::r).length-t.length))],t)
  |none=>none
def yA:Nat->ag->Option (List Tok)
 |0,_=>none
 |_+1,[]=>some []
 |n+1,a::r=>match aIW a r with
  |some (l,t)=>match yA n t with
   |some m=>some (l++m)
   |none=>none
  |none=>none
def toks(s:ag):Option (List Tok):=yA (s.length+1) s
def QX{a:UInt8}{r t:ag}{l:List Tok}(h:aIW a r=some (l,t)):t.length<=r.length/\l.length<=1:=by
 unfold aIW at h;split at h
 .obtain⟨rfl,rfl⟩:=se .. ▸bM h
  exact⟨aW _,by simp⟩
 .split at h
  .obtain⟨rfl,rfl⟩:=se .. ▸bM h
   exact⟨QJ r,by simp⟩
  .split at h
   .obtain⟨rfl,rfl⟩:=se .. ▸bM h
    exact⟨aW _,by simp⟩
   .split at h
    .obtain⟨rfl,rfl⟩:=se .. ▸bM h
     have:=aLI (a:=a) (r:=r);refine⟨?_,by simp⟩;rw[jx];simp only[bf]at this⊢;omega
    .rename_i he
     split at h
     .rename_i t' ht
      obtain⟨rfl,rfl⟩:=se .. ▸bM h;have:=Ra (s:=a::r) (by simpa[uV]using he) ht;simp only[bf]at this;exact⟨by omega,by simp⟩
     .cases h
def abZ:∀(n m:Nat) (s:ag),s.length<n->s.length<m->yA n s=yA m s
 |0,_,_,h,_=>by omega
 |_,0,_,_,h=>by omega
 |n+1,m+1,[],_,_=>rfl
 |n+1,m+1,a::r,hn,hm=>by
  simp only[bf]at hn hm;simp only[yA];cases h:aIW a r with
  |none=>rfl
  |some x=>obtain⟨l,t⟩:=x;have:=(QX h).1;dsimp only;rw[abZ n m t (by omega) (by omega)]
def ac1:toks []=some []:=rfl
def ab0(a:UInt8)(r:ag):toks (a::r)=(aIW a r).bind λx=>(toks x.2).map (x.1++·):=by
 show yA (r.length+1+1) (a::r)=_;simp only[yA];cases h:aIW a r with
 |none=>rfl
 |some x=>
  obtain⟨l,t⟩:=x;have:=(QX h).1;dsimp only[Option.bind];rw[abZ (r.length+1) (t.length+1) t (by omega) (by omega)];show _=(yA (t.length+1) t).map _
  cases yA (t.length+1) t<;>rfl
def tc(l:List Tok):List Value:=l.flatMap λx=>[.int .i64 (x.1:Int),.string (S x.2)]
def atp(l m:List Tok):tc (l++m)=tc l++tc m:=by simp[tc]
def jo(s:ag):List Tok×Int:=if 20000<s.length then([],2)else match toks s with
 |some l=>(l,0)
 |none=>([],80)
structure TS(w w1:World)(s s1:ag)(acc:List Tok):Prop where
 sc:Scan w1 (w.heap.size+2) s1
 li:∃p C,Row w1 w.heap.size 126 ⟨[.slice p acc.length C]⟩/\aV w1 (w.heap.size+3) 203 2 (.slice p acc.length C) acc.length (tc acc)
 er:Row w1 (w.heap.size+1) 28 ⟨[.int .i64 0]⟩
 still:Still w w1
 size:w.heap.size+3<=w1.heap.size
 all:(toks s1).map (acc++·)=toks s
 aIh:acc.length+s1.length<=s.length
def Tn{k:Int}{t:ag}:∀u∈[Value.int .i64 k,.string (S t)],u.oneCell'=true:=by intro u hu;simp only[iQ,vO,vZ]at hu;rcases hu with rfl|rfl<;>rfl
def SG(w:World)(t:TypeId)(x y:Value):0<1->∃a:Addr,(some (Addr.mk w.heap.size 0 none))=some a/\∀(j:Nat) (u:Value),[x,y][j]?=some u->(w.alloc (.cells #[x,y] t)).cell? (a.add j)=some u:=by refine λ_=>⟨_,rfl,λj u hu=>?_⟩;rw[bR,cE];exact(Row.new w t ⟨[x,y]⟩).dY (by simpa using hu)
def TS.aJr{w w1 w2 w3:World}{s s1 t:ag}{acc:List Tok}{k:Nat}{x:ag}{p p3:Option Addr}{C C3:Nat}(h:TS w w1 s s1 acc)(hm:dy (w.heap.size+2) w1 w2)(hsc:Scan w2 (w.heap.size+2) t)
  (ho:aV w2 (w.heap.size+3) 203 2 (.slice p acc.length C) acc.length (tc acc))(hl:Row w2 w.heap.size 126 ⟨[.slice p acc.length C]⟩)
  (aJ8:aV w3 0 203 2 (Value.slice p3 (acc.length+1) C3) (acc.length+1) (tc acc++[.int .i64 (k:Int),.string (S x)])){o:Obj}(hg:(w2.alloc o).grownBy w3 (Value.ownBlock (Value.slice p acc.length C)))
  (hb:aI4 p p3 (acc.length+1) C C3 (w2.alloc o).heap.size)
  (hall:(toks t).map ((acc++[(k,x)])++·)=toks s)(ag4:acc.length+1+t.length<=s.length):
  Wr w3 ⟨w.heap.size,0,none⟩/\TS w (w3.setCell ⟨w.heap.size,0,none⟩ (.slice p3 (acc.length+1) C3)) s t (acc++[(k,x)]):=by
 have hs1:=h.size;have hs2:w.heap.size+3<=w2.heap.size:=lH hs1 hm.size;have UK:Still w w2:=Mod.trans h.still hm (λ_ h=>h) (λi hi h=>by omega);have ag5:=ho.aJr hs2 aJ8 hb;have aJ9:=hl.aJr ho (mK (by omega) (aW _)) hg;have az0:=hsc.aJr ho (by omega) hg;have az1:=h.er.mod hm (by omega);have az2:=az1.aJr ho (by omega) hg;have yx:Still w w3:=UK.aJr ho (by omega) hg;have hown:∀j,(Value.slice p3 (acc.length+1) C3).ownBlock=some j->w.heap.size+3<=j:=λj hj=>(ag5.lt j hj).1;refine⟨aJ9.wr 0 (by simp),?_⟩;refine⟨az0.far (by simp) _,⟨p3,C3,?_,?_⟩,az2.far (by simp) _,yx.setCell (.inr (aW _)) _,?_,hall,by simp;omega⟩
 .have:=aJ9.gZ 0 (.slice p3 (acc.length+1) C3)
  simpa using this
 .have:=ag5.far (p:=⟨w.heap.size,0,none⟩) (λe=>by have:=hown _ e;dsimp only at this;omega) (.slice p3 (acc.length+1) C3)
  rw[atp];simpa[tc]using this
 .have h1:=hg.size
  simp only[World.size_alloc,World.size_setCell]at h1⊢;omega
def ays{w w3:World}{s:ag}{R:Ending->World->Prop}(aJa:¬20000<s.length)(hno:toks s=none)(hst:Still w w3){x:Value}(hl:Row w3 w.heap.size 126 ⟨[x]⟩){y:Value}(he:Row w3 (w.heap.size+1) 28 ⟨[y]⟩)
  (hR:∀w',Still w w'->R (.returned (.tuple #[.slice none 0 0,.int .i64 80])) w'):
  CallsD aM zn #[(.pointer (some (Addr.mk w.heap.size 0 none))),(.pointer (some (Addr.mk (w.heap.size+1) 0 none)))] (.panicking Hv) w3 (λcV ux w4=>(∃rv,cV=.returned rv)/\settle ux=.returning/\∃(v4:Option Addr) (cM dW:Nat),w4.cell? (Addr.mk w.heap.size 0 none)=some (.slice v4 cM dW)/\∃v5:Int,w4.cell? (Addr.mk (w.heap.size+1) 0 none)=some (.int .i64 v5)/\R (.returned (.tuple #[(.slice v4 cM dW),(.int .i64 v5)])) w4):=by
 have hne:w.heap.size≠w.heap.size+1:=by omega
 have sX:=he.drew.far (p:=⟨w.heap.size,0,none⟩) hne.symm (.slice none 0 0);have kJ:=hl.drew.gZ 0 (.slice none 0 0);refine(aoy ⟨w.heap.size,0,none⟩ ⟨w.heap.size+1,0,none⟩ 80 w3 (hl.wr 0 (by simp)) (sX.wr 0 (by simp))).mono ?_;rintro _ u w4 ⟨rfl,hu,rfl⟩;have aJ9:=kJ.far (p:=⟨w.heap.size+1,0,none⟩) hne (.int .i64 80);have he3:=sX.gZ 0 (.int .i64 80);refine⟨⟨_,rfl⟩,hu,_,_,_,aJ9.dY rfl,_,he3.dY rfl,hR _ ?_⟩;exact(hst.drew.setCell (.inr (aW _)) _).setCell (.inr (Bq _)) _
set_option maxHeartbeats 2000000 in
def aqf(s:ag):aH3 Qk #[.string (S s)] w
  (λe w'=>∃p C,e=.returned (.tuple #[.slice p (jo s).1.length C,.int .i64 (jo s).2])/\aV w' w.heap.size 203 2 (.slice p (jo s).1.length C) (jo s).1.length (tc (jo s).1)/\Still w w'):=by
 refine amv _ _ _ ?_;have hl0:Row (w.alloc (.cells #[(.slice none 0 0)] 126)) w.heap.size 126 ⟨[.slice none 0 0]⟩:=Row.new _ _ _;have s1:(w.alloc (.cells #[(.slice none 0 0)] 126)).heap.size=w.heap.size+1:=World.size_alloc ..;have aKp:Row ((w.alloc (.cells #[(.slice none 0 0)] 126)).alloc (.cells #[(.int .i64 0)] 28)) (w.heap.size+1) 28 ⟨[.int .i64 0]⟩:=by have:=Row.new (w.alloc (.cells #[(.slice none 0 0)] 126)) 28 ⟨[.int .i64 0]⟩;rwa[s1]at this
 have s2:((w.alloc (.cells #[(.slice none 0 0)] 126)).alloc (.cells #[(.int .i64 0)] 28)).heap.size=w.heap.size+2:=by rw[World.size_alloc,s1]
 have hl1:=hl0.alloc (.cells #[(.int .i64 0)] 28);have hst:Still w ((w.alloc (.cells #[(.slice none 0 0)] 126)).alloc (.cells #[(.int .i64 0)] 28)):=((Mod.refl _ _).alloc _).alloc _;have hne:w.heap.size≠w.heap.size+1:=by omega
 unfold Qu;rw[s1,s2];generalize(w.alloc (.cells #[(.slice none 0 0)] 126)).alloc (.cells #[(.int .i64 0)] 28)=w0 at aKp s2 hl1 hst⊢;refine aB (λaJa=>?_) (λaJa=>?_)
 .have aJa:=aT aJa
  have hres:jo s=([],2):=by unfold jo;rw[aR (by omega)]
  rw[hres];have sX:=aKp.far (p:=⟨w.heap.size,0,none⟩) hne.symm (.slice none 0 0);have kJ:=(hl1.gZ 0 (.slice none 0 0)).far (p:=⟨w.heap.size+1,0,none⟩) hne (.int .i64 2);refine⟨hl1.wr 0 (by simp),sX.wr 0 (by simp),_,_,_,kJ.dY rfl,_,(sX.gZ 0 (.int .i64 2)).dY rfl,none,0,rfl,aV.nil _ _ _ _,?_⟩;exact(hst.setCell (.inr (aW _)) _).setCell (.inr (Bq _)) _
 have aJa:¬20000<s.length:=by have:=a_ aJa;omega
 have az3:Scan (w0.alloc (.cells #[(.string (S s))] 200)) (w.heap.size+2) s:=by have:=Row.new w0 200 ⟨[.string (S s)]⟩;rwa[s2]at this
 refine⟨λw1=>∃s1 acc,TS w w1 s s1 acc,uc (w.heap.size+2),⟨s,[],az3,⟨none,0,hl1.alloc _,aV.nil _ _ _ _⟩,aKp.alloc _,hst.alloc _,by rw[World.size_alloc,s2];exact aW _,by simp,by simp⟩,?_⟩;rintro _ w1 ⟨s1,acc,h⟩;have aJi:=h.still;have ag4:=h.aIh;have hown:=h.li;obtain⟨p,C,rW,ho⟩:=hown;refine⟨s1,h.sc.cell,aB (λCk=>?_) (λCk=>?_)⟩
 .have Ck:s1≠[]:=by simpa using Ck
  obtain⟨a,r,rfl⟩:=aKs Ck;simp only[bf]at ag4;have hall:=h.all;rw[ab0]at hall;have ayt:uc (w.heap.size+2) w1=r.length+1:=by rw[h.sc.len];rfl
  rw[ayt]
  -- nothing is told here
  have quiet:∀(t:ag) (w3:World),t.length<=r.length->aIW a r=some ([],t)->dy (w.heap.size+2) w1 w3->Scan w3 (w.heap.size+2) t->(∃s1 acc,TS w w3 s s1 acc)/\uc (w.heap.size+2) w3<r.length+1:=by intro t w3 ht hone hm hsc;refine⟨⟨t,acc,hsc,⟨p,C,rW.mod hm (by omega),ho.mod hm (λk hk=>by have:=(ho.lt k hk).1;omega)⟩,h.er.mod hm (by omega),Mod.trans aJi hm (λ_ h=>h) (λi hi h=>by omega),lH h.size hm.size,?_,by omega⟩,by rw[hsc.len];omega⟩;rw[hone]at hall;simpa using hall
  -- a token is told here
  have told:∀(k:Nat) (x t:ag),aIW a r=some ([(k,x)],t)->(toks t).map ((acc++[(k,x)])++·)=toks s:=by
   intro k x t hone;rw[hone]at hall;have h2:(toks t).map ((acc++[(k,x)])++·)=Option.map (λy=>acc++y) (Option.map (λy=>[(k,x)]++y) (toks t)):=by cases toks t<;>simp
   rw[h2];exact hall
  refine⟨_,h.sc.cell,by decide,a,rfl,λx w2=>x=decide (a=32\/a=9)/\w2=w1,aB (λvA=>⟨?_,rfl⟩) (λvA=>⟨?_,rfl⟩),?_⟩
  .have vA:a=32:=dS.1 (aT vA)
   rw[fV (.inl vA)]
  .have vA:¬a=32:=λe=>a_ vA (dS.2 e)
   apply qW.2;exact⟨λh=>.inr (dS.1 h),λh=>h.elim (λh=>absurd h vA) (λh=>dS.2 h)⟩
  rintro _ _ w2 ⟨rfl,rfl⟩;refine aB (λoI=>?_) (λoI=>aB (λk6=>?_) (λk6=>aB (λh10=>?_) (λh10=>?_)))
  .have oI:=aT oI
   refine(xK h.sc 1).mono λe w3 ht=>?_;rw[aR (by simp)]at ht;obtain⟨dD,rfl,h3⟩:=ht;exact .inl ⟨rfl,quiet r w3 (aW _) (by unfold aIW;rw[aR oI]) dD h3⟩
  .have oI:=a_ oI
   have k6:a=35:=dS.1 (aT k6);refine(anU h.sc).mono ?_;rintro _ w3 ⟨dD,rfl,h3⟩;have hle:ud (a::r)=ud r:=by rw[k6];rfl
   rw[hle]at h3;exact .inl ⟨rfl,quiet (ud r) w3 (QJ r) (by unfold aIW;rw[aL oI,aR k6]) dD h3⟩
  .have oI:=a_ oI
   have k6:¬a=35:=λe=>a_ k6 (dS.2 e);have h10:a=10:=dS.1 (aT h10);refine(xK h.sc 1).mono λe w3 ht=>?_;rw[aR (by simp)]at ht;obtain⟨dD,rfl,h3⟩:=ht;have aJ9:=rW.mod dD (by omega);have aJ8:=ho.mod dD (λk hk=>by have:=(ho.lt k hk).1;omega);refine .inl ⟨rfl,_,_,_,aJ9.dY rfl,tc acc,[.int .i64 2,.string (S [10])],(aJ8.alloc _).B1,rfl,Tn,SG _ _ _ _,by omega,by omega,λp3 C3 w4 p_ IV hb4=>?_⟩;obtain⟨hwr,hts⟩:=h.aJr (k:=2) (x:=[10]) (t:=r) dD h3 aJ8 aJ9 p_ IV hb4 (told 2 [10] r (by unfold aIW;rw[aL oI,aL k6,aR h10])) (by omega);refine⟨hwr,⟨_,_,hts⟩,?_⟩;rw[hts.sc.len];omega
  .have oI:=a_ oI
   have k6:¬a=35:=λe=>a_ k6 (dS.2 e);have h10:¬a=10:=λe=>a_ h10 (dS.2 e);refine(Zt h.sc).mono ?_;rintro _ w3 ⟨rfl,rfl⟩;refine .inl ⟨_,rfl,aB (λhend=>?_) (λhend=>?_)⟩
   .have hend:x_ a=true:=hend
    refine⟨λwq=>Row wq w.heap.size 126 ⟨[.slice p acc.length C]⟩,rW.drew,_,_,_,λwq hq=>hq.dY rfl,(arq h.sc.drew (Yk _ _)).mono ?_⟩;rintro _ w4 ⟨k4,rfl,h4⟩;have yB:dy (w.heap.size+2) w3 w4:=Mod.trans (Mod.refl (λi=>i=w.heap.size+2) w3).drew k4 (λ_ h=>h) (λ_ _ h=>h);have A7:=rW.mod yB (by omega);have p_:=ho.mod yB (λk hk=>by have:=(ho.lt k hk).1;omega);have hol:=aLI (a:=a) (r:=r);refine .inl ⟨_,rfl,A7,A7.alloc _,tc acc,[.int .i64 1,.string (S ((a::r).take (jb (a::r))))],(p_.alloc _).B1,rfl,Tn,SG _ _ _ _,by omega,by omega,λp3 C3 w5 qO WE aKF=>?_⟩;have hdl:((a::r).drop (jb (a::r))).length+jb (a::r)=r.length+1:=by rw[jx];simp only[bf]at hol⊢;omega
    obtain⟨hwr,hts⟩:=h.aJr (k:=1) (x:=(a::r).take (jb (a::r))) (t:=(a::r).drop (jb (a::r))) yB h4 p_ A7 qO WE aKF (told 1 _ _ (by unfold aIW;rw[aL oI,aL k6,aL h10,aR hend])) (by omega);refine⟨hwr,⟨_,_,hts⟩,?_⟩;rw[hts.sc.len];omega
   .have hend:x_ a=false:=hend
    refine⟨λwq=>Row wq w.heap.size 126 ⟨[.slice p acc.length C]⟩,rW.drew,_,_,_,λwq hq=>hq.dY rfl,(apj h.sc.drew (by simp only[bf];omega)).mono ?_⟩;rintro e w4 ⟨k4,hw⟩;have yB:dy (w.heap.size+2) w3 w4:=Mod.trans (Mod.refl (λi=>i=w.heap.size+2) w3).drew k4 (λ_ h=>h) (λ_ _ h=>h);have A7:=rW.mod yB (by omega);have p_:=ho.mod yB (λk hk=>by have:=(ho.lt k hk).1;omega);have he4:=h.er.mod yB (by omega);have jC:Still w w4:=Mod.trans aJi yB (λ_ h=>h) (λi hi h=>by omega);have hone:aIW a r=match pX (a::r)with
     |some t=>some ([(0,(a::r).take ((a::r).length-t.length))],t)
     |none=>none:=by
     unfold aIW;rw[aL oI,aL k6,aL h10,aL (by rw[hend];decide)]
    cases hwd:pX (a::r)with
    |none=>
     rw[hwd]at hw hone;obtain⟨rfl,_⟩:=hw;rw[hone]at hall;have hno:toks s=none:=by rw[<-hall];rfl
     have hres:jo s=([],80):=by unfold jo;rw[aL aJa,hno]
     rw[hres];refine .inr ⟨_,rfl,ays (R:=λe w'=>∃p C,e=.returned (.tuple #[.slice p (([],80):List Tok×Int).1.length C,.int .i64 (([],80):List Tok×Int).2])/\aV w' w.heap.size 203 2 (.slice p (([],80):List Tok×Int).1.length C) (([],80):List Tok×Int).1.length (tc (([],80):List Tok×Int).1)/\Still w w') aJa hno jC A7 he4 λw' h'=>⟨none,0,rfl,aV.nil _ _ _ _,h'⟩⟩
    |some t=>rw[hwd]at hw hone;obtain⟨rfl,h4,_⟩:=hw;have htl:=Ra (s:=a::r) (by simpa[uV]using hend) hwd;simp only[bf]at htl;refine .inl ⟨_,rfl,A7,A7.alloc _,tc acc,[.int .i64 0,.string (S ((a::r).take ((a::r).length-t.length)))],(p_.alloc _).B1,rfl,Tn,SG _ _ _ _,by omega,by omega,λp3 C3 w5 qO WE aKF=>?_⟩;obtain⟨hwr,hts⟩:=h.aJr (k:=0) (x:=(a::r).take ((a::r).length-t.length)) (t:=t) yB h4 p_ A7 qO WE aKF (told 0 _ _ hone) (by omega);refine⟨hwr,⟨_,_,hts⟩,?_⟩;rw[hts.sc.len];omega
 .have Ck:s1=[]:=by simpa using Ck
  subst Ck;have hall:toks s=some acc:=by rw[<-h.all];simp[ac1]
  have hres:jo s=(acc,0):=by unfold jo;rw[aL aJa,hall]
  rw[hres];have kJ:=rW.gZ 0 (.slice p acc.length C);have sX:=h.er.far (p:=⟨w.heap.size,0,none⟩) hne.symm (.slice p acc.length C);have hown:∀k,(Value.slice p acc.length C).ownBlock=some k->w.heap.size+3<=k:=λk hk=>(ho.lt k hk).1;refine⟨p,acc.length,C,rW.dY rfl,rW.wr 0 (by simp),sX.wr 0 (by simp),(apT _ _ _).mono ?_⟩;rintro _ u w4 ⟨rfl,rfl,rfl⟩;have aJ9:=kJ.far (p:=⟨w.heap.size+1,0,none⟩) hne (.int .i64 0);refine⟨⟨_,rfl⟩,rfl,p,acc.length,C,aJ9.dY rfl,0,(sX.gZ 0 (.int .i64 0)).dY rfl,p,C,rfl,?_,(aJi.setCell (.inr (aW _)) _).setCell (.inr (Bq _)) _⟩;have o1:=ho.far (p:=⟨w.heap.size,0,none⟩) (λe=>by have:=hown _ e;dsimp only at this;omega) (.slice p acc.length C);have o2:=o1.far (p:=⟨w.heap.size+1,0,none⟩) (λe=>by have:=hown _ e;dsimp only at this;omega) (.int .i64 0);exact o2.base (λk hk=>by have:=hown k hk;omega)
def cv.fields{F:Nat->Prop}{l:List Pt}{p:Option Addr}{n c:Nat}(h:cv w F l (.slice p n c)){i:Nat}(hi:i<l.length):∃b wp wc,p=some b/\w.cell? (b.add (i*6))=some (.int .i64 l[i].k)/\w.cell? ((b.add (i*6)).add 1)=some (.bool l[i].q)/\w.cell? ((b.add (i*6)).add 2)=some (.string (S l[i].t))/\w.cell? ((b.add (i*6)).add 3)=some (.string (S l[i].n))/\w.cell? ((b.add (i*6)).add 4)=some (.string (S l[i].o))/\
  w.cell? ((b.add (i*6)).add 5)=some (.slice wp l[i].w.length wc)/\cv w F l[i].w (.slice wp l[i].w.length wc):=by
 obtain⟨b,v,rfl,_,hc,hs⟩:=h.get (gJ hi);obtain⟨wp,wc,rfl⟩:=hs.form;have a0:(b.add (i*6)).add 0=b.add (i*6):=by unfold Addr.add;simp
 refine⟨b,wp,wc,rfl,?_,hc 1 _ rfl,hc 2 _ rfl,hc 3 _ rfl,hc 4 _ rfl,hc 5 _ rfl,hs⟩;have:=hc 0 _ rfl;rwa[a0]at this
def take_one{α:Type}{l:List α}{k:Nat}(h:k<l.length):l.take (k+1)=l.take k++[l[k]]:=by rw[Fz,gJ h];rfl
def adY{l:List Pt}{k:Nat}(h:k<l.length):cz (l.take k)+l[k].wt<=cz l:=by
 have e:l=l.take k++(l[k]::l.drop (k+1)):=by rw[<-mI h,oQ]
 have h2:=Gc (l.take k) (l[k]::l.drop (k+1));rw[<-e]at h2;simp only[cz]at h2;omega
def ag6{x:Pt}{wp:Option Addr}{n wc:Nat}:∀v∈[Value.int .i64 x.k,.bool x.q,.string (S x.t),.string (S x.n),.string (S x.o),.slice wp n wc],v.oneCell'=true:=by simp[Value.oneCell']
def iB.mR{B:Nat}{l:List Pt}{v:Value}(h:iB w B l v){k:Nat}(hk:v.ownBlock=some k):B<=k/\k<w.heap.size:=by obtain⟨p,c,xs,rfl,ho,_⟩:=h;exact ho.lt k hk
abbrev qE(k:Nat):List PanicEntry:=[{v:=.iface 28 (.int .i64 (k:Int)),recovered:=false}]
def Pz(w:World)(g:Nat)(s:Ts):Prop:=∃a c,Row w g 131 ⟨[.slice a s.length c]⟩/\VQ.At w (λk=>k<g) s (.slice a s.length c)
def Pz.lt{g:Nat}{s:Ts}(h:Pz w g s):g<w.heap.size:=by obtain⟨a,c,h,_⟩:=h;exact h.lt
def Pz.mod{S:Nat->Prop}{g:Nat}{s:Ts}{w':World}(h:Pz w g s)(hm:Mod S w w')(hS:∀k,k<=g->¬S k):Pz w' g s:=by obtain⟨a,c,h1,h2⟩:=h;exact⟨a,c,h1.mod hm (hS g (aW _)),h2.mod hm λk hk=>hS k (Dn hk)⟩
def Pz.still{g:Nat}{s:Ts}{w':World}(h:Pz w g s)(hm:Still w w'):Pz w' g s:=h.mod hm λ_ _ h=>h
def pO.zero{b:Addr}{x:Value}{xs:List Value}(h:pO w b (x::xs)):w.cell? b=some x:=by
 have a0:b.add 0=b:=by unfold Addr.add;simp
 have:=h 0 x rfl;rwa[a0]at this
def _root_.Go.Proofs.YtihaaoehhgmphaaGreatDoor.Still.only{g:Nat}{a b:World}(h:Still a b):dy g a b:=h.weaken λ_ h=>h.elim
def aaT(ok:Bool):aH3 Dr #[.bool ok] w (λe w'=>e=(if ok=true then .returned (.tuple #[])else .panicked (qE 100))/\w'=w):=by
 refine amT _ _ _ ?_;cases ok with
 |true=>exact⟨rfl,rfl⟩
 |false=>exact⟨rfl,rfl⟩
def afN{ok:Bool}{K:World->Prop}{R:Ending->World->Prop}(h1:ok=true->K w)(h2:ok=false->R (.panicked (qE 100)) w):aH3 Dr #[.bool ok] w (λe w'=>(e=.returned (.tuple #[])/\K w')\/(∃c,e=.panicked c/\R (.panicked c) w')):=by
 refine(aaT ok).mono ?_;rintro _ w1 ⟨rfl,rfl⟩;cases ok with
 |true=>exact .inl ⟨rfl,h1 rfl⟩
 |false=>exact .inr ⟨_,rfl,h2 rfl⟩
def K6(k:Nat):aH3 KC #[.int .i64 (k:Int)] w (λe w'=>e=(if k=0 then .returned (.tuple #[])else .panicked (qE k))/\w'=w):=by
 refine am2 _ _ _ ?_;refine aB (λh=>?_) (λh=>?_)
 .have h:¬(k:Int)=0:=nt h
  rw[aL (by omega)];exact⟨rfl,rfl⟩
 .have h:(k:Int)=0:=nf h
  rw[aR (by omega)];exact⟨rfl,rfl⟩
def aKZ{g:Nat}{s:Ts}(h:Pz w g s)(k:Nat):aH3 aJP #[.pointer (some ⟨g,0,none⟩),.int .i64 (k:Int)] w (λe w'=>e=.returned (.agg #[.int .i64 ((((s[k]?).getD (2,[])).1:Nat):Int),.string (S ((s[k]?).getD (2,[])).2)])/\Still w w'):=by
 refine akS _ _ _ _ ?_;obtain⟨a,c,hr,ht⟩:=h;refine aP λw1 r1 s1 z1=>⟨a,s.length,c,(hr.still s1).aj rfl,aB (λhx=>?_) (λhx=>?_)⟩
 .have hx:s.length<=k:=by have:=aT hx;omega
  rw[th hx];exact aH5 r1 (by simp) (by simp[Value.oneCell']) λw2 r2 m2 z2=>⟨_,_,r2.aj rfl,r2.aj rfl,rfl,s1.box (aW _) m2⟩
 .have hx:k<s.length:=by have:=a_ hx;omega
  obtain⟨b,cs,rfl,_,he,hc⟩:=(ht.still s1).get (gJ hx);obtain rfl:cs=[.int .i64 (s[k].1:Int),.string (S s[k].2)]:=he;rw[gJ hx,bT];exact⟨some b,s.length,c,(hr.still s1).aj rfl,by omega,by omega,_,_,hc.zero,hc 1 _ rfl,aH5 r1 (by simp) (by simp[Value.oneCell']) λw2 r2 m2 z2=>⟨_,_,r2.aj rfl,r2.aj rfl,rfl,s1.box (aW _) m2⟩⟩
def Lg{g:Nat}{x:Nat×ag}{r:Ts}(h:Pz w g (x::r)):aH3 Bj #[.pointer (some ⟨g,0,none⟩)] w (λe w'=>e=.returned (.agg #[.int .i64 (x.1:Int),.string (S x.2)])/\dy g w w'/\Pz w' g r):=by
 refine akR _ _ _ ?_;have hg:=h.lt;obtain⟨a,c,hr,ht⟩:=h;obtain⟨a,rfl⟩:=ht.ptr;have hlen:=ht.len.2;refine aP λw1 r1 s1 z1=>⟨_,_,_,(hr.still s1).aj rfl,by decide,by simp only[bf];omega,?_⟩;obtain⟨b,cs,hb,_,he,hc⟩:=(ht.still s1).get (i:=0) rfl;obtain rfl:=bM hb;obtain rfl:cs=[.int .i64 (x.1:Int),.string (S x.2)]:=he;refine⟨_,_,hc.zero,hc 1 _ rfl,aP λw2 r2 s2 z2=>aH5 r2 (by simp) (by simp[Value.oneCell']) λw3 r3 m3 z3=>?_⟩;have hr3:=((hr.still s1).still s2).mod m3 (by intro e;omega);have EO:=(r1.still s2).mod m3 (by intro e;omega);have Ja:=((ht.still s1).still s2).mod m3 (by intro k hk e;omega);refine⟨_,_,_,hr3.aj rfl,by decide,by simp only[bf];omega,?_⟩;refine aH5 hr3 (by simp) (by simp[Value.oneCell']) λw4 r4 m4 z4=>⟨_,_,(r3.mod m4 (by intro e;omega)).aj rfl,(r3.mod m4 (by intro e;omega)).aj rfl,?_⟩;refine aH5 (EO.mod m4 (by intro e;omega)) (by simp) (by simp[Value.oneCell']) λw5 r5 m5 z5=>⟨_,_,r5.aj rfl,r5.aj rfl,rfl,?_,?_⟩
 .have o3:dy g w w3:=((s1.trans s2).box (g:=w1.heap.size) (by omega) m3).only
  exact Mod.trans (Mod.trans o3 m4 (λ_ h=>h) (λ_ _ h=>h)) m5 (λ_ h=>h) (λi hi e=>by omega)
 .have ht5:=(Ja.mod m4 (by intro k hk e;omega)).mod m5 (by intro k hk e;omega)
  have NX:=r4.mod m5 (by intro e;omega);have NY:=ht5.tail
  by_cases hc1:c=1
  .have sW:r=[]:=by
    simp only[bf]at hlen;exact mH (by omega)
   subst sW;have e:(if c=Int.toNat 1 then some a else Option.map (λx:Addr=>x.add (Int.toNat 1*2)) (some a))=some a:=aR (by rw[hc1];rfl);refine⟨some a,c-Int.toNat 1,?_,cu.At.nil _ _ _ _ _⟩;rw[e]at NX;exact NX
  .have e:(if c=Int.toNat 1 then some a else Option.map (λx:Addr=>x.add (Int.toNat 1*2)) (some a))=some (a.add 2):=aL (λh=>hc1 h)
   refine⟨some (a.add 2),c-1,?_,?_⟩
   .rw[e]at NX
    exact NX
   .exact NY
def Dt{p:Option Addr}{n C:Nat}{l:List ag}(h:c_ w p n l)(hn:n<1000)(x:ag):aH3 zf #[.slice p n C,.string (S x)] w (λe w'=>e=.returned (.bool (l.contains x))/\Still w w'):=by
 refine Xi _ _ _ _ _ _ ?_;have hlen:=h.1;have key:aH3 Fh #[.slice p n C,.string (S x)] w (λe w'=>(∃z:Int,e=.returned (.int .i64 z)/\(0<=z↔x∈l))/\Still w w'):=by
  refine Xl _ _ _ _ _ _ ?_;refine⟨λi w1=>∃k:Nat,i=(k:Int)/\k<=n/\x∉l.take k/\w1=w,λi _=>n-i.toNat,⟨0,rfl,dx _,by simp,rfl⟩,?_⟩;rintro _ _ w1 ⟨k,rfl,hk,hno,rfl⟩;refine aB (λhx=>?_) (λhx=>?_)
  .have hx:k<n:=by have:=aT hx;omega
   have hkl:k<l.length:=by omega
   obtain⟨b,rfl,cb⟩:=h.get hx;refine⟨by omega,by omega,l[k],by rw[bT,eX];exact cb,aB (λhe=>?_) (λhe=>?_)⟩
   .have he:x=l[k]:=aT he
    exact⟨⟨_,rfl,⟨λ_=>by rw[he];exact ou hkl,λ_=>by omega⟩⟩,Still.refl _⟩
   .have he:¬x=l[k]:=a_ he
    have e1:i64.wrap ((k:Int)+1)=((k+1:Nat):Int):=by rw[wrap_i64 (by omega) (by omega)];omega
    rw[e1];refine⟨⟨k+1,rfl,hx,?_,rfl⟩,by dsimp only;omega⟩;rw[take_one hkl];simp only[aIL,aIA,not_or];exact⟨hno,he⟩
  .have hx:k=n:=by have:=a_ hx;omega
   rw[hx,<-hlen,oT]at hno;exact⟨⟨-1,rfl,⟨λh=>absurd h (by decide),λh=>absurd h hno⟩⟩,Still.refl _⟩
 refine key.mono ?_;rintro _ w1 ⟨⟨z,rfl,hz⟩,s1⟩;refine .inl ⟨_,rfl,?_,s1⟩;have:decide (0<=z)=l.contains x:=by rw[r_,Fv,List.contains_iff_mem];exact hz
 rw[this]
def xk(k:Nat)(l:List ag)(s:Ts):Bool:=decide (((s[0]?).getD (2,[])).1=k)&&l.contains ((s[0]?).getD (2,[])).2
def aK9{g:Nat}{s:Ts}(h:Pz w g s)(k:Nat){q:Option Addr}{n c:Nat}{l:List ag}(hq:c_ w q n l)(hn:n<1000):aH3 vN #[.pointer (some ⟨g,0,none⟩),.int .i64 (k:Int),.slice q n c] w (λe w'=>e=.returned (.bool (xk k l s))/\Still w w'):=by
 refine alr _ _ _ _ _ _ _ ?_;have h1:=aKZ h 0;refine h1.mono ?_;rintro _ w1 ⟨rfl,s1⟩;unfold xk;generalize(s[0]?).getD (2,[])=x;refine .inl ⟨_,_,rfl,aP λw2 r2 s2 z2=>aH5 r2 (by simp) (by simp[Value.oneCell']) λw3 r3 m3 z3=>?_⟩;have s3:Still w w3:=(s1.trans s2).box s1.size m3;refine⟨_,r3.aj rfl,aB (λhk=>?_) (λhk=>?_)⟩
 .have hk:x.1=k:=by have:=aT hk;omega
  refine⟨_,r3.aj rfl,(Dt (hq.still s3) hn x.2).mono ?_⟩;rintro _ w4 ⟨rfl,s4⟩;refine .inl ⟨_,rfl,?_,s3.trans s4⟩;rw[fV hk,zu]
 .have hk:¬x.1=k:=by have:=a_ hk;omega
  rw[aIl hk,Qd];exact⟨rfl,s3⟩
def DO{k:Nat}{t:ag}(ht:t≠[])(s:Ts):xk k [t] s=gS k t s:=by
 unfold xk gS;cases s with
 |nil=>
  have:([t]:List ag).contains []=false:=by simp only[C8,FA,Bm,XP];exact λe=>ht e.symm
  simp only[List.getElem?_nil,Option.getD_none,this,Kj,List.head?_nil];exact(aIl (by simp)).symm
 |cons x r=>simp only[OO,J6,C8,FA,Bm];rw[r_,eC,Fv,Fv,Du];exact⟨λh=>gK some (Prod.ext h.1 h.2),λh=>by rw[bM h];exact⟨rfl,rfl⟩⟩
def SH{k:Nat}{t:ag}{l:List ag}(ht:t≠[])(s:Ts):xk k (t::l) s=(gS k t s||xk k l s):=by rw[<-DO ht];unfold xk;simp only[C8,FA,Bm];cases decide (((s[0]?).getD (2,[])).1=k)<;>rfl
def wh{g:Nat}{s:Ts}(h:Pz w g s)(k:Nat){t:ag}(ht:t≠[]):aH3 C7 #[.pointer (some ⟨g,0,none⟩),.int .i64 (k:Int),.string (S t)] w (λe w'=>e=.returned (.bool (gS k t s))/\dy g w w'/\Pz w' g (if gS k t s=true then s.tail else s)):=by
 refine akO _ _ _ _ _ ?_;refine aP λw1 r1 s1 z1=>(aK9 (h.still s1) k (c_.row (l:=[t]) r1) (show 1<1000 by decide)).mono ?_;rintro _ w2 ⟨rfl,s2⟩;rw[DO ht];have h2:=(h.still s1).still s2;refine .inl ⟨_,rfl,aB (λhx=>?_) (λhx=>?_)⟩
 .rw[Lp hx]at h2
  rw[hx,aR rfl];refine(Lg h2).mono ?_;rintro _ w3 ⟨rfl,o3,h3⟩;exact .inl ⟨_,_,rfl,rfl,Mod.trans (s1.trans s2) o3 (λ_ h=>h.elim) (λ_ _ h=>h),h3⟩
 .rw[hx,aL (by decide)]
  exact⟨rfl,(s1.trans s2).only,h2⟩
def Ed(g:Nat)(w:World):Nat:=match w.cell? ⟨g,0,none⟩with
 |some (.slice _ n _)=>n
 |_=>0
def Pz.len{g:Nat}{s:Ts}(h:Pz w g s):Ed g w=s.length:=by obtain⟨a,c,hr,_⟩:=h;unfold Ed;rw[hr.aj rfl]
def tF{g:Nat}{s:Ts}(h:Pz w g s):aH3 Bf #[.pointer (some ⟨g,0,none⟩)] w (λe w'=>e=.returned (.tuple #[])/\dy g w w'/\Pz w' g (jM s)):=by
 refine akm _ _ _ ?_;refine⟨λw1=>∃s1,Pz w1 g s1/\jM s1=jM s/\dy g w w1,Ed g,⟨s,h,rfl,Mod.refl _ _⟩,?_⟩;rintro _ w1 ⟨s1,h1,e1,o1⟩;refine(wh h1 2 (t:=[10]) (by decide)).mono ?_;rintro _ w2 ⟨rfl,o2,h2⟩;refine .inl ⟨_,rfl,aB (λhx=>?_) (λhx=>?_)⟩
 .rw[hx,aR rfl]at h2
  have hl:=Ta hx;refine⟨⟨_,h2,?_,Mod.trans o1 o2 (λ_ h=>h) (λ_ _ h=>h)⟩,by rw[h2.len,h1.len];omega⟩;rw[<-e1,Lp hx];simp only[jM,List.tail_cons];rw[aR (show((2,[10]):Nat×ag)=Ua from rfl)]
 .rw[hx,aL (by decide)]at h2
  refine⟨rfl,Mod.trans o1 o2 (λ_ h=>h) (λ_ _ h=>h),?_⟩;have:jM s1=s1:=by
   cases s1 with
   |nil=>rfl
   |cons x r=>simp only[jM];rw[aL];intro e;rw[e]at hx;exact absurd hx (by unfold gS;simp[Ua])
  rw[<-e1,this];exact h2
def Zv:aH3 Ka #[] w (λe w'=>∃q,e=.returned (.slice q 8 8)/\c_ w' q 8 B7/\Still w w'):=by refine alY _ _ ?_;exact aP λw1 r1 s1 z1=>⟨_,rfl,c_.row (l:=B7) r1,s1⟩
def R5{g:Nat}{s:Ts}(h:Pz w g s):aH3 Pp #[.pointer (some ⟨g,0,none⟩)] w (λe w'=>e=.returned (.bool (HO s))/\Still w w'):=by
 refine akN _ _ _ ?_;obtain⟨a,c,hr,_⟩:=id h;refine⟨_,_,_,hr.aj rfl,aB (λhx=>?_) (λhx=>?_)⟩
 .have:s=[]:=mH (by have:=aT hx;omega)
  subst this;exact⟨rfl,Still.refl _⟩
 have hx:s≠[]:=by rintro rfl;exact a_ hx rfl
 obtain⟨x,r,rfl⟩:=aKs hx;refine aP λw1 r1 s1 z1=>(aK9 (h.still s1) 1 (c_.row (l:=[HN,Hu]) r1) (by decide)).mono ?_;rintro _ w2 ⟨rfl,s2⟩;have e1:xk 1 [HN,Hu] (x::r)=(decide (x.1=1)&&(decide (x.2=HN)||decide (x.2=Hu))):=by
  unfold xk;simp only[OO,J6,C8,FA,Bm];have hb:∀a b:ag,(a==b)=decide (a=b):=λa b=>by rw[r_,Du,Fv]
  rw[hb,hb]
 have e2:HO (x::r)=((decide (x.1=1)&&(decide (x.2=HN)||decide (x.2=Hu)))||(decide (x.1=0)&&B7.contains x.2)):=rfl;rw[e2,<-e1];refine .inl ⟨_,rfl,aB (λhb=>?_) (λhb=>?_)⟩
 .rw[hb]
  exact⟨rfl,s1.trans s2⟩
 .rw[hb,vT]
  refine Zv.mono ?_;rintro _ w3 ⟨q,rfl,hq,s3⟩;refine .inl ⟨_,_,_,rfl,(aK9 (((h.still s1).still s2).still s3) 0 hq (by decide)).mono ?_⟩;rintro _ w4 ⟨rfl,s4⟩;exact .inl ⟨_,rfl,rfl,((s1.trans s2).trans s3).trans s4⟩
def aon{g:Nat}{s:Ts}(h:Pz w g s):aH3 JA #[.pointer (some ⟨g,0,none⟩)] w (λe w'=>e=.returned (.bool (BW s))/\Still w w'):=by refine ajR _ _ _ ?_;refine aP λw1 r1 s1 z1=>(aK9 (h.still s1) 1 (c_.row (l:=[aft,afu,aeL]) r1) (by decide)).mono ?_;rintro _ w2 ⟨rfl,s2⟩;refine .inl ⟨_,rfl,?_,s1.trans s2⟩;rw[SH (by decide),SH (by decide),DO (by decide)];unfold BW;rw[Qj]
end Go.Proofs.YtihaaoehhgmphaaGreatDoor.L
namespace Go.Proofs.YtihaaoehhgmphaaGreatDoor.L
open IntKind Go.RowKit Vc
variable{w:World}{α β:Type}
def cu.eD(e:cu α)(w:World)(B:Nat)(t:TypeId)(X:Nat->Prop)(gn:Nat)(l:List α)(v:Value):Prop:=∃p c xs,v=.slice p l.length c/\aV w B t e.sz v l.length xs/\(∀k,v.ownBlock=some k->X k/\k≠gn)/\e.Cs w (λk=>B<=k/\k<w.heap.size/\¬X k) l xs
def cu.eD.nil(e:cu α)(w:World)(B:Nat)(t:TypeId)(X:Nat->Prop)(gn:Nat):e.eD w B t X gn [] (.slice none 0 0):=⟨none,0,[],rfl,aV.nil _ _ _ _,λk hk=>(by cases hk),rfl⟩
section
variable{e:cu α}{B gn:Nat}{t:TypeId}{X X':Nat->Prop}{l:List α}{v:Value}
def cu.eD.form(h:e.eD w B t X gn l v):∃p c,v=.slice p l.length c:=by obtain⟨p,c,_,he,_⟩:=h;exact⟨p,c,he⟩
def cu.eD.at(h:e.eD w B t X gn l v):e.At w (λk=>B<=k/\k<w.heap.size) l v:=by obtain⟨p,c,xs,rfl,ho,_,hc⟩:=h;obtain⟨p',c',he,hle⟩:=ho.cap;injection he with _ _ e3;subst e3;refine⟨p,c,rfl,hle,λhl=>?_⟩;have hn:0<l.length:=mJ.2 hl;obtain⟨g,cap,he,hB,hg,_,hcell⟩:=ho.wz hn;injection he with e1 e2 e3;subst e1;refine⟨_,xs,rfl,⟨hB,hg⟩,hc.dV (λk hk=>⟨hk.1,hk.2.1⟩) (λ_ _ _ h=>h),λj u hu=>?_⟩;rw[bR,cE];exact hcell j u hu
def cu.eD.mod{S:Nat->Prop}{w':World}(h:e.eD w B t X gn l v)(hm:Mod S w w')(hS:∀k,B<=k->k<w.heap.size->S k->X k/\v.ownBlock≠some k)(hX:∀k,X k->X' k)(hX':∀k,X' k->X k\/w.heap.size<=k):e.eD w' B t X' gn l v:=by
 obtain⟨p,c,xs,rfl,ho,hg,hc⟩:=h;refine⟨p,c,xs,rfl,ho.mod hm λk hk hs=>(hS k (ho.lt k hk).1 (ho.lt k hk).2 hs).2 hk,λk hk=>⟨hX k (hg k hk).1,(hg k hk).2⟩,hc.dV (λk hk=>⟨hk.1,mK hk.2.1 hm.size,λhx=>?_⟩) λa v ⟨k,hk,ea⟩ hcell=>aKi hm (by rw[ea];exact λhs=>hk.2.2 (hS k hk.1 hk.2.1 hs).1) hcell⟩;rcases hX' k hx with hx|hx
 .exact hk.2.2 hx
 .omega
def cu.eD.push{bytes:Nat}{p:Option Addr}{n c:Nat}{x:α}{cs:List Value}{K:Option Addr->Nat->World->Prop}{Sw:World->Prop}(ho:e.eD w B t X gn l (.slice p n c))(hB:B<=w.heap.size)(hXs:∀k,X k->k<w.heap.size)(kM:gn<w.heap.size)
  (hS:∀w1,Still w w1->Sw w1)(hx:e.E w (λk=>B<=k/\k<w.heap.size/\¬X k) x cs)(hs:n+1<=9223372036854775807)(hb:(n+1)*bytes<=140737488355328)
  (h:∀p' c' w',e.eD w' B t (λk=>X k\/(Value.slice p' (n+1) c').ownBlock=some k) gn (l++[x]) (.slice p' (n+1) c')->Mod (λk=>(Value.slice p n c).ownBlock=some k) w w'->(∀k,(Value.slice p' (n+1) c').ownBlock=some k->X k\/w.heap.size<=k)->(∀k,(Value.slice p' (n+1) c').ownBlock=some k->k<w'.heap.size)->K p' c' w'):
  cS (w.alloc (.cells ⟨cs⟩ t)) (λw2=>Sw w2/\dA w2 t e.sz bytes p n c (some (Addr.mk w.heap.size 0 none)) 1 K):=by
 obtain⟨p0,c0,xs,he,ho,hg,hc⟩:=ho;injection he with e1 e2 e3;subst e1 e2 e3;have hl:=e.len hx;refine aP λw1 hr hst hz=>⟨hS w1 hst,?_⟩;refine qq (ho.still hst) (by omega) cs (by omega) (e.one hx) (λ_=>⟨_,rfl,λj u hu=>?_⟩) hs hb λp' c' w' ho' hm hk=>?_
 .rw[bR,cE]
  exact hr.dY (by simpa using hu)
 have Ny:=hm.size;have hown:∀k,(Value.slice p' (l.length+1) c').ownBlock=some k->(X k/\k≠gn)\/w.heap.size+1=k:=by
  intro k hk';rcases hk.own (n:=l.length)with hk|hk
  .exact .inl (hg k (hk.symm.trans hk'))
  .rw[hk']at hk
   have:=bM hk;exact .inr (by omega)
 refine h p' c' w' ⟨p',c',xs++cs,by rw[aIa];rfl,by rw[aIa];exact ho',λk hk'=>⟨.inr hk',?_⟩,?_⟩ (Mod.trans hst hm (λ_ h=>h.elim) (λ_ _ h=>h)) (λk hk'=>?_) λk hk'=>(ho'.lt k hk').2
 .rcases hown k hk' with h|h
  .exact h.2
  .omega
 .refine(hc.append (cu.Cs.single hx)).dV (λk hk=>⟨hk.1,by omega,λhx=>?_⟩) λa v ⟨k,hk,ea⟩ hcell=>aKi hm (by rw[ea];exact λh=>hk.2.2 (hg k h).1) (hst.cell hcell)
  rcases hx with hx|hx
  .exact hk.2.2 hx
  .rcases hown k hx with h|h
   .exact hk.2.2 h.1
   .omega
 .rcases hown k hk' with h|h
  .exact .inl h.1
  .exact .inr (by omega)
def cu.eD.row{g:Nat}{xs:List Value}(hr:Row w g t ⟨xs⟩)(hB:B<=g)(hg:g≠gn)(hX:X g)(hm:l.length<=1000000)(hc:e.Cs w (λk=>B<=k/\k<w.heap.size/\¬X k) l xs):e.eD w B t X gn l (.slice (some ⟨g,0,none⟩) l.length l.length):=by
 have hl:=hc.len;refine⟨_,_,xs,rfl,⟨hl,.inr ⟨g,l.length,⟨xs⟩,rfl,hB,hr,aW _,lH hm (by decide),hl,?_⟩⟩,λk hk=>?_,hc⟩
 .rw[<-hl]
  exact oT
 .obtain rfl:=bM hk
  exact⟨hX,hg⟩
end
def cu.eD.apart{e:cu α}{f:cu β}{B gn:Nat}{t u:TypeId}{X:Nat->Prop}{l:List α}{m:List β}{v v':Value}(h:e.eD w B t X gn l v)(h':f.eD w B u X gn m v')(hne:t≠u){k:Nat}(hk:v.ownBlock=some k):v'.ownBlock≠some k:=by obtain⟨_,_,_,_,ho,_⟩:=h;obtain⟨_,_,_,_,ho',_⟩:=h';exact ho.apart ho' hne hk
structure NB(w0 w:World)(g gn B:Nat)(X:Nat->Prop)(x:Nd)(vw va vr vo vk:Value):Prop where
 row:Row w gn 66 ⟨l_ x vw va vr vo vk⟩
 only:dy g w0 w
 hg:g<w0.heap.size
 hB:w0.heap.size<=B
 kM:B<=gn
 xs:∀k,X k->k<w.heap.size/\B<=k
 xg:X gn
 ow:aKm.eD w B 49 X gn x.ws vw
 oa:aIS.eD w B 208 X gn x.gF va
 ord:aIS.eD w B 138 X gn x.rs vr
 oo:EK.eD w B 9 X gn x.os vo
 ok:vm.eD w B 66 X gn x.ks vk
section
variable{w0 w1 w':World}{g gn B:Nat}{X:Nat->Prop}{x:Nd}{vw va vr vo vk:Value}
def NB.mod{S:Nat->Prop}(h:NB w0 w g gn B X x vw va vr vo vk)(hm:Mod S w w')(hS:∀k,S k->k=g\/w.heap.size<=k):NB w0 w' g gn B X x vw va vr vo vk:=by
 have hz:=hm.size;have key:∀k,B<=k->k<w.heap.size->S k->False:=λk h1 h2 h3=>by have:=h.hg;have:=h.hB;rcases hS k h3 with h4|h4<;>omega
 have n1:¬S gn:=λhs=>key gn h.kM (h.xs _ h.xg).1 hs;refine⟨h.row.mod hm n1,Mod.trans h.only hm (λ_ h=>h) (λi hi hs=>?_),h.hg,h.hB,h.kM,λk hk=>⟨mK (h.xs k hk).1 hz,(h.xs k hk).2⟩,h.xg,?_,?_,?_,?_,?_⟩
 .have:=h.only.size
  rcases hS _ hs with h4|h4<;>omega
 .exact h.ow.mod hm (λk h1 h2 h3=>(key k h1 h2 h3).elim) (λ_ h=>h) (λ_ h=>.inl h)
 .exact h.oa.mod hm (λk h1 h2 h3=>(key k h1 h2 h3).elim) (λ_ h=>h) (λ_ h=>.inl h)
 .exact h.ord.mod hm (λk h1 h2 h3=>(key k h1 h2 h3).elim) (λ_ h=>h) (λ_ h=>.inl h)
 .exact h.oo.mod hm (λk h1 h2 h3=>(key k h1 h2 h3).elim) (λ_ h=>h) (λ_ h=>.inl h)
 .exact h.ok.mod hm (λk h1 h2 h3=>(key k h1 h2 h3).elim) (λ_ h=>h) (λ_ h=>.inl h)
def NB.on(h:NB w0 w g gn B X x vw va vr vo vk)(hm:dy g w w'):NB w0 w' g gn B X x vw va vr vo vk:=h.mod hm λ_ h=>.inl h
def NB.still(h:NB w0 w g gn B X x vw va vr vo vk)(hm:Still w w'):NB w0 w' g gn B X x vw va vr vo vk:=h.mod hm λ_ h=>h.elim
def NB.put(h:NB w0 w g gn B X x vw va vr vo vk)(hm:Mod (λk=>k=gn) w w'){y:Nd}{uw ua ur uo uk:Value}(hr:Row w' gn 66 ⟨l_ y uw ua ur uo uk⟩)(hw:aKm.eD w' B 49 X gn y.ws uw\/y.ws=x.ws/\uw=vw)(ha:y.gF=x.gF/\ua=va)(EV:y.rs=x.rs/\ur=vr)(ho:EK.eD w' B 9 X gn y.os uo\/y.os=x.os/\uo=vo)(hk:vm.eD w' B 66 X gn y.ks uk\/y.ks=x.ks/\uk=vk):NB w0 w' g gn B X y uw ua ur uo uk:=by
 have hz:=hm.size;have own:∀{v:Value},(∀k,v.ownBlock=some k->X k/\k≠gn)->v.ownBlock≠some gn:=λhv he=>(hv gn he).2 rfl;refine⟨hr,Mod.trans h.only hm (λ_ h=>h) (λi hi e=>?_),h.hg,h.hB,h.kM,λk hk=>⟨mK (h.xs k hk).1 hz,(h.xs k hk).2⟩,h.xg,?_,?_,?_,?_,?_⟩
 .have:=h.kM
  have:=h.hB;omega
 .rcases hw with hw|hw
  .exact hw
  rw[hw.1,hw.2];obtain⟨_,_,_,_,_,hg,_⟩:=id h.ow;exact h.ow.mod hm (λk _ _ e=>by subst e;exact⟨h.xg,own hg⟩) (λ_ h=>h) (λ_ h=>.inl h)
 .rw[ha.1,ha.2]
  obtain⟨_,_,_,_,_,hg,_⟩:=id h.oa;exact h.oa.mod hm (λk _ _ e=>by subst e;exact⟨h.xg,own hg⟩) (λ_ h=>h) (λ_ h=>.inl h)
 .rw[EV.1,EV.2]
  obtain⟨_,_,_,_,_,hg,_⟩:=id h.ord;exact h.ord.mod hm (λk _ _ e=>by subst e;exact⟨h.xg,own hg⟩) (λ_ h=>h) (λ_ h=>.inl h)
 .rcases ho with ho|ho
  .exact ho
  rw[ho.1,ho.2];obtain⟨_,_,_,_,_,hg,_⟩:=id h.oo;exact h.oo.mod hm (λk _ _ e=>by subst e;exact⟨h.xg,own hg⟩) (λ_ h=>h) (λ_ h=>.inl h)
 .rcases hk with hk|hk
  .exact hk
  rw[hk.1,hk.2];obtain⟨_,_,_,_,_,hg,_⟩:=id h.ok;exact h.ok.mod hm (λk _ _ e=>by subst e;exact⟨h.xg,own hg⟩) (λ_ h=>h) (λ_ h=>.inl h)
def NB.grow{Y:Nat->Prop}(h:NB w0 w g gn B X x vw va vr vo vk)(hY:∀k,Y k->X k\/(k<w.heap.size/\B<=k))(hX:∀k,X k->Y k)(hc:∀k,Y k->¬X k->False):NB w0 w g gn B Y x vw va vr vo vk:=by have e:X=Y:=funext λk=>propext ⟨hX k,λhy=>Classical.byContradiction λhn=>hc k hy hn⟩;rw[<-e];exact h
def NB.nde(h:NB w0 w g gn B X x vw va vr vo vk):eM w (λk=>B<=k/\k<w.heap.size) x (l_ x vw va vr vo vk):=
 eM.of h.ow.at h.oa.at h.ord.at h.oo.at h.ok.at
def NB.WG{x:Nd}(hr:Row w gn 66 ⟨l_ x (.slice none 0 0) (.slice none 0 0) (.slice none 0 0) (.slice none 0 0) (.slice none 0 0)⟩)(ho:dy g w0 w)(hg:g<w0.heap.size)(hB:w0.heap.size<=B)(kM:B<=gn)(hx:x.ws=[]/\x.gF=[]/\x.rs=[]/\x.os=[]/\x.ks=[]):
  NB w0 w g gn B (λk=>k=gn) x (.slice none 0 0) (.slice none 0 0) (.slice none 0 0) (.slice none 0 0) (.slice none 0 0):=by
 obtain⟨h1,h2,h3,h4,h5⟩:=hx;refine⟨hr,ho,hg,hB,kM,λk hk=>by subst hk;exact⟨hr.lt,kM⟩,rfl,?_,?_,?_,?_,?_⟩
 .rw[h1];exact cu.eD.nil _ _ _ _ _ _
 .rw[h2];exact cu.eD.nil _ _ _ _ _ _
 .rw[h3];exact cu.eD.nil _ _ _ _ _ _
 .rw[h4];exact cu.eD.nil _ _ _ _ _ _
 .rw[h5];exact cu.eD.nil _ _ _ _ _ _
def NB.mkK{x y:Nd}{b:Nat}{cs:List Value}(hr:Row w gn 66 ⟨l_ x (.slice none 0 0) (.slice none 0 0) (.slice none 0 0) (.slice none 0 0) (.slice (some ⟨b,0,none⟩) 1 1)⟩)(hb:Row w b 66 ⟨cs⟩)(hc:eM w (λk=>B<=k/\k<w.heap.size/\k≠gn/\k≠b) y cs)(ho:dy g w0 w)(hg:g<w0.heap.size)(hB:w0.heap.size<=B)(kM:B<=gn)(hbB:B<=b)(hne:b≠gn)(hx:x.ws=[]/\x.gF=[]/\x.rs=[]/\x.os=[]/\x.ks=[y]):
  NB w0 w g gn B (λk=>k=gn\/k=b) x (.slice none 0 0) (.slice none 0 0) (.slice none 0 0) (.slice none 0 0) (.slice (some ⟨b,0,none⟩) 1 1):=by
 obtain⟨h1,h2,h3,h4,h5⟩:=hx;refine⟨hr,ho,hg,hB,kM,λk hk=>?_,.inl rfl,?_,?_,?_,?_,?_⟩
 .rcases hk with rfl|rfl
  .exact⟨hr.lt,kM⟩
  .exact⟨hb.lt,hbB⟩
 .rw[h1];exact cu.eD.nil _ _ _ _ _ _
 .rw[h2];exact cu.eD.nil _ _ _ _ _ _
 .rw[h3];exact cu.eD.nil _ _ _ _ _ _
 .rw[h4];exact cu.eD.nil _ _ _ _ _ _
 .rw[h5]
  exact cu.eD.row (l:=[y]) hb hbB hne (.inr rfl) (show 1<=1000000 by decide) (cu.Cs.single (hc.mono λk hk=>⟨hk.1,hk.2.1,λh=>h.elim hk.2.2.1 hk.2.2.2⟩))
end
abbrev pY:List Value:=l_ (.mk 0 false [] [] [] [] [] []) (.slice none 0 0) (.slice none 0 0) (.slice none 0 0) (.slice none 0 0) (.slice none 0 0)
def afO(gn gr:Nat)(w:World)(R:Ending->World->Prop):Prop:=
 ∃cF:Int,∃fO:Bool,∃cI:List UInt8,∃(fH:Option Addr) (fE fF:Nat),∃(fB:Option Addr) (fy fA:Nat),∃(fG:Option Addr) (aIn aIo:Nat),∃(fP:Option Addr) (fK aIp:Nat),∃(fM:Option Addr) (fI fJ:Nat),w.cell? (Addr.mk gn 0 none)=some (.int .i64 cF)/\w.cell? (Addr.mk gn 1 none)=some (.bool fO)/\w.cell? (Addr.mk gn 2 none)=some (.string (S cI))/\w.cell? (Addr.mk gn 3 none)=some (.slice fH fE fF)/\w.cell? (Addr.mk gn 4 none)=some (.slice fB fy fA)/\w.cell? (Addr.mk gn 5 none)=some (.slice fG aIn aIo)/\w.cell? (Addr.mk gn 6 none)=some (.slice fP fK aIp)/\w.cell? (Addr.mk gn 7 none)=some (.slice fM fI fJ)/\cJ (Addr.mk gr 0 none) (λ(w7:World)=>∃aIi:Int,∃kE:Bool,∃eP:List UInt8,∃(kj:Option Addr) (kf kg:Nat),∃(j9:Option Addr) (j7 j8:Nat),∃(ki:Option Addr) (j_ ke:Nat),∃(kF:Option Addr) (kz kA:Nat),∃(kB:Option Addr) (ko kr:Nat),w7.cell? (Addr.mk gr 0 none)=some (.int .i64 aIi)/\w7.cell? (Addr.mk gr 1 none)=some (.bool kE)/\w7.cell? (Addr.mk gr 2 none)=some (.string (S eP))/\w7.cell? (Addr.mk gr 3 none)=some (.slice kj kf kg)/\w7.cell? (Addr.mk gr 4 none)=some (.slice j9 j7 j8)/\w7.cell? (Addr.mk gr 5 none)=some (.slice ki j_ ke)/\w7.cell? (Addr.mk gr 6 none)=some (.slice kF kz kA)/\w7.cell? (Addr.mk gr 7 none)=some (.slice kB ko kr)/\R (.returned (.agg #[(.int .i64 aIi),(.bool kE),(.string (S eP)),(.slice kj kf kg),(.slice j9 j7 j8),(.slice ki j_ ke),(.slice kF kz kA),(.slice kB ko kr)])) w7) 0 [(.int .i64 cF),(.bool fO),(.string (S cI)),(.slice fH fE fF),(.slice fB fy fA),(.slice fG aIn aIo),(.slice fP fK aIp),(.slice fM fI fJ)] w
def RL{w0:World}{g gn B:Nat}{X:Nat->Prop}{x:Nd}{vw va vr vo vk:Value}{R:Ending->World->Prop}(h:NB w0 w g gn B X x vw va vr vo vk)(hres:Row w w0.heap.size 66 ⟨pY⟩)(hB:w0.heap.size<B)
  (hR:∀w' cs,Mod (λk=>k=w0.heap.size) w w'->dy g w0 w'->eM w' (λk=>w0.heap.size<=k/\k<w'.heap.size) x cs->R (.returned (.agg ⟨cs⟩)) w'):afO gn w0.heap.size w R:=by
 have hn:=h.nde;obtain⟨pw,cw,rfl⟩:=h.ow.form;obtain⟨pa,ca,rfl⟩:=h.oa.form;obtain⟨pr,cr,rfl⟩:=h.ord.form;obtain⟨po,co,rfl⟩:=h.oo.form;obtain⟨pk,ck,rfl⟩:=h.ok.form;have hr:=h.row;refine⟨_,_,_,_,_,_,_,_,_,_,_,_,_,_,_,_,_,_,hr.aj rfl,hr.aj rfl,hr.aj rfl,hr.aj rfl,hr.aj rfl,hr.aj rfl,hr.aj rfl,hr.aj rfl,aH5 hres (by simp) (by simp[Value.oneCell']) λw' r' m' z'=>?_⟩;refine⟨_,_,_,_,_,_,_,_,_,_,_,_,_,_,_,_,_,_,r'.aj rfl,r'.aj rfl,r'.aj rfl,r'.aj rfl,r'.aj rfl,r'.aj rfl,r'.aj rfl,r'.aj rfl,hR w' _ m' (Mod.trans h.only m' (λ_ h=>h) (λi hi e=>by omega)) ?_⟩;exact(hn.mod m' λk hk e=>by omega).mono λk hk=>⟨by omega,by omega⟩
def ars{w0:World}{g:Nat}{X:Nat->Prop}{x:Nd}{vw va vr vo vk:Value}{R:Ending->World->Prop}(h:NB w0 w g w0.heap.size w0.heap.size X x vw va vr vo vk)
  (hR:∀w' cs,Mod (λk=>k=w0.heap.size) w w'->dy g w0 w'->eM w' (λk=>w0.heap.size<=k/\k<w'.heap.size) x cs->R (.returned (.agg ⟨cs⟩)) w'):afO w0.heap.size w0.heap.size w R:=by
 have hr:=h.row;obtain⟨pw,cw,rfl⟩:=h.ow.form;obtain⟨pa,ca,rfl⟩:=h.oa.form;obtain⟨pr,cr,rfl⟩:=h.ord.form;obtain⟨po,co,rfl⟩:=h.oo.form;obtain⟨pk,ck,rfl⟩:=h.ok.form;refine⟨_,_,_,_,_,_,_,_,_,_,_,_,_,_,_,_,_,_,hr.aj rfl,hr.aj rfl,hr.aj rfl,hr.aj rfl,hr.aj rfl,hr.aj rfl,hr.aj rfl,hr.aj rfl,aH5 hr (by simp) (by simp[Value.oneCell']) λw' r' m' z'=>?_⟩;have h':=h.put m' r' (.inr ⟨rfl,rfl⟩) ⟨rfl,rfl⟩ ⟨rfl,rfl⟩ (.inr ⟨rfl,rfl⟩) (.inr ⟨rfl,rfl⟩);exact⟨_,_,_,_,_,_,_,_,_,_,_,_,_,_,_,_,_,_,r'.aj rfl,r'.aj rfl,r'.aj rfl,r'.aj rfl,r'.aj rfl,r'.aj rfl,r'.aj rfl,r'.aj rfl,hR w' _ m' h'.only h'.nde⟩
end Go.Proofs.YtihaaoehhgmphaaGreatDoor.L
namespace Go.Proofs.YtihaaoehhgmphaaGreatDoor.L
open IntKind Go.RowKit Vc
variable{w:World}
abbrev Nd.M1(x:Nd)(y:List Pt):Nd:=.mk x.k x.neg x.nm (x.ws++[y]) x.gF x.rs x.os x.ks
def NB.M1{w0 w1:World}{g gn B:Nat}{X:Nat->Prop}{x:Nd}{va vr vo vk:Value}{p:Option Addr}{n c:Nat}{y:List Pt}{cs:List Value}(h:NB w0 w1 g gn B X x (.slice p n c) va vr vo vk)(o:dy g w1 w)(hy:aKm.E w (λk=>w1.heap.size<=k/\k<w.heap.size) y cs)(hn:x.ws.length<1000000){K:World->Prop}
  (hK:∀p' c' w' X',NB w0 w' g gn B X' (x.M1 y) (.slice p' (n+1) c') va vr vo vk->Mod (λk=>B<=k) w w'->K w'):
  cS (w.alloc (.cells ⟨cs⟩ 49)) (λw2=>w2.cell? (Addr.mk gn 3 none)=some (.slice p n c)/\dA w2 49 1 24 p n c (some (Addr.mk w.heap.size 0 none)) 1 (λp' c' w9=>cJ (Addr.mk gn 3 none) K 0 [.slice p' (n+1) c'] w9)):=by
 have h2:=h.on o;obtain⟨_,_,_,he,_,hg,_⟩:=id h2.ow;injection he with _ en _;have rS:=h2.row.lt;have hsz:=h.only.size;have WH:=o.size;have kM:=h2.kM;have hB:=h2.hB;refine cu.eD.push (Sw:=λwq=>wq.cell? (Addr.mk gn 3 none)=some (.slice p n c)) h2.ow (by omega) (λk hk=>(h2.xs k hk).1) rS (λwq hq=>(h2.row.still hq).aj rfl) (aKm.dV (λk hk=>⟨?_,hk.2,λhx=>?_⟩) (λ_ _ _ h=>h) hy) (by omega) (by omega) λp' c' w9 mu kN vE CS=>?_
 .have:=h.row.lt
  omega
 .have:=(h.xs k hx).1
  omega
 have aJN:=h2.row.mod kN (λhk=>(hg gn hk).2 rfl);refine aH5 aJN (by simp) (by simp[Value.oneCell']) λaO aIe m10 pz=>hK p' c' aO (λk=>X k\/(Value.slice p' (n+1) c').ownBlock=some k) ?_ ?_;rotate_left
 .exact Mod.trans kN m10 (λk hk=>(h2.xs k (hg k hk).1).2) (λk _ hk=>by omega)
 have CC:=kN.size;have U1:=m10.size;have ni:∀{β:Type} {f:cu β} {u:TypeId} {m:List β} {v':Value},f.eD w B u X gn m v'->(∀k,(Value.slice p n c).ownBlock=some k->v'.ownBlock≠some k)->f.eD aO B u (λk=>X k\/(Value.slice p' (n+1) c').ownBlock=some k) gn m v':=by intro β f u m v' hf hne;obtain⟨_,_,_,_,_,qe,_⟩:=id hf;exact(hf.mod kN (λk _ _ hs=>⟨(hg k hs).1,hne k hs⟩) (λ_ h=>.inl h) (λk hk=>hk.elim .inl (λh=>vE k h))).mod m10 (λk _ _ e=>by subst e;exact⟨.inl h2.xg,λhk=>(qe _ hk).2 rfl⟩) (λ_ h=>h) (λ_ h=>.inl h)
 have ya:=mu.mod m10 (X':=λk=>X k\/(Value.slice p' (n+1) c').ownBlock=some k) (λk _ _ e=>by subst e;obtain⟨_,_,_,_,_,qe,_⟩:=id mu;exact⟨.inl h2.xg,λhk=>(qe _ hk).2 rfl⟩) (λ_ h=>h) (λ_ h=>.inl h);have yC:∀k,(Value.slice p' (n+1) c').ownBlock=some k->B<=k:=λk hk=>by
  rcases vE k hk with hk|hk
  .exact(h2.xs k hk).2
  .omega
 refine⟨aIe,Mod.trans (Mod.trans h2.only kN (λ_ h=>h) (λi hi hk=>by have:=(h2.xs _ (hg _ hk).1).2;omega)) m10 (λ_ h=>h) (λi hi e=>by omega),h2.hg,hB,kM,λk hk=>?_,.inl h2.xg,ya,ni h2.oa (λk hk=>h2.ow.apart h2.oa (by decide) hk),ni h2.ord (λk hk=>h2.ow.apart h2.ord (by decide) hk),ni h2.oo (λk hk=>h2.ow.apart h2.oo (by decide) hk),ni h2.ok (λk hk=>h2.ow.apart h2.ok (by decide) hk)⟩;rcases hk with hk|hk
 .have:=h2.xs k hk
  exact⟨by omega,this.2⟩
 .have:=CS k hk
  exact⟨by omega,yC k hk⟩
abbrev Nd.M3(x:Nd)(y:ag×List Pt):Nd:=.mk x.k x.neg x.nm x.ws (x.gF++[y]) x.rs x.os x.ks
def NB.M3{w0 w1:World}{g gn B:Nat}{X:Nat->Prop}{x:Nd}{vw vr vo vk:Value}{p:Option Addr}{n c:Nat}{y:ag×List Pt}{cs:List Value}(h:NB w0 w1 g gn B X x vw (.slice p n c) vr vo vk)(o:dy g w1 w)(hy:aIS.E w (λk=>w1.heap.size<=k/\k<w.heap.size) y cs)(hn:x.gF.length<1000000){K:World->Prop}
  (hK:∀p' c' w' X',NB w0 w' g gn B X' (x.M3 y) vw (.slice p' (n+1) c') vr vo vk->Mod (λk=>B<=k) w w'->K w'):
  cS (w.alloc (.cells ⟨cs⟩ 208)) (λw2=>w2.cell? (Addr.mk gn 4 none)=some (.slice p n c)/\dA w2 208 2 40 p n c (some (Addr.mk w.heap.size 0 none)) 1 (λp' c' w9=>cJ (Addr.mk gn 4 none) K 0 [.slice p' (n+1) c'] w9)):=by
 have h2:=h.on o;obtain⟨_,_,_,he,_,hg,_⟩:=id h2.oa;injection he with _ en _;have rS:=h2.row.lt;have hsz:=h.only.size;have WH:=o.size;have kM:=h2.kM;have hB:=h2.hB;refine cu.eD.push (Sw:=λwq=>wq.cell? (Addr.mk gn 4 none)=some (.slice p n c)) h2.oa (by omega) (λk hk=>(h2.xs k hk).1) rS (λwq hq=>(h2.row.still hq).aj rfl) (aIS.dV (λk hk=>⟨?_,hk.2,λhx=>?_⟩) (λ_ _ _ h=>h) hy) (by omega) (by omega) λp' c' w9 mu kN vE CS=>?_
 .have:=h.row.lt
  omega
 .have:=(h.xs k hx).1
  omega
 have aJN:=h2.row.mod kN (λhk=>(hg gn hk).2 rfl);refine aH5 aJN (by simp) (by simp[Value.oneCell']) λaO aIe m10 pz=>hK p' c' aO (λk=>X k\/(Value.slice p' (n+1) c').ownBlock=some k) ?_ ?_;rotate_left
 .exact Mod.trans kN m10 (λk hk=>(h2.xs k (hg k hk).1).2) (λk _ hk=>by omega)
 have CC:=kN.size;have U1:=m10.size;have ni:∀{β:Type} {f:cu β} {u:TypeId} {m:List β} {v':Value},f.eD w B u X gn m v'->(∀k,(Value.slice p n c).ownBlock=some k->v'.ownBlock≠some k)->f.eD aO B u (λk=>X k\/(Value.slice p' (n+1) c').ownBlock=some k) gn m v':=by intro β f u m v' hf hne;obtain⟨_,_,_,_,_,qe,_⟩:=id hf;exact(hf.mod kN (λk _ _ hs=>⟨(hg k hs).1,hne k hs⟩) (λ_ h=>.inl h) (λk hk=>hk.elim .inl (λh=>vE k h))).mod m10 (λk _ _ e=>by subst e;exact⟨.inl h2.xg,λhk=>(qe _ hk).2 rfl⟩) (λ_ h=>h) (λ_ h=>.inl h)
 have ya:=mu.mod m10 (X':=λk=>X k\/(Value.slice p' (n+1) c').ownBlock=some k) (λk _ _ e=>by subst e;obtain⟨_,_,_,_,_,qe,_⟩:=id mu;exact⟨.inl h2.xg,λhk=>(qe _ hk).2 rfl⟩) (λ_ h=>h) (λ_ h=>.inl h);have yC:∀k,(Value.slice p' (n+1) c').ownBlock=some k->B<=k:=λk hk=>by
  rcases vE k hk with hk|hk
  .exact(h2.xs k hk).2
  .omega
 refine⟨aIe,Mod.trans (Mod.trans h2.only kN (λ_ h=>h) (λi hi hk=>by have:=(h2.xs _ (hg _ hk).1).2;omega)) m10 (λ_ h=>h) (λi hi e=>by omega),h2.hg,hB,kM,λk hk=>?_,.inl h2.xg,ni h2.ow (λk hk=>h2.oa.apart h2.ow (by decide) hk),ya,ni h2.ord (λk hk=>h2.oa.apart h2.ord (by decide) hk),ni h2.oo (λk hk=>h2.oa.apart h2.oo (by decide) hk),ni h2.ok (λk hk=>h2.oa.apart h2.ok (by decide) hk)⟩;rcases hk with hk|hk
 .have:=h2.xs k hk
  exact⟨by omega,this.2⟩
 .have:=CS k hk
  exact⟨by omega,yC k hk⟩
def NB.ayu{w0 w1:World}{g gn B:Nat}{X:Nat->Prop}{x:Nd}{vw vr vo vk:Value}{p:Option Addr}{n c:Nat}{y:ag×List Pt}{cs:List Value}(h:NB w0 w1 g gn B X x vw (.slice p n c) vr vo vk)(o:dy g w1 w)(hy:aIS.E w (λk=>w1.heap.size<=k/\k<w.heap.size) y cs)(hn:x.gF.length<1000000){K:World->Prop}
  (hK:∀p' c' w' X',NB w0 w' g gn B X' (x.M3 y) vw (.slice p' (n+1) c') vr vo vk->Mod (λk=>B<=k) w w'->K w'):
  cS (w.alloc (.cells ⟨cs⟩ 208)) (λw2=>dA w2 208 2 40 p n c (some (Addr.mk w.heap.size 0 none)) 1 (λp' c' w9=>cJ (Addr.mk gn 4 none) K 0 [.slice p' (n+1) c'] w9)):=by
 have h0:=h.M3 o hy hn hK;exact h0.2
abbrev Nd.yo(x:Nd)(y:ag×List Pt):Nd:=.mk x.k x.neg x.nm x.ws x.gF (x.rs++[y]) x.os x.ks
def NB.yo{w0 w1:World}{g gn B:Nat}{X:Nat->Prop}{x:Nd}{vw va vo vk:Value}{p:Option Addr}{n c:Nat}{y:ag×List Pt}{cs:List Value}(h:NB w0 w1 g gn B X x vw va (.slice p n c) vo vk)(o:dy g w1 w)(hy:aIS.E w (λk=>w1.heap.size<=k/\k<w.heap.size) y cs)(hn:x.rs.length<1000000){K:World->Prop}
  (hK:∀p' c' w' X',NB w0 w' g gn B X' (x.yo y) vw va (.slice p' (n+1) c') vo vk->Mod (λk=>B<=k) w w'->K w'):
  cS (w.alloc (.cells ⟨cs⟩ 138)) (λw2=>w2.cell? (Addr.mk gn 5 none)=some (.slice p n c)/\dA w2 138 2 40 p n c (some (Addr.mk w.heap.size 0 none)) 1 (λp' c' w9=>cJ (Addr.mk gn 5 none) K 0 [.slice p' (n+1) c'] w9)):=by
 have h2:=h.on o;obtain⟨_,_,_,he,_,hg,_⟩:=id h2.ord;injection he with _ en _;have rS:=h2.row.lt;have hsz:=h.only.size;have WH:=o.size;have kM:=h2.kM;have hB:=h2.hB;refine cu.eD.push (Sw:=λwq=>wq.cell? (Addr.mk gn 5 none)=some (.slice p n c)) h2.ord (by omega) (λk hk=>(h2.xs k hk).1) rS (λwq hq=>(h2.row.still hq).aj rfl) (aIS.dV (λk hk=>⟨?_,hk.2,λhx=>?_⟩) (λ_ _ _ h=>h) hy) (by omega) (by omega) λp' c' w9 mu kN vE CS=>?_
 .have:=h.row.lt
  omega
 .have:=(h.xs k hx).1
  omega
 have aJN:=h2.row.mod kN (λhk=>(hg gn hk).2 rfl);refine aH5 aJN (by simp) (by simp[Value.oneCell']) λaO aIe m10 pz=>hK p' c' aO (λk=>X k\/(Value.slice p' (n+1) c').ownBlock=some k) ?_ ?_;rotate_left
 .exact Mod.trans kN m10 (λk hk=>(h2.xs k (hg k hk).1).2) (λk _ hk=>by omega)
 have CC:=kN.size;have U1:=m10.size;have ni:∀{β:Type} {f:cu β} {u:TypeId} {m:List β} {v':Value},f.eD w B u X gn m v'->(∀k,(Value.slice p n c).ownBlock=some k->v'.ownBlock≠some k)->f.eD aO B u (λk=>X k\/(Value.slice p' (n+1) c').ownBlock=some k) gn m v':=by intro β f u m v' hf hne;obtain⟨_,_,_,_,_,qe,_⟩:=id hf;exact(hf.mod kN (λk _ _ hs=>⟨(hg k hs).1,hne k hs⟩) (λ_ h=>.inl h) (λk hk=>hk.elim .inl (λh=>vE k h))).mod m10 (λk _ _ e=>by subst e;exact⟨.inl h2.xg,λhk=>(qe _ hk).2 rfl⟩) (λ_ h=>h) (λ_ h=>.inl h)
 have ya:=mu.mod m10 (X':=λk=>X k\/(Value.slice p' (n+1) c').ownBlock=some k) (λk _ _ e=>by subst e;obtain⟨_,_,_,_,_,qe,_⟩:=id mu;exact⟨.inl h2.xg,λhk=>(qe _ hk).2 rfl⟩) (λ_ h=>h) (λ_ h=>.inl h);have yC:∀k,(Value.slice p' (n+1) c').ownBlock=some k->B<=k:=λk hk=>by
  rcases vE k hk with hk|hk
  .exact(h2.xs k hk).2
  .omega
 refine⟨aIe,Mod.trans (Mod.trans h2.only kN (λ_ h=>h) (λi hi hk=>by have:=(h2.xs _ (hg _ hk).1).2;omega)) m10 (λ_ h=>h) (λi hi e=>by omega),h2.hg,hB,kM,λk hk=>?_,.inl h2.xg,ni h2.ow (λk hk=>h2.ord.apart h2.ow (by decide) hk),ni h2.oa (λk hk=>h2.ord.apart h2.oa (by decide) hk),ya,ni h2.oo (λk hk=>h2.ord.apart h2.oo (by decide) hk),ni h2.ok (λk hk=>h2.ord.apart h2.ok (by decide) hk)⟩;rcases hk with hk|hk
 .have:=h2.xs k hk
  exact⟨by omega,this.2⟩
 .have:=CS k hk
  exact⟨by omega,yC k hk⟩
abbrev Nd.M4(x:Nd)(y:Nd):Nd:=.mk x.k x.neg x.nm x.ws x.gF x.rs x.os (x.ks++[y])
def NB.M4{w0 w1:World}{g gn B:Nat}{X:Nat->Prop}{x:Nd}{vw va vr vo:Value}{p:Option Addr}{n c:Nat}{y:Nd}{cs:List Value}(h:NB w0 w1 g gn B X x vw va vr vo (.slice p n c))(o:dy g w1 w)(hy:vm.E w (λk=>w1.heap.size<=k/\k<w.heap.size) y cs)(hn:x.ks.length<1000000){K:World->Prop}
  (hK:∀p' c' w' X',NB w0 w' g gn B X' (x.M4 y) vw va vr vo (.slice p' (n+1) c')->Mod (λk=>B<=k) w w'->K w'):
  cS (w.alloc (.cells ⟨cs⟩ 66)) (λw2=>w2.cell? (Addr.mk gn 7 none)=some (.slice p n c)/\dA w2 66 8 152 p n c (some (Addr.mk w.heap.size 0 none)) 1 (λp' c' w9=>cJ (Addr.mk gn 7 none) K 0 [.slice p' (n+1) c'] w9)):=by
 have h2:=h.on o;obtain⟨_,_,_,he,_,hg,_⟩:=id h2.ok;injection he with _ en _;have rS:=h2.row.lt;have hsz:=h.only.size;have WH:=o.size;have kM:=h2.kM;have hB:=h2.hB;refine cu.eD.push (Sw:=λwq=>wq.cell? (Addr.mk gn 7 none)=some (.slice p n c)) h2.ok (by omega) (λk hk=>(h2.xs k hk).1) rS (λwq hq=>(h2.row.still hq).aj rfl) (vm.dV (λk hk=>⟨?_,hk.2,λhx=>?_⟩) (λ_ _ _ h=>h) hy) (by omega) (by omega) λp' c' w9 mu kN vE CS=>?_
 .have:=h.row.lt
  omega
 .have:=(h.xs k hx).1
  omega
 have aJN:=h2.row.mod kN (λhk=>(hg gn hk).2 rfl);refine aH5 aJN (by simp) (by simp[Value.oneCell']) λaO aIe m10 pz=>hK p' c' aO (λk=>X k\/(Value.slice p' (n+1) c').ownBlock=some k) ?_ ?_;rotate_left
 .exact Mod.trans kN m10 (λk hk=>(h2.xs k (hg k hk).1).2) (λk _ hk=>by omega)
 have CC:=kN.size;have U1:=m10.size;have ni:∀{β:Type} {f:cu β} {u:TypeId} {m:List β} {v':Value},f.eD w B u X gn m v'->(∀k,(Value.slice p n c).ownBlock=some k->v'.ownBlock≠some k)->f.eD aO B u (λk=>X k\/(Value.slice p' (n+1) c').ownBlock=some k) gn m v':=by intro β f u m v' hf hne;obtain⟨_,_,_,_,_,qe,_⟩:=id hf;exact(hf.mod kN (λk _ _ hs=>⟨(hg k hs).1,hne k hs⟩) (λ_ h=>.inl h) (λk hk=>hk.elim .inl (λh=>vE k h))).mod m10 (λk _ _ e=>by subst e;exact⟨.inl h2.xg,λhk=>(qe _ hk).2 rfl⟩) (λ_ h=>h) (λ_ h=>.inl h)
 have ya:=mu.mod m10 (X':=λk=>X k\/(Value.slice p' (n+1) c').ownBlock=some k) (λk _ _ e=>by subst e;obtain⟨_,_,_,_,_,qe,_⟩:=id mu;exact⟨.inl h2.xg,λhk=>(qe _ hk).2 rfl⟩) (λ_ h=>h) (λ_ h=>.inl h);have yC:∀k,(Value.slice p' (n+1) c').ownBlock=some k->B<=k:=λk hk=>by
  rcases vE k hk with hk|hk
  .exact(h2.xs k hk).2
  .omega
 refine⟨aIe,Mod.trans (Mod.trans h2.only kN (λ_ h=>h) (λi hi hk=>by have:=(h2.xs _ (hg _ hk).1).2;omega)) m10 (λ_ h=>h) (λi hi e=>by omega),h2.hg,hB,kM,λk hk=>?_,.inl h2.xg,ni h2.ow (λk hk=>h2.ok.apart h2.ow (by decide) hk),ni h2.oa (λk hk=>h2.ok.apart h2.oa (by decide) hk),ni h2.ord (λk hk=>h2.ok.apart h2.ord (by decide) hk),ni h2.oo (λk hk=>h2.ok.apart h2.oo (by decide) hk),ya⟩;rcases hk with hk|hk
 .have:=h2.xs k hk
  exact⟨by omega,this.2⟩
 .have:=CS k hk
  exact⟨by omega,yC k hk⟩
end Go.Proofs.YtihaaoehhgmphaaGreatDoor.L
namespace Go.Proofs.YtihaaoehhgmphaaGreatDoor.L
open IntKind Go.RowKit Vc
def axO(w:World):(Instr.typeAssert .nilIface 20 28 true).run aM w=.ok (.tuple #[.int .i64 0,.bool false]) w:=by kernel_rfl
def axP(w:World)(n:Int):(Instr.typeAssert (.iface 28 (.int .i64 n)) 20 28 true).run aM w=.ok (.tuple #[.int .i64 n,.bool true]) w:=by kernel_rfl
set_option maxRecDepth 4000 in
def art(p:Addr)(w:World):
  CallsD aM 521 #[.pointer (some p)] .returning w λe u' w'=>e=.returned (.tuple #[])/\u'=.returning/\w'=w:=by
 refine callsD_of_wpS Tryz.func521 rfl λc₀ cs hu=>?_;apply wpS_seq;apply wpS_region;simp[wpOpsS,go_sem,recoverD,hu,Tryz.ntmps521,Exit.thenS];apply wpS_seq;apply wpS_region;simp[wpOpsS,go_sem,Tryz.ntmps521,Exit.thenS,axO];apply wpS_seq;apply wpS_region;simp[wpOpsS,go_sem,Tryz.ntmps521,Exit.thenS];refine wpS_cond (t:=false) (by simp[Act.eval,Array.replicate]) ?_;simp only[kP,iR];refine wpS_of_wp (wp_skip ?_);cases c₀;simp_all [bodyPostS,results,Tryz.results521]
set_option maxRecDepth 4000 in
def apk(p:Addr)(n:Int)(w:World)(hp:Wr w p):
  CallsD aM 521 #[.pointer (some p)] (.panicking [{v:=.iface 28 (.int .i64 n),recovered:=false}]) w λe u' w'=>e=.returned (.tuple #[])/\settle u'=.returning/\w'=w.setCell p (.int .i64 0):=by
 refine callsD_of_wpS Tryz.func521 rfl λc₀ cs hu=>?_;apply wpS_seq;apply wpS_region;simp[wpOpsS,go_sem,recoverD,hu,Tryz.ntmps521,Exit.thenS];apply wpS_seq;apply wpS_region;simp[wpOpsS,go_sem,Tryz.ntmps521,Exit.thenS,axP];apply wpS_seq;apply wpS_region;simp[wpOpsS,go_sem,Tryz.ntmps521,Exit.thenS];refine wpS_cond (t:=true) (by simp[Act.eval,Array.replicate]) ?_;simp only[oV];obtain⟨h1,h2⟩:=hp;obtain⟨v0,hc⟩:=Option.isSome_iff_exists.1 h1;apply wpS_region;simp[wpOpsS,go_sem,Tryz.ntmps521,Exit.thenS,hc,h2];cases c₀;simp_all [bodyPostS,results,Tryz.results521,settle]
def jP(s:ag):Nat:=match aIt 30 s with
 |some t=>s.length-t.length
 |none=>0
def Lh{s t:ag}(h:aIt 30 s=some t):jP s=s.length-t.length/\0<jP s/\jP s<=s.length:=by have:=vX 30 _ _ h;unfold jP;rw[h];dsimp only;omega
def ab1{w:World}(s:ag)(hl:s.length<1000000):aH3 KJ #[.string (S s)] w (λe w'=>e=.returned (.int .i64 (jP s:Int))/\Still w w'):=by
 refine ant _ _ _ ?_;refine aP λw1 r1 s1 z1=>aP λw2 r2 s2 z2=>?_;have EO:=r1.still s2;have cZ:=s1.trans s2;refine(aJl _).mono ?_;rintro _ w3 ⟨rfl,rfl⟩;have bad:∀{w4:World},Row w4 w.heap.size 3 ⟨[.int .i64 0]⟩->Still w w4->aIt 30 s=none->
   CallsD aM Ks #[.pointer (some ⟨w.heap.size,0,none⟩)] (.panicking Hv) w4 (λed u w7=>(∃rv,ed=.returned rv)/\settle u=.returning/\∃v2:Int,w7.cell? ⟨w.heap.size,0,none⟩=some (.int .i64 v2)/\(Ending.returned (.int .i64 v2)=.returned (.int .i64 (jP s:Int))/\Still w w7)):=by
  intro w4 r4 s4 hn;refine(apk ⟨w.heap.size,0,none⟩ 80 w4 (r4.wr 0 (by simp))).mono ?_;rintro e u w7 ⟨rfl,hu,rfl⟩;refine⟨⟨_,rfl⟩,hu,0,(r4.gZ 0 (.int .i64 0)).aj rfl,?_,s4.box (aW _) ((Mod.refl (λi=>i=w.heap.size) w4).setCell (p:=⟨w.heap.size,0,none⟩) (.inl rfl) _)⟩;unfold jP;rw[hn];rfl
 by_cases hs:s=[]
 .subst hs
  rw[aL (by decide)];exact .inr ⟨_,rfl,bad EO cZ rfl⟩
 rw[aR (by simpa using hs)];refine .inl ⟨rfl,(abX (g:=w1.heap.size) hs r2 hl).mono ?_⟩;rintro e w4 ⟨hm,h⟩;have r4:Row w4 w.heap.size 3 ⟨[.int .i64 0]⟩:=EO.mod hm (by rintro e;have:=r1.lt;omega);have s4:Still w w4:=cZ.box (by omega) hm;cases hu:aIt 30 s with
 |none=>rw[hu]at h;obtain⟨rfl,_⟩:=h;exact .inr ⟨_,rfl,bad r4 s4 hu⟩
 |some t=>
  rw[hu]at h;obtain⟨rfl,hsc⟩:=h;have hk:=Lh hu;refine .inl ⟨rfl,t,hsc.cell,?_⟩
  try dsimp only[zR]
  rw[show i64.wrap ((s.length:Int)-(t.length:Int))=(jP s:Int) by rw[wrap_i64 (by omega) (by omega)];omega];refine aH5 r4 (by simp) (by simp[Value.oneCell']) λw5 r5 m5 _=>?_;refine(art _ _).mono ?_;rintro _ _ _ ⟨rfl,rfl,rfl⟩;exact⟨⟨_,rfl⟩,rfl,_,r5.aj rfl,rfl,s4.box (aW _) m5⟩
end Go.Proofs.YtihaaoehhgmphaaGreatDoor.L
namespace Go.Proofs.YtihaaoehhgmphaaGreatDoor.L
open IntKind Go.RowKit Vc
variable{w:World}
abbrev dB(w:World)(g:Nat)(s:ag)(v:Value)(q:Bool)(d:Int):Prop:=Row w g 503 ⟨[.string (S s),v,.bool q,.int .i64 d]⟩
def PS(w:World)(g B:Nat)(s:ag)(l:List Pt)(q:Bool)(d:Int):Prop:=∃v,dB w g s v q d/\iB w B l v
abbrev MP(g B:Nat)(w w':World):Prop:=Mod (λk=>k=g\/B<=k) w w'
def MP.trans{g B:Nat}{a b c:World}(h:MP g B a b)(k:MP g B b c):MP g B a c:=Mod.trans h k (λ_ h=>h) (λ_ _ h=>h)
def _root_.Go.Proofs.YtihaaoehhgmphaaGreatDoor.Still.mp{g B:Nat}{a b:World}(h:Still a b):MP g B a b:=h.weaken λ_ h=>h.elim
def MP.still{g B:Nat}{a b c:World}(h:MP g B a b)(k:Still b c):MP g B a c:=MP.trans h k.mp
def dB.text{g:Nat}{s:ag}{v:Value}{q:Bool}{d:Int}(h:dB w g s v q d):w.cell? ⟨g,0,none⟩=some (.string (S s)):=h.aj rfl
def dB.quoted{g:Nat}{s:ag}{v:Value}{q:Bool}{d:Int}(h:dB w g s v q d):w.cell? ⟨g,2,none⟩=some (.bool q):=h.aj rfl
def dB.depth{g:Nat}{s:ag}{v:Value}{q:Bool}{d:Int}(h:dB w g s v q d):w.cell? ⟨g,3,none⟩=some (.int .i64 d):=h.aj rfl
def jR(x:Pt)(b:Bool):Pt:=.mk x.k (x.q||b) x.t x.n x.o x.w
def awt(x:Pt)(b:Bool):(jR x b).wt=x.wt:=by rw[Pt.uR,Pt.uR];rfl
def PS.still{w':World}{g B:Nat}{s:ag}{l:List Pt}{q:Bool}{d:Int}(h:PS w g B s l q d)(hs:Still w w'):PS w' g B s l q d:=by obtain⟨v,h1,h2⟩:=h;exact⟨v,h1.still hs,h2.still hs⟩
def wu{g B n:Nat}{s:ag}{l:List Pt}{v vw:Value}{q:Bool}{d:Int}{x:Pt}(hr:dB w g s v q d)(ho:iB w B l v)(hg:g<B)(hB:B<=w.heap.size)(hw:cv w (λk=>B<=k/\k<w.heap.size/\v.ownBlock≠some k) x.w vw)(hn:n<=s.length)(hl:cz l+x.wt<1000000000):
  aH3 aIU #[.pointer (some ⟨g,0,none⟩),Es x vw,.int .i64 (n:Int)] w (λe w'=>e=.returned (.tuple #[])/\PS w' g B (s.drop n) (gh l (jR x q)) q d/\MP g B w w'):=by
 obtain⟨wp,wc,rfl⟩:=hw.form;refine alQ _ _ _ _ _ _ _ _ _ _ _ _ ?_;refine aP λw1 r1 s1 z1=>?_;have f1:=(Gd (x:=x) r1).2.1;have cG:dB w1 g s v q d:=hr.still s1;refine⟨λw4=>Row w4 w.heap.size 51 ⟨h_ (jR x q) (.slice wp x.w.length wc)⟩/\Still w w4,⟨_,f1,aB (λh=>?_) (λh=>?_)⟩,?_⟩
 .refine aH5 r1 (by simp) (by simp[Value.oneCell']) λw2 r2 m2 z2=>⟨?_,s1.box (aW _) m2⟩
  have e:h_ (jR x q) (.slice wp x.w.length wc)=fR (h_ x (.slice wp x.w.length wc)) 1 [.bool true]:=by rw[show jR x q=.mk x.k true x.t x.n x.o x.w by rw[jR,h,Bool.true_or]];rfl
  rw[e];exact r2
 .refine⟨_,by rw[bR];exact cG.quoted,aH5 r1 (by simp) (by simp[Value.oneCell']) λw2 r2 m2 z2=>⟨?_,s1.box (aW _) m2⟩⟩
  have e:h_ (jR x q) (.slice wp x.w.length wc)=fR (h_ x (.slice wp x.w.length wc)) 1 [.bool q]:=by rw[show jR x q=.mk x.k q x.t x.n x.o x.w by rw[jR,h,vT]];rfl
  rw[e];exact r2
 rintro _ w4 ⟨r4,s4⟩;have sd:Still w w4.drew:=s4.cK;have hrd:=hr.still sd;have CJ:=ho.still sd;obtain⟨p,c,xs,hv,hown,hcs⟩:=CJ;subst hv;have CJ:iB w4.drew B l (.slice p l.length c):=⟨p,c,xs,rfl,hown,hcs⟩;have rd:Row w4.drew w.heap.size 51 ⟨h_ (jR x q) (.slice wp x.w.length wc)⟩:=r4.still (gV w4);refine⟨λwq=>wq=w4.drew,rfl,p,l.length,c,?_,(jR x q).k,(jR x q).q,(jR x q).t,(jR x q).n,(jR x q).o,wp,x.w.length,wc,?_,?_,?_,?_,?_,?_,?_⟩
 .rintro _ rfl
  rw[bR];exact hrd.aj rfl
 .rintro _ rfl;exact rd.aj rfl
 .rintro _ rfl;exact rd.aj rfl
 .rintro _ rfl;exact rd.aj rfl
 .rintro _ rfl;exact rd.aj rfl
 .rintro _ rfl;exact rd.aj rfl
 .rintro _ rfl;exact rd.aj rfl
 have hzd:=sd.size;refine(GB (x:=jR x q) CJ (by omega) ((hw.still sd).mono λk hk=>⟨hk.1,by omega,hk.2.2⟩) (by rw[awt];exact hl)).mono ?_;rintro _ w5 ⟨v5,rfl,qO,m5,aGN⟩;obtain⟨p5,c5,xs5,rfl,ayv,az4⟩:=qO;have qS:dB w5 g s (.slice p l.length c) q d:=hrd.mod m5 λe=>by have:=(CJ.mR e).1;omega
 refine .inl ⟨_,_,_,rfl,?_⟩;show cJ ((Addr.mk g 0 none).add 1) _ _ _ _
 rw[bR];refine aH5 qS (by simp) (by simp[Value.oneCell']) λw6 r6 m6 z6=>?_;refine⟨s,r6.aj rfl,by omega,by omega,?_⟩;rw[bT];refine aH5 r6 (by simp[fR]) (by simp[Value.oneCell']) λw7 r7 m7 z7=>⟨rfl,⟨_,r7,?_⟩,?_⟩
 .have qO:iB w5 B (gh l (jR x q)) (.slice p5 (gh l (jR x q)).length c5):=⟨p5,c5,xs5,rfl,ayv,az4⟩
  exact(qO.mod m6 λk hk _ e=>by omega).mod m7 λk hk _ e=>by omega
 .have m5':MP g B w4.drew w5:=m5.weaken λk hk=>.inr (CJ.mR hk).1
  exact((sd.mp.trans m5').trans (m6.weaken λk hk=>.inl hk)).trans (m7.weaken λk hk=>.inl hk)
def aru{P:ag->Rs (List Pt)}(_:∀s,P s≠.bad 0)(q:Bool)(s:ag):GY P q s≠.bad 0:=λh=>by cases h
def aaU{P:ag->Rs (List Pt)}(hP:∀s,P s≠.bad 0)(q:Bool)(s:ag):k_ P q s≠.bad 0:=by
 unfold k_;split
 .split
  .intro h;cases h
  .split
   .rename_i t _ _
    cases hb:GY P q ((s.drop 2).take (s.length-t.length-3))with
    |bad k=>intro h;injection h with h;exact aru hP _ _ (hb.trans (by rw[h]))
    |ok x=>intro h;cases h
   .split<;>(intro h;cases h)
 .split
  .intro h;cases h
  .split<;>(intro h;cases h)
def Lt{one:ag->Rs (List Pt×Nat)}(ht:Aa one)(ho:∀c r,one (c::r)≠.bad 0):∀(n:Nat) (acc:List Pt) (s:ag),s.length<n->gQ one n acc s≠.bad 0
 |0,_,_,h=>by omega
 |n+1,acc,[],_=>λh=>by cases h
 |n+1,acc,c::r,hn=>by
  simp only[gQ];cases h1:one (c::r)with
  |bad k=>intro h;injection h with h;exact ho c r (h1.trans (by rw[h]))
  |ok x=>have h2:=ht _ _ h1;simp only[bf]at hn h2;exact Lt ht ho n _ _ (by rw[jx,bf];omega)
def R6{P:ag->Rs (List Pt)}(hP:∀s,P s≠.bad 0)(c:UInt8)(r:ag):nJ P (c::r)≠.bad 0:=by
 simp only[nJ];split
 .cases hd:k_ P true (c::r)with
  |bad k=>intro h;injection h with h;exact aaU hP _ _ (hd.trans (by rw[h]))
  |ok x=>intro h;cases h
 .split<;>(intro h;cases h)
def awu{P:ag->Rs (List Pt)}(hP:∀s,P s≠.bad 0)(s:ag):aI5 P s≠.bad 0:=by
 unfold aI5;split
 .intro h;cases h
 .exact Lt (F5 P) (R6 hP) _ _ _ (nr _)
def ab2{P:ag->Rs (List Pt)}(hP:∀s,P s≠.bad 0)(c:UInt8)(r:ag):rq P (c::r)≠.bad 0:=by
 simp only[rq];split
 .cases hd:k_ P false (c::r)with
  |bad k=>intro h;injection h with h;exact aaU hP _ _ (hd.trans (by rw[h]))
  |ok x=>intro h;cases h
 .split
  .split
   .intro h;cases h
   .rename_i t _
    split
    .intro h;cases h
    .split
     .cases hd:aI5 P (r.take (r.length-t.length-1))with
      |bad k=>intro h;injection h with h;exact awu hP _ (hd.trans (by rw[h]))
      |ok x=>intro h;cases h
     .intro h;cases h
  .intro h;cases h
def BZ:∀(L:Nat) (s:ag),fe L s≠.bad 0
 |0,s=>λh=>by cases h
 |L+1,s=>Lt (Q3 _) (ab2 (BZ L)) _ _ _ (nr _)
def yb(w:World)(s:ag)(L:Nat)(e:Ending)(w':World):Prop:=(match fe L s with
 |.ok l=>∃v,e=.returned (.tuple #[v,.int .i64 0])/\cv w' (λk=>w.heap.size<=k/\k<w'.heap.size) l v
 |.bad k=>e=.returned (.tuple #[.slice none 0 0,.int .i64 (k:Int)]))/\Still w w'
def axQ(L:Nat):Prop:=∀(w:World) (s:ag),s.length<1000000->123∉s->aH3 QV #[.string (S s),.int .i64 (31-(L:Int))] w (yb w s L)
def yc(w:World)(g B:Nat)(l:List Pt)(q:Bool)(d:Int)(s:ag)(x:Rs (Pt×Nat))(e:Ending)(w':World):Prop:=(match x with
 |.ok p=>e=.returned (.int .i64 0)/\PS w' g B (s.drop p.2) (gh l p.1) q d
 |.bad k=>e=.returned (.int .i64 (k:Int))/\∃s' v',dB w' g s' v' q d)/\MP g B w w'
def apl{c:UInt8}{r t:ag}(hc:c=40\/c=123)(h:aIt 30 (36::c::r)=some t):t.length+3<=(36::c::r).length:=by
 rcases hc with rfl|rfl
 .have h:eU 29 41 r=some t:=h
  have:=aKN _ _ _ _ h;simp only[bf];omega
 .have h:eU 29 125 r=some t:=h
  have:=aKN _ _ _ _ h;simp only[bf];omega
def aoI{P:ag->Rs (List Pt)}{q:Bool}{c:UInt8}{r:ag}(hc:c=40\/c=123):k_ P q (36::c::r)=(match aIt 30 (36::c::r)with
  |none=>.bad 90
  |some _=>if c=123 then(GY P q (r.take (jP (36::c::r)-3))).and λp=>.ok (p,jP (36::c::r))
   else if 4<jP (36::c::r)/\(36::c::r)[2]?=some 40/\(36::c::r)[jP (36::c::r)-2]?=some 41 then .ok (.mk 3 q (((36::c::r).drop 3).take (jP (36::c::r)-5)) [] [] [],jP (36::c::r))
   else .ok (.mk 2 q (r.take (jP (36::c::r)-3)) [] [] [],jP (36::c::r))):=by
 unfold k_;have hh:((36::c::r:ag).drop 1).head?=some 40\/((36::c::r:ag).drop 1).head?=some 123:=by
  rcases hc with rfl|rfl
  .exact .inl rfl
  .exact .inr rfl
 rw[aR hh];cases hu:aIt 30 (36::c::r)with
 |none=>rfl
 |some t=>
  have:=(Lh hu).1;rw[this];have e:(((36::c::r:ag).drop 1).head?=some 123)=(c=123):=by show(some c=some 123)=_;rw[JY]
  simp only[e];rfl
def aaV(s:ag)(n a k:Nat)(hk:k<=n-a):((s.take n).drop a).take k=(s.drop a).take k:=by rw[List.drop_take,Qe,vR hk]
def SI{s:ag}{n i:Nat}(h:i<n):(s.take n)[i]?=s[i]?:=by rw[zk,aR h]
def R7{s:ag}{i:Nat}{b c:UInt8}(h:s[i]?=some b):(s[i]?=some c)↔((b.toNat:Int)=(c.toNat:Int)):=by rw[h,JY];exact dS.symm
set_option maxHeartbeats 1000000 in
def avb{L:Nat}{g B:Nat}{c:UInt8}{r:ag}(nb:123∉(36::c::r:ag)){l:List Pt}{q:Bool}(hs:PS w g B (36::c::r) l q (30-(L:Int)))(hg:g<B)(hB:B<=w.heap.size)(hc:c=40\/c=123)(hl:(36::c::r).length<1000000)(hw:cz l+12*(36::c::r).length<500000000):
  aH3 PE #[.pointer (some ⟨g,0,none⟩)] w (yc w g B l q (30-(L:Int)) (36::c::r) (k_ (fe L) q (36::c::r))):=by
 obtain⟨v,hr,ho⟩:=hs;refine alh _ _ _ ?_;refine⟨_,hr.text,(ab1 _ hl).mono ?_⟩;rintro _ w1 ⟨rfl,s1⟩;have cG:dB w1 g _ v q _:=hr.still s1;have mj:=ho.still s1;rw[aoI hc];refine .inl ⟨_,rfl,?_⟩;cases hu:aIt 30 (36::c::r)with
 |none=>
  have h0:jP (36::c::r)=0:=by unfold jP;rw[hu]
  rw[h0];exact aB (λ_=>⟨⟨rfl,_,_,cG⟩,s1.mp⟩) (λh=>absurd (a_ h) (by decide))
 |some t=>
  obtain⟨h1,h2,h3⟩:=Lh hu;have h4:=apl hc hu;have h5:3<=jP (36::c::r):=by omega
  generalize jP (36::c::r)=n at h1 h2 h3 h5;dsimp only;have e1:i64.wrap ((n:Int)-1)=((n-1:Nat):Int):=by rw[wrap_i64 (by omega) (by omega)];omega
  have e2:i64.wrap ((n:Int)-2)=((n-2:Nat):Int):=by rw[wrap_i64 (by omega) (by omega)];omega
  have htn:((36::c::r).take n).length=n:=by rw[eH];omega
  refine aB (λh=>absurd (aT h) (by omega)) (λ_=>⟨_,cG.text,by omega,by omega,by decide,c,?_,?_⟩)
  .rw[bT]
   rw[SI (show Int.toNat 1<n by show 1<n;omega)];rfl
  rw[bT,e1,e2];have zz:=s1.size
  -- a part of its own is put
  have put:∀(x:Pt) (w6:World),w6=w1->x.q=false->x.w=[]->x.wt<=12*(36::c::r).length+20->aH3 aIU #[.pointer (some ⟨g,0,none⟩),Es x (.slice none 0 0),.int .i64 (n:Int)] w6 (λed w7=>(ed=.returned (.tuple #[])/\yc w g B l q (30-(L:Int)) (36::c::r) (.ok (.mk x.k q x.t x.n x.o x.w,n)) (.returned (.int .i64 0)) w7)\/(∃ch,ed=.panicked ch/\yc w g B l q (30-(L:Int)) (36::c::r) (.ok (.mk x.k q x.t x.n x.o x.w,n)) (.panicked ch) w7)):=by
   rintro x _ rfl hq NZ hwt;refine(wu (x:=x) (n:=n) cG mj hg (by omega) (by rw[NZ];exact cv.nil _ _ _ _) h3 (by omega)).mono ?_;rintro _ w7 ⟨rfl,h7,m7⟩;have e:jR x q=.mk x.k q x.t x.n x.o x.w:=by rw[jR,hq,vT]
   rw[e]at h7;exact .inl ⟨rfl,⟨rfl,h7⟩,s1.mp.trans m7⟩
  refine aB (λh=>?_) (λh=>?_)
  .have E1:c=123:=dS.1 (aT h)
   subst E1;exact absurd (by simp) nb
  .have E1:¬c=123:=λe=>a_ h (dS.2 e)
   rw[aL E1];refine⟨λb w6=>w6=w1/\(b=true↔(4<n/\(36::c::r)[2]?=some 40/\(36::c::r)[n-2]?=some 41)),aB (λh6=>?_) (λh6=>⟨rfl,λe=>(by cases e),λe=>?_⟩),?_⟩
   .have h6:4<n:=by have:=aT h6;omega
    obtain⟨b1,jg⟩:∃b1,(36::c::r)[2]?=some b1:=⟨_,gJ (by omega)⟩;obtain⟨b2,gE⟩:∃b2,(36::c::r)[n-2]?=some b2:=⟨_,gJ (by omega)⟩;refine⟨by decide,b1,by rw[SI (show Int.toNat 2<n by show 2<n;omega)];exact jg,aB (λh7=>⟨by omega,b2,by rw[bT,SI (by omega)];exact gE,rfl,?_⟩) (λh7=>⟨rfl,λe=>(by cases e),λe=>?_⟩)⟩
    .rw[kQ,R7 jg,R7 gE]
     exact⟨λe=>⟨h6,aT h7,e⟩,λe=>e.2.2⟩
    .rw[R7 jg]at e
     exact absurd e.2.1 (a_ h7)
   .have:=a_ h6
    omega
   .rintro b _ w6 ⟨rfl,hb⟩
    refine aB (λh8=>?_) (λh8=>?_)
    .have h9:=hb.1 h8
     rw[aR h9];have ht:((((36::c::r:ag).take n).drop (Int.toNat 3)).take (Int.toNat ((n-2:Nat):Int)-Int.toNat 3))=((36::c::r).drop 3).take (n-5):=by
      rw[bT];show((((36::c::r:ag).take n).drop 3).take (n-2-3))=_
      rw[aaV _ _ _ _ (by omega),show n-2-3=n-5 by omega]
     rw[ht];exact⟨by decide,by omega,by omega,put (.mk 3 false (((36::c::r).drop 3).take (n-5)) [] [] []) w6 rfl rfl rfl (by simp only[Pt.wt,cz,cm,eH];omega)⟩
    .rw[aL λh9=>by rw[hb.2 h9]at h8;cases h8]
     have ht:((((36::c::r:ag).take n).drop (Int.toNat 2)).take (Int.toNat ((n-1:Nat):Int)-Int.toNat 2))=r.take (n-3):=by
      rw[bT];show((((36::c::r:ag).take n).drop 2).take (n-1-2))=_
      rw[aaV _ _ _ _ (by omega),show n-1-2=n-3 by omega];rfl
     rw[ht];exact⟨by decide,by omega,by omega,put (.mk 2 false (r.take (n-3)) [] [] []) w6 rfl rfl rfl (by simp only[Pt.wt,cz,cm,eH];omega)⟩
def aqg(c:UInt8):([48,49,50,51,52,53,54,55,56,57,35,63,64,42]:ag).contains c=TN c:=by
 have h:∀n:Nat,n<256->([48,49,50,51,52,53,54,55,56,57,35,63,64,42]:ag).contains (UInt8.ofNat n)=TN (UInt8.ofNat n):=by decide+kernel
 have:=h c.toNat c.toNat_lt;rwa[PG]at this
def aeU(x:UInt8)(r:ag):pf [x] r=decide (r.head?=some x):=by
 rw[KK];cases r with
 |nil=>rfl
 |cons c r=>rw[r_];simp[List.isPrefixOf];exact eq_comm
set_option maxHeartbeats 1000000 in
def atq{L:Nat}{g B:Nat}{r:ag}(nb:123∉(36::r:ag)){l:List Pt}{q:Bool}(hs:PS w g B (36::r) l q (30-(L:Int)))(hg:g<B)(hB:B<=w.heap.size)(hl:(36::r).length<1000000)(hw:cz l+12*(36::r).length<500000000):
  aH3 Pu #[.pointer (some ⟨g,0,none⟩)] w (yc w g B l q (30-(L:Int)) (36::r) (k_ (fe L) q (36::r))):=by
 have hs':=hs;obtain⟨v,hr,ho⟩:=hs;simp only[bf]at hl hw;refine akW _ _ _ ?_;have e1:(36::r:ag).drop (Int.toNat 1)=r:=rfl;refine⟨_,hr.text,by decide,by simp only[bf];omega,?_⟩;rw[e1];refine(RZ r (by omega)).mono ?_;rintro _ w1 ⟨rfl,s1⟩;have hnl:=aKh r
 -- what the name is
 refine .inl ⟨_,rfl,λnm w4=>nm=r.take (if 0<bY r then bY r else nO r)/\Still w w4,⟨λb w3=>(b=true↔bY r=0/\0<nO r)/\Still w w3,aB (λh=>aB (λh2=>?_) (λh2=>?_)) (λh=>?_),?_⟩,?_⟩
 .have h:r.take (bY r)=[]:=aT h
  rw[take_nil hnl]at h;have h2:¬r=[]:=nt h2;obtain⟨c,y,rfl⟩:=aKs h2;refine⟨by decide,c,rfl,(index_spec _ c).mono ?_⟩;rintro _ w2 ⟨⟨n,rfl,hn⟩,rfl⟩;rw[aqg]at hn;refine .inl ⟨_,rfl,?_,s1⟩;rw[hn];simp only[nO];refine⟨λe=>⟨h,by rw[aR e];decide⟩,λe=>?_⟩;have:=e.2;split at this;·assumption
  .omega
 .have h2:r=[]:=nf h2
  subst h2;exact⟨⟨λe=>(by cases e),λe=>absurd e.2 (by decide)⟩,s1⟩
 .have h:¬r.take (bY r)=[]:=a_ h
  rw[take_nil hnl]at h;exact⟨⟨λe=>(by cases e),λe=>absurd e.1 h⟩,s1⟩
 .rintro b _ w3 ⟨hb,s3⟩
  refine aB (λh=>?_) (λh=>?_)
  .have hh:=hb.1 h
   have h1:=abx r;have h2:=Sv r;refine⟨by decide,by omega,?_,s3⟩;rw[aL (by omega),show nO r=1 by omega];rfl
  .refine⟨?_,s3⟩
   by_cases h0:0<bY r
   .rw[aR h0]
   .have:¬0<nO r:=λe=>by rw[hb.2 ⟨by omega,e⟩]at h;cases h
    rw[aL h0];congr 1;omega
 rintro _ _ w4 ⟨rfl,s4⟩;refine⟨λb w7=>(b=true↔r.head?=some 40\/r.head?=some 123)/\Still w w7,(Y6 r [40]).mono ?_,?_⟩
 .rintro _ w5 ⟨rfl,rfl⟩
  rw[aeU];refine .inl ⟨_,rfl,aB (λh=>⟨?_,s4⟩) (λh=>(Y6 r [123]).mono ?_)⟩
  .rw[h]
   exact⟨λ_=>.inl (aT h),λ_=>rfl⟩
  .rintro _ w6 ⟨rfl,rfl⟩
   rw[aeU];refine .inl ⟨_,rfl,?_,s4⟩;rw[kQ];exact⟨.inr,λe=>e.resolve_left (a_ h)⟩
 rintro b _ w7 ⟨hb,s7⟩;have hz:=s7.size;refine aB (λh=>?_) (λh=>?_)
 .have hh:=hb.1 h
  obtain⟨c,y,rfl⟩:∃c y,r=c::y:=by
   cases r with
   |nil=>rcases hh with e|e<;>cases e
   |cons c y=>exact⟨c,y,rfl⟩
  have hc:c=40\/c=123:=by simpa using hh
  refine(avb nb (hs'.still s7) hg (by omega) hc (by simp only[bf]at hl⊢;omega) (by simp only[bf]at hw⊢;omega)).mono ?_;rintro e8 w8 ⟨h8,m8⟩;cases hd:k_ (fe L) q (36::c::y)with
  |ok p=>rw[hd]at h8;obtain⟨rfl,h9⟩:=h8;exact .inl ⟨_,rfl,⟨rfl,h9⟩,s7.mp.trans m8⟩
  |bad k=>rw[hd]at h8;obtain⟨rfl,h9⟩:=h8;exact .inl ⟨_,rfl,⟨rfl,h9⟩,s7.mp.trans m8⟩
 have hno:¬(r.head?=some 40\/r.head?=some 123):=λe=>by rw[hb.2 e]at h;cases h
 have xl:dB w7 g _ v q _:=hr.still s7;have Cp:=ho.still s7;have put:∀(x:Pt) (n:Nat),x.q=false->x.w=[]->x.wt<=12*(r.length+1)+20->n<=r.length+1->k_ (fe L) q (36::r)=.ok (.mk x.k q x.t x.n x.o x.w,n)->aH3 aIU #[.pointer (some ⟨g,0,none⟩),Es x (.slice none 0 0),.int .i64 (n:Int)] w7 (λed w9=>(ed=.returned (.tuple #[])/\yc w g B l q (30-(L:Int)) (36::r) (k_ (fe L) q (36::r)) (.returned (.int .i64 0)) w9)\/(∃ch,ed=.panicked ch/\yc w g B l q (30-(L:Int)) (36::r) (k_ (fe L) q (36::r)) (.panicked ch) w9)):=by
  intro x n hq NZ hwt hn hd;refine(wu (x:=x) (n:=n) xl Cp hg (by omega) (by rw[NZ];exact cv.nil _ _ _ _) (by simp only[bf];omega) (by omega)).mono ?_;rintro _ w9 ⟨rfl,h9,m9⟩;rw[hd];have e:jR x q=.mk x.k q x.t x.n x.o x.w:=by rw[jR,hq,vT]
  rw[e]at h9;exact .inl ⟨rfl,⟨rfl,h9⟩,s7.mp.trans m9⟩
 have hd0:k_ (fe L) q (36::r)=if 0<bY r then .ok (.mk 1 q [] (r.take (bY r)) [] [],bY r+1)else if 0<nO r then .ok (.mk 1 q [] (r.take 1) [] [],2)else .ok (.mk 0 q [36] [] [] [],1):=by unfold k_;simp only[Bi,Ki];rw[aL hno]
 have aGO:=abx r;have aGP:=Sv r;refine aB (λh5=>?_) (λh5=>?_)
 .have h5:¬r.take (if 0<bY r then bY r else nO r)=[]:=nt h5
  rw[take_nil (by split<;>omega)]at h5;have hlen:(r.take (if 0<bY r then bY r else nO r)).length=(if 0<bY r then bY r else nO r):=by rw[eH];split<;>omega
  rw[hlen,show i64.wrap (1+((if 0<bY r then bY r else nO r:Nat):Int))=(((if 0<bY r then bY r else nO r)+1:Nat):Int) by rw[wrap_i64 (by omega) (by split<;>omega)];omega]
  by_cases h0:0<bY r
  .rw[aR h0]at h5⊢
   exact put (.mk 1 false [] (r.take (bY r)) [] []) (bY r+1) rfl rfl (by simp only[Pt.wt,cz,cm,eH];omega) (by omega) (by rw[hd0,aR h0];rfl)
  .rw[aL h0]at h5⊢
   have h6:nO r=1:=by omega
   rw[h6];exact put (.mk 1 false [] (r.take 1) [] []) 2 rfl rfl (by simp only[Pt.wt,cz,cm,eH];omega) (by omega) (by rw[hd0,aL h0,aR (by omega)];rfl)
 .have h5:r.take (if 0<bY r then bY r else nO r)=[]:=nf h5
  rw[take_nil (by split<;>omega)]at h5;have h6:¬0<bY r:=λe=>by rw[aR e]at h5;omega
  rw[aL h6]at h5;exact put (.mk 0 false [36] [] [] []) 1 rfl rfl (by simp only[Pt.wt,cz,cm,bf];omega) (by omega) (by rw[hd0,aL h6,aL (by omega)];rfl)
def Av(w:World)(g B:Nat)(l:List Pt)(q:Bool)(d:Int)(s:ag)(x:Rs (List Pt×Nat))(e:Ending)(w':World):Prop:=(match x with
 |.ok p=>e=.returned (.int .i64 0)/\PS w' g B (s.drop p.2) (p.1.foldl gh l) q d
 |.bad k=>e=.returned (.int .i64 (k:Int))/\∃s' v',dB w' g s' v' q d)/\MP g B w w'
def yc.one{g B:Nat}{l:List Pt}{q:Bool}{d:Int}{s:ag}{x:Rs (Pt×Nat)}{e:Ending}{w':World}(h:yc w g B l q d s x e w'):Av w g B l q d s (x.and λy=>.ok ([y.1],y.2)) e w':=by
 cases x with
 |ok p=>exact h
 |bad k=>exact h
def ic(q:Bool)(L:Nat):ag->Rs (List Pt×Nat):=if q=true then nJ (fe L)else rq (fe L)
def aaW(q:Bool)(L:Nat):Aa (ic q L):=by
 unfold ic;split
 .exact F5 _
 .exact Q3 _
def arv(q:Bool)(L:Nat):Bears (ic q L):=by
 unfold ic;split
 .exact Zo (L6 L)
 .exact Zp (L6 L)
def awv(q:Bool)(L:Nat)(c:UInt8)(r:ag):ic q L (c::r)≠.bad 0:=by
 unfold ic;split
 .exact R6 (BZ L) c r
 .exact ab2 (BZ L) c r
def aqh(q:Bool)(L:Nat)(r:ag):ic q L (36::r)=(k_ (fe L) q (36::r)).and λy=>.ok ([y.1],y.2):=by
 cases q
 .simp only[ic,rq,kP,iR,oV]
 .simp only[ic,nJ,oV]
def atr{one:ag->Rs (List Pt×Nat)}(ht:Aa one)(l:List Pt)(c:UInt8)(r:ag):gQ one ((c::r).length+1) l (c::r)=(one (c::r)).and λx=>gQ one (((c::r).drop x.2).length+1) (x.1.foldl gh l) ((c::r).drop x.2):=by
 show(one (c::r)).and (λx=>gQ one (c::r).length (x.1.foldl gh l) ((c::r).drop x.2))=_;cases h:one (c::r)with
 |bad k=>rfl
 |ok x=>have h2:=ht _ _ h;simp only[Rs.and];refine aar ht _ _ _ _ ?_ (nr _);rw[jx];omega
def xV(g:Nat)(w:World):Nat:=match w.cell? ⟨g,0,none⟩with
 |some (.string s)=>s.size
 |_=>0
def dB.len{g:Nat}{s:ag}{v:Value}{q:Bool}{d:Int}(h:dB w g s v q d):xV g w=s.length:=by unfold xV;rw[h.text];rfl
def adZ(w:World)(g B:Nat)(q:Bool)(d:Int)(L:Nat)(l:List Pt)(s:ag)(e:Ending)(w':World):Prop:=(match gQ (ic q L) (s.length+1) l s with
 |.ok l'=>e=.returned (.int .i64 0)/\PS w' g B [] l' q d
 |.bad k=>e=.returned (.int .i64 (k:Int))/\∃s' v',dB w' g s' v' q d)/\MP g B w w'
def aeV(L:Nat):Prop:=∀(w:World) (g B:Nat) (c:UInt8) (r:ag) (l:List Pt),PS w g B (c::r) l false (30-(L:Int))->g<B->B<=w.heap.size->(c=92\/c=39\/c=34)->(c::r).length<1000000->cz l+12*(c::r).length<500000000->123∉(c::r:ag)->
 aH3 PD #[.pointer (some ⟨g,0,none⟩)] w (Av w g B l false (30-(L:Int)) (c::r) (rq (fe L) (c::r)))
def aaX(c:UInt8):([36,96,34,92]:ag).contains c=true↔(c=36\/c=96\/c=34\/c=92):=by simp
def arw{L g B:Nat}{c:UInt8}{r:ag}{l:List Pt}{d:Int}(hs:PS w g B (c::r) l true d)(hc:c≠36)(hg:g<B)(hB:B<=w.heap.size)(hl:(c::r).length<1000000)(hw:cz l+12*(c::r).length<500000000):
  aH3 Pj #[.pointer (some ⟨g,0,none⟩)] w (λe w'=>∃b:Bool,e=.returned (.bool b)/\(b=true->Av w g B l true d (c::r) (nJ (fe L) (c::r)) (.returned (.int .i64 0)) w')/\(b=false->w'=w/\nJ (fe L) (c::r)=.ok ([tx true [c]],1))):=by
 obtain⟨v,hr,ho⟩:=hs;simp only[bf]at hl hw;refine akE _ _ _ ?_;have no:¬(c=92/\(r.head?=some 36\/r.head?=some 96\/r.head?=some 34\/r.head?=some 92))->(∃b:Bool,Ending.returned (.bool false)=.returned (.bool b)/\(b=true->Av w g B l true d (c::r) (nJ (fe L) (c::r)) (.returned (.int .i64 0)) w)/\(b=false->w=w/\nJ (fe L) (c::r)=.ok ([tx true [c]],1))):=by intro h;refine⟨false,rfl,λe=>(by cases e),λ_=>⟨rfl,?_⟩⟩;simp only[nJ];rw[aL hc,aL h]
 refine⟨_,hr.text,aB (λh=>?_) (λh=>⟨_,hr.text,by decide,c,rfl,aB (λh2=>?_) (λh2=>?_)⟩)⟩
 .have h:=aT h
  simp only[bf]at h;have:r=[]:=mH (by omega);subst this;exact no λe=>by rcases e.2 with e|e|e|e<;>cases e
 .have h2:¬c=92:=λe=>nt h2 (dS.2 e)
  exact no λe=>h2 e.1
 .have h2:c=92:=dS.1 (nf h2)
  subst h2;have h:=a_ h;simp only[bf]at h;obtain⟨b,y,rfl⟩:∃b y,r=b::y:=by
   cases r with
   |nil=>simp at h
   |cons b y=>exact⟨b,y,rfl⟩
  refine⟨_,hr.text,by decide,b,rfl,(index_spec _ b).mono ?_⟩;rintro _ w1 ⟨⟨n,rfl,hn⟩,rfl⟩;have hd:nJ (fe L) (92::b::y)=if(b=36\/b=96\/b=34\/b=92)then .ok ([tx true [b]],2)else .ok ([tx true [92]],1):=by simp[nJ]
  refine .inl ⟨_,rfl,aB (λh3=>?_) (λh3=>⟨_,hr.text,by decide,by decide,by simp only[bf];omega,?_⟩)⟩
  .have h3:n<0:=aT h3
   have h4:¬([36,96,34,92]:ag).contains b=true:=by rw[<-hn,kQ];omega
   rw[aaX]at h4;exact no λe=>h4 (by simpa using e.2)
  .have h3:¬n<0:=a_ h3
   have h4:([36,96,34,92]:ag).contains b=true:=by rw[<-hn,kQ];omega
   rw[aaX]at h4;refine(wu (x:=tx false [b]) (vw:=.slice none 0 0) (n:=2) hr ho hg hB (cv.nil _ _ _ _) (by simp only[bf];omega) (by rw[aKz];simp only[bf,cm]at hw⊢;omega)).mono ?_;rintro _ w2 ⟨rfl,h2,m2⟩;refine .inl ⟨rfl,true,rfl,λ_=>?_,λe=>(by cases e)⟩;rw[hd,aR h4];exact⟨⟨rfl,h2⟩,m2⟩
set_option maxHeartbeats 1000000 in
def aeW{L:Nat}(hL:L<=30){q:Bool}(hq:q=false->aeV L){g B:Nat}{s:ag}{l:List Pt}(hs:PS w g B s l q (30-(L:Int)))(hg:g<B)(hB:B<=w.heap.size)(hl:s.length<1000000)(hw:cz l+12*s.length<500000000)(nb:123∉s):
  aH3 J8 #[.pointer (some ⟨g,0,none⟩)] w (adZ w g B q (30-(L:Int)) L l s):=by
 refine alP _ _ _ ?_;refine⟨λex w1=>((∃s1 l1,ex=0/\PS w1 g B s1 l1 q (30-(L:Int))/\gQ (ic q L) (s1.length+1) l1 s1=gQ (ic q L) (s.length+1) l s/\cz l1+12*s1.length<=cz l+12*s.length/\s1<:+s)\/(∃(k:Nat) (s':ag) (v':Value),k≠0/\ex=(k:Int)/\gQ (ic q L) (s.length+1) l s=.bad k/\dB w1 g s' v' q (30-(L:Int))))/\MP g B w w1,
  λex w1=>if ex=0 then 1+xV g w1 else 0,⟨.inl ⟨s,l,rfl,hs,rfl,aW _,xB _⟩,Mod.refl _ _⟩,?_⟩
 rintro ex _ w1 ⟨h1|⟨k,s',v',hk,rfl,hT,cG⟩,m1⟩;rotate_left
 .refine⟨_,cG.text,aB (λ_=>aB (λh=>absurd (aT h) (by omega)) (λ_=>?_)) (λ_=>?_)⟩
  .refine⟨?_,m1⟩
   rw[hT];exact⟨rfl,_,_,cG⟩
  .refine⟨?_,m1⟩
   rw[hT];exact⟨rfl,_,_,cG⟩
 obtain⟨s1,l1,rfl,hs1,hT,hw1,hl1⟩:=h1;have EM:=hl1.length_le;have AA:=hs1;obtain⟨v1,cG,mj⟩:=hs1;have hz:=m1.size;refine⟨_,cG.text,aB (λhne=>?_) (λhe=>?_)⟩;rotate_left
 .have he:s1=[]:=nf he
  subst he;refine⟨?_,m1⟩;rw[<-hT];exact⟨rfl,AA⟩
 have hne:s1≠[]:=nt hne;obtain⟨c,r,rfl⟩:=aKs hne;have AU:123∉(c::r:ag):=λe=>nb (hl1.subset e)
 -- what a taking comes to, for the loop
 have next:∀(e:Ending) (w2:World),Av w1 g B l1 q (30-(L:Int)) (c::r) (ic q L (c::r)) e w2->∃n:Int,e=.returned (.int .i64 n)/\(((∃s1 l1,n=0/\PS w2 g B s1 l1 q (30-(L:Int))/\gQ (ic q L) (s1.length+1) l1 s1=gQ (ic q L) (s.length+1) l s/\cz l1+12*s1.length<=cz l+12*s.length/\s1<:+s)\/(∃(k:Nat) (s':ag) (v':Value),k≠0/\n=(k:Int)/\gQ (ic q L) (s.length+1) l s=.bad k/\dB w2 g s' v' q (30-(L:Int))))/\MP g B w w2)/\(if n=0 then 1+xV g w2 else 0)<(if(0:Int)=0 then 1+xV g w1 else 0):=by
  rintro e w2 ⟨h2,m2⟩;rw[atr (aaW q L)]at hT;rw[aR rfl,cG.len];cases ho:ic q L (c::r)with
  |ok x=>rw[ho]at h2 hT;obtain⟨rfl,hs2⟩:=h2;have ht:=aaW q L _ _ ho;have hb:=arv q L _ _ ho;have hf:=LF x.1 l1;have hdl:((c::r).drop x.2).length=(c::r).length-x.2:=jx;refine⟨0,rfl,⟨.inl ⟨_,_,rfl,hs2,hT,by omega,(List.drop_suffix _ _).trans hl1⟩,m1.trans m2⟩,?_⟩;obtain⟨v2,hr2,_⟩:=hs2;rw[aR rfl,hr2.len];omega
  |bad k=>rw[ho]at h2 hT;obtain⟨rfl,s',v',hr2⟩:=h2;have hk:k≠0:=λe=>awv q L c r (by rw[ho,e]);refine⟨_,rfl,⟨.inr ⟨k,s',v',hk,rfl,hT.symm,hr2⟩,m1.trans m2⟩,?_⟩;rw[aL (by omega)];omega
 have hlc:(c::r).length<1000000:=by omega
 have N0:cz l1+12*(c::r).length<500000000:=by omega
 refine aB (λ_=>⟨_,cG.text,by decide,c,rfl,aB (λA8=>?_) (λA8=>?_)⟩) (λh=>absurd rfl (a_ h))
 .have A8:c=36:=dS.1 (aT A8)
  subst A8;refine(atq AU AA hg (by omega) hlc N0).mono ?_;intro e w2 h2;have:=yc.one h2;rw[<-aqh]at this;obtain⟨n,he,hi,hm⟩:=next e w2 this;exact .inl ⟨n,he,hi,hm⟩
 have A8:¬c=36:=λe=>a_ A8 (dS.2 e)
 -- one byte is put
 have byte:∀(w5:World),w5=w1->ic q L (c::r)=.ok ([tx q [c]],1)->aH3 aIU #[.pointer (some (Addr.mk g 0 none)),(.agg #[(.int .i64 0),(.bool false),(.string (S ((c::r:ag).take (Int.toNat (1:Int))))),(.string (S ([]:List UInt8))),(.string (S ([]:List UInt8))),(.slice none 0 0)]),(.int .i64 (1:Int))] w5 (λed w7=>(ed=.returned (.tuple #[])/\(((∃s1 l1,(0:Int)=0/\PS w7 g B s1 l1 q (30-(L:Int))/\gQ (ic q L) (s1.length+1) l1 s1=gQ (ic q L) (s.length+1) l s/\cz l1+12*s1.length<=cz l+12*s.length/\s1<:+s)\/(∃(k:Nat) (s':ag) (v':Value),k≠0/\(0:Int)=(k:Int)/\gQ (ic q L) (s.length+1) l s=.bad k/\dB w7 g s' v' q (30-(L:Int))))/\MP g B w w7)/\(if(0:Int)=0 then 1+xV g w7 else 0)<(if(0:Int)=0 then 1+xV g w1 else 0))\/(∃ch,ed=.panicked ch/\adZ w g B q (30-(L:Int)) L l s (.panicked ch) w7)):=by
  rintro _ rfl ho;refine(wu (x:=tx false [c]) (vw:=.slice none 0 0) (n:=1) cG mj hg (by omega) (cv.nil _ _ _ _) (by simp) (by rw[aKz];simp only[bf,cm]at N0⊢;omega)).mono ?_;rintro _ w7 ⟨rfl,h7,m7⟩;have e:jR (tx false [c]) q=tx q [c]:=by simp[jR,tx,Pt.k,Pt.q,Pt.t,Pt.n,Pt.o,Pt.w]
  rw[e]at h7;obtain⟨n,he,hi,hm⟩:=next (.returned (.int .i64 0)) w7 (by rw[ho];exact⟨⟨rfl,h7⟩,m7⟩);obtain rfl:n=0:=by injection he with he;injection he with _ he;exact he.symm
  exact .inl ⟨rfl,hi,hm⟩
 refine⟨λb w4=>(b=true->(((∃s1 l1,(0:Int)=0/\PS w4 g B s1 l1 q (30-(L:Int))/\gQ (ic q L) (s1.length+1) l1 s1=gQ (ic q L) (s.length+1) l s/\cz l1+12*s1.length<=cz l+12*s.length/\s1<:+s)\/(∃(k:Nat) (s':ag) (v':Value),k≠0/\(0:Int)=(k:Int)/\gQ (ic q L) (s.length+1) l s=.bad k/\dB w4 g s' v' q (30-(L:Int))))/\MP g B w w4)/\(if(0:Int)=0 then 1+xV g w4 else 0)<(if(0:Int)=0 then 1+xV g w1 else 0))/\(b=false->w4=w1/\(q=true->ic q L (c::r)=.ok ([tx q [c]],1))),⟨q,by rw[bR];exact cG.quoted,aB (λJb=>?_) (λJc=>?_)⟩,?_⟩
 .subst Jb
  refine(arw (L:=L) AA A8 hg (by omega) hlc N0).mono ?_;rintro _ w3 ⟨b,rfl,jg,gE⟩;refine .inl ⟨b,rfl,λhb=>?_,λhb=>?_⟩
  .obtain⟨n,he,hi,hm⟩:=next _ w3 (show Av w1 g B l1 true (30-(L:Int)) (c::r) (ic true L (c::r)) (.returned (.int .i64 0)) w3 from jg hb)
   obtain rfl:n=0:=by injection he with he;injection he with _ he;exact he.symm
   exact⟨hi,hm⟩
  .exact⟨(gE hb).1,λ_=>(gE hb).2⟩
 .exact⟨λe=>(by cases e),λ_=>⟨rfl,λe=>by rw[Jc]at e;cases e⟩⟩
 rintro b _ w4 ⟨jg,gE⟩;refine aB (λhb=>jg hb) (λhb=>?_);obtain⟨rfl,hq1⟩:=gE hb;refine⟨q,by rw[bR];exact cG.quoted,aB (λJc=>?_) (λJb=>?_)⟩
 .have Jc:q=false:=by simpa using Jc
  subst Jc;refine(index_spec _ c).mono ?_;rintro _ w5 ⟨⟨n,rfl,hn⟩,rfl⟩;have E1:([92,39,34]:ag).contains c=true↔(c=92\/c=39\/c=34):=by simp
  refine .inl ⟨_,rfl,aB (λh0=>?_) (λh0=>⟨_,cG.text,by decide,by simp only[bf];omega,byte w5 rfl ?_⟩)⟩
  .have h0:([92,39,34]:ag).contains c=true:=by rw[<-hn];exact h0
   refine(hq rfl w5 g B c r l1 AA hg (by omega) (E1.1 h0) hlc N0 AU).mono ?_;intro e w6 h6;obtain⟨n,he,hi,hm⟩:=next e w6 h6;exact .inl ⟨n,he,hi,hm⟩
  .have h0:¬([92,39,34]:ag).contains c=true:=by rw[<-hn,h0];decide
   rw[E1]at h0;simp only[ic,rq,kP,iR];rw[aL A8,aL h0]
 .have Jb:q=true:=by simpa using Jb
  exact⟨_,cG.text,by decide,by simp only[bf];omega,byte w4 rfl (hq1 Jb)⟩
def att{l' l:List Pt}{k:Nat}(h:k<l'.length):(l'.take (k+1)).foldl gh l=gh ((l'.take k).foldl gh l) l'[k]:=by rw[take_one h,List.foldl_append];rfl
set_option maxHeartbeats 1000000 in
def avc{L:Nat}(hL:L<=30):aeV L:=by
 intro w g B c r l hs hg hB hc hl hw nb;have hs':=hs;obtain⟨v,hr,ho⟩:=hs;refine alg _ _ _ ?_;refine⟨_,hr.text,(ab1 _ hl).mono ?_⟩;rintro _ w1 ⟨rfl,s1⟩;have cG:dB w1 g _ v false _:=hr.still s1;have mj:=ho.still s1;have z1:=s1.size;simp only[bf]at hl hw;have az5:¬c=36:=by rcases hc with rfl|rfl|rfl<;>decide
 have hout:rq (fe L) (c::r)=(match aIt 30 (c::r)with
   |none=>.bad 90
   |some t=>
    if c=92 then .ok ([tx true (r.take 1)],2)
    else if c=34 then(aI5 (fe L) (r.take (r.length-t.length-1))).and λl=>.ok (l,r.length+1-t.length)
    else .ok ([tx true (r.take (r.length-t.length-1))],r.length+1-t.length)):=by
  simp only[rq];rw[aL az5,aR hc];cases aIt 30 (c::r)<;>rfl
 rw[hout];refine .inl ⟨_,rfl,?_⟩;cases hu:aIt 30 (c::r)with
 |none=>
  have h0:jP (c::r)=0:=by unfold jP;rw[hu]
  rw[h0];exact aB (λ_=>⟨⟨rfl,_,_,cG⟩,s1.mp⟩) (λh=>absurd (a_ h) (by decide))
 |some t=>
  obtain⟨h1,h2,h3⟩:=Lh hu;simp only[bf]at h1 h3;have aIC:c=92->∃b,r=b::t:=by
   rintro rfl;cases r with
   |nil=>cases hu
   |cons b y=>have:some y=some t:=hu;injection this with this;exact⟨b,by rw[this]⟩
  have h5:2<=jP (c::r):=by
   rcases Qy (c=92)with e|e
   .obtain⟨b,rfl⟩:=aIC e
    simp only[bf]at h1;omega
   .have:=abA (hc.resolve_left e) hu
    omega
  generalize hn:jP (c::r)=n at h1 h2 h3 h5;dsimp only;have emx:(if i64.wrap ((n:Int)-1)>1 then i64.wrap ((n:Int)-1)else 1)=((n-1:Nat):Int):=by rw[wrap_i64 (by omega) (by omega)];split<;>omega
  rw[emx];have hin:(((c::r:ag).drop (Int.toNat 1)).take (Int.toNat ((n-1:Nat):Int)-Int.toNat 1))=r.take (r.length-t.length-1):=by
   rw[bT];show r.take (n-1-1)=_
   congr 1;omega
  have e2:r.length+1-t.length=n:=by omega
  rw[e2];have put:∀(tt:ag) (w6:World),w6=w1->tt.length<=r.length->aH3 aIU #[.pointer (some ⟨g,0,none⟩),Es (tx true tt) (.slice none 0 0),.int .i64 (n:Int)] w6 (λed w7=>(ed=.returned (.tuple #[])/\Av w g B l false (30-(L:Int)) (c::r) (.ok ([tx true tt],n)) (.returned (.int .i64 0)) w7)\/(∃ch,ed=.panicked ch/\Av w g B l false (30-(L:Int)) (c::r) (.ok ([tx true tt],n)) (.panicked ch) w7)):=by rintro tt _ rfl htt;refine(wu (x:=tx true tt) (n:=n) cG mj hg (by omega) (cv.nil _ _ _ _) (by simp only[bf];omega) (by rw[aKz];omega)).mono ?_;rintro _ w7 ⟨rfl,h7,m7⟩;exact .inl ⟨rfl,⟨rfl,h7⟩,s1.mp.trans m7⟩
  refine aB (λh=>absurd (aT h) (by omega)) (λ_=>⟨c::r,cG.text,by decide,by omega,by simp only[bf];omega,?_⟩);rw[hin];refine⟨_,cG.text,by decide,c,rfl,aB (λh=>?_) (λh=>aB (λqd=>?_) (λqd=>?_))⟩
  .have h:c=92:=dS.1 (aT h)
   obtain⟨b,rfl⟩:=aIC h;rw[aR h];simp only[bf]at h1;have hn2:n=2:=by omega
   rw[hn2]at put⊢;exact⟨_,cG.text,by decide,by decide,by simp only[bf];omega,put [b] w1 rfl (by simp)⟩
  .have h:¬c=92:=λe=>a_ h (dS.2 e)
   have qd:c=34:=dS.1 (aT qd);rw[aL h,aR qd];refine⟨_,by rw[bR];exact cG.depth,aP λw3 r3 s3 z3=>?_⟩;generalize U2:r.take (r.length-t.length-1)=inner;have hil:inner.length<=r.length-1-t.length:=by rw[<-U2,eH];omega
   rw[U2]at r3;have hy:PS w3 w1.heap.size (w1.heap.size+1) inner [] true (30-(L:Int)):=⟨_,r3,iB.nil _ _⟩;refine(aeW hL (q:=true) (λe=>by cases e) hy (by omega) (by omega) (by omega) (by simp only[cz];omega) (λe=>nb (O6 _ (O8 (U2.symm▸e))))).mono ?_;rintro e4 w4 ⟨h4,m4⟩;have Jd:Still w1 w4:=Mod.trans s3 m4 (λ_ h=>h) λk hk e=>by omega
   have hr4:dB w4 g _ v false _:=cG.still Jd;have p_:=mj.still Jd;have ayw:gQ (ic true L) (inner.length+1) [] inner=gQ (nJ (fe L)) (inner.length+1) [] inner:=rfl;rw[ayw]at h4;cases hlp:gQ (nJ (fe L)) (inner.length+1) [] inner with
   |bad k=>
    rw[hlp]at h4;obtain⟨rfl,_⟩:=h4;have hk:k≠0:=λe=>Lt (F5 _) (R6 (BZ L)) _ _ _ (nr _) (by rw[hlp,e]);have hd:aI5 (fe L) inner=.bad k:=by unfold aI5;rw[aL,hlp];rintro rfl;cases hlp
    rw[hd];refine .inl ⟨_,rfl,aB (λ_=>⟨⟨rfl,_,_,hr4⟩,(s1.trans Jd).mp⟩) (λhh=>absurd (nf hh) (by omega))⟩
   |ok l0=>
    rw[hlp]at h4;obtain⟨rfl,hy4⟩:=h4;refine .inl ⟨_,rfl,aB (λhh=>absurd rfl (nt hh)) (λ_=>?_)⟩;obtain⟨l2,hd,kJ⟩:∃l2,aI5 (fe L) inner=.ok l2/\cz l2<=12*inner.length+8:=by
     cases hd:aI5 (fe L) inner with
     |ok l2=>exact⟨l2,rfl,adL (L6 L) hd⟩
     |bad k=>
      exfalso;unfold aI5 at hd;split at hd
      .cases hd
      .rw[hlp]at hd;cases hd
    rw[hd]
    -- the parts within
    refine⟨λw6=>(∃v6,dB w6 w1.heap.size [] v6 true (30-(L:Int))/\iB w6 (w1.heap.size+1) l2 v6)/\Still w1 w6,aB (λh6=>?_) (λh6=>?_),?_⟩
    .have h6:inner=[]:=aT h6
     subst h6;obtain rfl:l0=[]:=by injection hlp with hlp;exact hlp.symm
     obtain rfl:l2=[tx true []]:=by injection hd with hd;exact hd.symm
     obtain⟨v4,qS,qO⟩:=hy4;have z4:w1.heap.size<w4.heap.size:=qS.lt;refine(wu (x:=.mk 0 false [] [] [] []) (vw:=.slice none 0 0) (n:=0) qS qO (by omega) (by omega) (cv.nil _ _ _ _) (by simp) (by simp[cz,Pt.wt])).mono ?_;rintro _ w5 ⟨rfl,h5,m5⟩;refine .inl ⟨rfl,h5,Mod.trans Jd m5 (λ_ h=>h) λk hk e=>by omega⟩
    .have h6:¬inner=[]:=a_ h6
     have:l2=l0:=by unfold aI5 at hd;rw[aL h6,hlp]at hd;injection hd with hd;exact hd.symm
     subst this;exact⟨hy4,Jd⟩
    rintro _ w6 ⟨⟨v6,ag7,U3⟩,s6⟩;obtain⟨p6,c6,xs6,rfl,ayx,az6⟩:=U3;have U3:iB w6 (w1.heap.size+1) l2 (.slice p6 l2.length c6):=⟨p6,c6,xs6,rfl,ayx,az6⟩;have az7:=U3.sl;have z6:w1.heap.size<w6.heap.size:=ag7.lt;have aGQ:=LD l2;refine⟨p6,l2.length,c6,ag7.aj rfl,λx1 w7=>∃k:Nat,x1=(k:Int)/\k<=l2.length/\(∃v7,dB w7 g (c::r) v7 false (30-(L:Int))/\iB w7 B ((l2.take k).foldl gh l) v7/\∀j,v7.ownBlock=some j->j<w1.heap.size\/w6.heap.size<=j)/\cv w7 (λj=>w1.heap.size+1<=j/\j<w6.heap.size) l2 (.slice p6 l2.length c6)/\MP g B w1 w7/\w6.heap.size<=w7.heap.size,λx1 _=>l2.length-x1.toNat,⟨0,rfl,dx _,⟨v,cG.still s6,mj.still s6,λj hj=>.inl (mj.mR hj).2⟩,az7,s6.mp,aW _⟩,?_⟩;rintro _ _ w7 ⟨k,rfl,hk,⟨v7,xl,Cp,U4⟩,ag8,m7,z7⟩;refine aB (λhx=>?_) (λhx=>?_);rotate_left
    .have hx:k=l2.length:=by have:=a_ hx;omega
     rw[hx,oT]at Cp;refine⟨_,xl.text,by omega,by simp only[bf];omega,?_⟩;rw[bT];refine aH5 xl (by simp) (by simp[Value.oneCell']) λaH4 ey m12 z12=>⟨⟨rfl,v7,ey,Cp.mod m12 λj hj _ e=>by omega⟩,(s1.mp.trans m7).trans (m12.weaken λj hj=>.inl hj)⟩
    have hx:k<l2.length:=by have:=aT hx;omega
    obtain⟨b,wp,wc,rfl,c0,c1,c2,c3,c4,c5,hsw⟩:=ag8.fields hx;rw[bT];refine⟨by omega,by omega,_,_,_,_,_,_,_,_,c0,c1,c2,c3,c4,c5,wQ rfl ag6 λw9 r9 s9 z9=>?_⟩;have sd:Still w7 w9.drew:=s9.cK;have rd:=r9.still (gV w9);have aJN:dB w9.drew g (c::r) v7 false (30-(L:Int)):=xl.still sd;have mu:=Cp.still sd;have zd:=sd.size;obtain⟨p9,c9,xs9,rfl,ayy,az8⟩:=mu;have mu:iB w9.drew B ((l2.take k).foldl gh l) (.slice p9 ((l2.take k).foldl gh l).length c9):=⟨p9,c9,xs9,rfl,ayy,az8⟩;have hwf:=LF (l2.take k) l;have hwt:=adY hx;refine⟨λwq=>wq=w9.drew,rfl,p9,((l2.take k).foldl gh l).length,c9,λwq hq=>by subst hq;rw[bR];exact aJN.aj rfl,_,_,_,_,_,_,_,_,λwq hq=>by subst hq;exact rd.aj rfl,λwq hq=>by subst hq;exact rd.aj rfl,λwq hq=>by subst hq;exact rd.aj rfl,λwq hq=>by subst hq;exact rd.aj rfl,λwq hq=>by subst hq;exact rd.aj rfl,λwq hq=>by subst hq;exact rd.aj rfl,?_⟩;refine(GB (x:=l2[k]) mu (by omega) ((hsw.still sd).mono λj hj=>⟨by omega,by omega,λe=>by rcases U4 j e with e|e<;>omega⟩) (by omega)).mono ?_;rintro _ aO ⟨v10,rfl,U5,m10,ya⟩;obtain⟨qQ,EW,az9,rfl,axR,ayz⟩:=U5;have U5:iB aO B (gh ((l2.take k).foldl gh l) l2[k]) (.slice qQ (gh ((l2.take k).foldl gh l) l2[k]).length EW):=⟨qQ,EW,az9,rfl,axR,ayz⟩;have az_:dB aO g (c::r) (.slice p9 ((l2.take k).foldl gh l).length c9) false (30-(L:Int)):=aJN.mod m10 λe=>by have:=(mu.mR e).1;omega
    refine .inl ⟨_,_,_,rfl,?_⟩;show cJ ((Addr.mk g 0 none).add 1) _ _ _ _
    rw[bR];refine aH5 az_ (by simp) (by simp[Value.oneCell']) λaX aIk m11 xh=>?_;rw[show i64.wrap ((k:Int)+1)=((k+1:Nat):Int) by rw[wrap_i64 (by omega) (by omega)];omega];have pz:=m10.size;refine⟨⟨k+1,rfl,hx,⟨_,aIk,?_,λj hj=>?_⟩,?_,?_,?_⟩,by dsimp only;omega⟩
    .rw[att hx]
     exact U5.mod m11 λj hj _ e=>by omega
    .rcases ya j hj with e|e
     .exact U4 j e
     ·right;omega
    .refine((ag8.still sd).mod m10 λj hj e=>?_).mod m11 λj hj e=>?_
     .rcases U4 j e with e|e<;>omega
     .omega
    .exact((m7.still sd).trans (m10.weaken λj hj=>.inr (mu.mR hj).1)).trans (m11.weaken λj hj=>.inl hj)
    .omega
  .have h:¬c=92:=λe=>a_ h (dS.2 e)
   have qd:¬c=34:=λe=>a_ qd (dS.2 e);rw[aL h,aL qd];exact put _ w1 rfl (by rw[eH];omega)
def avd{L:Nat}(hL:L<=30):axQ (L+1):=by
 intro w s hs nb;have e1:(31:Int)-((L+1:Nat):Int)=30-(L:Int):=by omega
 rw[e1];refine ans _ _ _ _ ?_;refine aB (λh=>absurd (aT h) (by omega)) (λ_=>aP λw1 r1 s1 z1=>?_);have hp:PS w1 w.heap.size (w.heap.size+1) s [] false (30-(L:Int)):=⟨_,r1,iB.nil _ _⟩;refine(aeW (by omega) (q:=false) (λ_=>avc (by omega)) hp (by omega) (by omega) hs (by simp only[cz];omega) nb).mono ?_;rintro e2 w2 ⟨h2,m2⟩;have s2:Still w w2:=Mod.trans s1 m2 (λ_ h=>h) λk hk e=>by omega
 have hlp:gQ (ic false L) (s.length+1) [] s=fe (L+1) s:=rfl;rw[hlp]at h2;unfold yb;cases hw:fe (L+1) s with
 |bad k=>rw[hw]at h2;obtain⟨rfl,_⟩:=h2;have hk:k≠0:=λe=>BZ (L+1) s (by rw[hw,e]);exact .inl ⟨_,rfl,aB (λ_=>⟨rfl,s2⟩) (λhh=>absurd (nf hh) (by omega))⟩
 |ok l=>rw[hw]at h2;obtain⟨rfl,v,hr2,iX⟩:=h2;obtain⟨p,c,xs,rfl,hown,hcs⟩:=iX;have iX:iB w2 (w.heap.size+1) l (.slice p l.length c):=⟨p,c,xs,rfl,hown,hcs⟩;exact .inl ⟨_,rfl,aB (λhh=>absurd rfl (nt hh)) (λ_=>⟨_,_,_,hr2.aj rfl,⟨_,rfl,iX.sl.mono λk hk=>⟨by omega,hk.2⟩⟩,s2⟩)⟩
def aaY(s:ag)(hs:s.length<1000000)(nb:123∉s):aH3 KI #[.string (S s)] w (yb w s 30):=by
 refine anr _ _ _ ?_;refine(avd (L:=29) (by decide) w s hs nb).mono ?_;rintro e w1 h;unfold yb at h⊢;obtain⟨h,s1⟩:=h;cases hw:fe 30 s with
 |bad k=>rw[hw]at h;exact .inl ⟨_,_,_,_,h,rfl,s1⟩
 |ok l=>rw[hw]at h;obtain⟨v,rfl,gT⟩:=h;obtain⟨p,c,rfl⟩:=gT.form;exact .inl ⟨_,_,_,_,rfl,⟨_,rfl,gT⟩,s1⟩
def dy.tr{g:Nat}{a b c:World}(h:dy g a b)(k:dy g b c):dy g a c:=Mod.trans h k (λ_ h=>h) (λ_ _ h=>h)
def SyW(w:World)(g:Nat)(r:Rs (List Pt×Ts))(e:Ending)(w':World):Prop:=dy g w w'/\match r with
 |.ok x=>∃v,e=.returned v/\cv w' (λk=>w.heap.size<=k/\k<w'.heap.size) x.1 v/\Pz w' g x.2
 |.bad k=>e=.panicked (qE k)
def aaZ{g:Nat}{s:Ts}(h:Pz w g s)(hb:TB s):aH3 aLi #[.pointer (some ⟨g,0,none⟩)] w (SyW w g (oZ s)):=by
 refine akB _ _ _ ?_;refine(aKZ h 0).mono ?_;rintro _ w1 ⟨rfl,s1⟩;refine .inl ⟨_,_,rfl,afN (λhk=>?_) (λhk=>⟨s1.only,?_⟩)⟩
 .have hk:=aT hk
  obtain⟨k,t,r,rfl⟩:∃k t r,s=(k,t)::r:=by
   cases s with
   |nil=>exact absurd hk (by decide)
   |cons x r=>exact⟨x.1,x.2,r,rfl⟩
  have hk:(k:Int)=0:=hk;obtain rfl:k=0:=by omega
  refine(Lg (h.still s1)).mono ?_;rintro _ w2 ⟨rfl,o2,h2⟩;have CN:dy g w w2:=s1.only.tr o2;have hz:=s1.size;have jU:=o2.size;refine .inl ⟨_,_,rfl,(aaY t hb.head.1 hb.afA).mono ?_⟩;rintro e3 w3 ⟨hp,s3⟩;have hpf:oZ ((0,t)::r)=(fe 30 t).and λl=>.ok (l,r):=rfl;cases hw:fe 30 t with
  |bad j=>rw[hw]at hp;have hj:j≠0:=λe=>BZ 30 t (by rw[hw,e]);refine .inl ⟨_,_,_,_,hp,(K6 j).mono ?_⟩;rintro _ w4 ⟨rfl,rfl⟩;rw[aL hj];refine .inr ⟨_,rfl,CN.tr s3.only,?_⟩;rw[hpf,hw];rfl
  |ok l=>rw[hw]at hp;obtain⟨v,rfl,gT⟩:=hp;obtain⟨p,c,rfl⟩:=gT.form;have hf:=K6 (w:=w3) 0;rw[aR rfl]at hf;refine .inl ⟨_,_,_,_,rfl,hf.mono ?_⟩;rintro _ w4 ⟨rfl,rfl⟩;refine .inl ⟨rfl,CN.tr s3.only,?_⟩;rw[hpf,hw];exact⟨_,rfl,gT.mono λk hk=>⟨by omega,hk.2⟩,h2.still s3⟩
 .have hk:=a_ hk
  have:oZ s=.bad 100:=by
   cases s with
   |nil=>rfl
   |cons x r=>simp only[oZ];rw[aL];intro e;exact hk (by simp[e])
  rw[this]
def SyR(w:World)(g:Nat)(r:Rs ((ag×List Pt)×Ts))(e:Ending)(w':World):Prop:=dy g w w'/\match r with
 |.ok x=>∃v,e=.returned (.agg #[.string (S x.1.1),v])/\cv w' (λk=>w.heap.size<=k/\k<w'.heap.size) x.1.2 v/\Pz w' g x.2
 |.bad k=>e=.panicked (qE k)
def arx{g:Nat}{s:Ts}(h:Pz w g s)(hb:TB s)(hs:s≠[]):aH3 Fm #[.pointer (some ⟨g,0,none⟩)] w (SyR w g (uz s)):=by
 refine akx _ _ _ ?_;obtain⟨x,r,rfl⟩:=aKs hs;have hg:=h.lt;refine aP λw1 r1 s1 z1=>(Lg (h.still s1)).mono ?_;rintro _ w2 ⟨rfl,o2,h2⟩;have jU:=o2.size;refine .inl ⟨_,_,rfl,(aaZ h2 hb.tail).mono ?_⟩;rintro e3 w3 ⟨o3,hp⟩;have vl:=o3.size;have hrf:uz (x::r)=(oZ r).and λy=>.ok ((x.2,y.1),y.2):=rfl;have CT:dy g w w3:=(s1.only.tr o2).tr o3;cases hw:oZ r with
 |bad j=>rw[hw]at hp;refine .inr ⟨_,hp,CT,?_⟩;rw[hrf,hw];rfl
 |ok y=>rw[hw]at hp;obtain⟨v,rfl,gT,h3⟩:=hp;obtain⟨p,c,rfl⟩:=gT.form;refine .inl ⟨_,_,_,rfl,?_⟩;have r3:=(r1.mod o2 (by omega)).mod o3 (by omega);refine aH5 r3 (by simp) (by simp[Value.oneCell']) λw4 r4 m4 z4=>⟨_,_,_,_,r4.aj rfl,r4.aj rfl,Mod.trans CT m4 (λ_ h=>h) (λi hi e=>by omega),?_⟩;rw[hrf,hw];exact⟨_,rfl,(gT.mod m4 λk hk e=>by omega).mono λk hk=>⟨by omega,by omega⟩,h3.mod m4 λk hk e=>by omega⟩
def ary(s:ag):aH3 JV #[.string (S s),.string (S [61])] w (λe w'=>e=.returned (.tuple #[.string (S (if s.head?=some 61 then s.drop 1 else s)),.bool (decide (s.head?=some 61))])/\w'=w):=by
 refine ak8 _ _ _ _ ?_;have ep:pf [61] s=decide (s.head?=some 61):=by
  rw[KK];cases s with
  |nil=>rfl
  |cons c r=>rw[r_];simp[List.isPrefixOf];exact eq_comm
 have h:aH3 Oz #[.string (S s),.string (S [61])] w (λe w'=>e=.returned (.tuple #[.string (S (if s.head?=some 61 then s.drop 1 else s)),.bool (decide (s.head?=some 61))])/\w'=w):=by
  refine ajC _ _ _ _ ?_;refine(Tryz.stringslite_HasPrefix (S s) (S [61]) _).mono ?_;rintro _ w1 ⟨rfl,rfl⟩;have e2:Lib.hasPrefix (S s).data.toList (S [61]).data.toList=pf [61] s:=(KK _ _).symm;rw[e2,ep];refine .inl ⟨_,rfl,aB (λh=>?_) (λh=>?_)⟩
  .have h:¬s.head?=some 61:=by simpa using h
   rw[aL h,aIl h];exact⟨rfl,rfl⟩
  .have h:s.head?=some 61:=by simpa using h
   rw[aR h,fV h];have hl:1<=s.length:=by
    cases s with
    |nil=>cases h
    |cons c r=>simp
   exact⟨by decide,by simp only[bf,cm];omega,rfl,rfl⟩
 refine h.mono ?_;rintro _ w1 ⟨rfl,rfl⟩;exact .inl ⟨_,_,rfl,rfl,rfl⟩
def u_(s:Ts):Option (Rs ((ag×List Pt)×Ts)):=match s with
 |(_,t)::r=>(wS t).map λy=>(fe 30 y.2).and λl=>.ok ((y.1,l),r)
 |[]=>none
def SyA(w:World)(g:Nat)(s:Ts)(e:Ending)(w':World):Prop:=dy g w w'/\match u_ s with
 |none=>∃t p n c,e=.returned (.tuple #[.agg #[.string (S t),.slice p n c],.bool false])/\Pz w' g s
 |some (.ok x)=>∃p c,e=.returned (.tuple #[.agg #[.string (S x.1.1),.slice p x.1.2.length c],.bool true])/\cv w' (λk=>w.heap.size<=k/\k<w'.heap.size) x.1.2 (.slice p x.1.2.length c)/\Pz w' g x.2
 |some (.bad k)=>e=.panicked (qE k)
def anV{g:Nat}{k:Nat}{t:ag}{r:Ts}(h:Pz w g ((k,t)::r))(hb:TB ((k,t)::r)):aH3 OH #[.pointer (some ⟨g,0,none⟩)] w (SyA w g ((k,t)::r)):=by
 refine ajO _ _ _ ?_;have hg:=h.lt;have hnl:=aKh t;refine aP λw1 r1 s1 z1=>(aKZ (h.still s1) 0).mono ?_;rintro _ w2 ⟨rfl,s2⟩;refine .inl ⟨_,_,rfl,(RZ t hb.head.1).mono ?_⟩;rintro _ w3 ⟨rfl,s3⟩;have gy:=(s1.trans s2).trans s3;have aGR:=gy.size;have aGS:=s2.size;have aGT:=s3.size;refine .inl ⟨_,rfl,aH5 ((r1.still s2).still s3) (by simp) (by simp[Value.oneCell']) λw4 r4 m4 z4=>?_⟩;have htl:(t.take (bY t)).length=bY t:=by rw[eH];omega
 have s4:Still w w4:=gy.box (aW _) m4;have h4:Pz w4 g ((k,t)::r):=h.still s4;refine⟨_,r4.aj rfl,by omega,by simp only[J6,OO];omega,?_⟩;rw[bT,htl];refine(ary (t.drop (bY t))).mono ?_;rintro _ w5 ⟨rfl,rfl⟩;have hhd:(t.drop (bY t)).head?=t[bY t]?:=by rw[List.head?_drop]
 -- none
 have none:wS t=none->∀(t1:ag) (w6:World),Row w6 w.heap.size 208 ⟨[.string (S t1),.slice none 0 0]⟩->Still w w6->SyA w g ((k,t)::r) (.returned (.tuple #[.agg #[.string (S t1),.slice none 0 0],.bool false])) w6:=by
  intro hno t1 w6 r6 s6;refine⟨s6.only,?_⟩;have:u_ ((k,t)::r)=.none:=by simp only[u_,hno,P6]
  rw[this];exact⟨_,_,_,_,rfl,h.still s6⟩
 refine .inl ⟨_,_,rfl,aB (λhx=>?_) (λhx=>?_)⟩
 .have hx:¬(t.drop (bY t)).head?=some 61:=nt hx
  refine⟨_,_,_,_,r4.aj rfl,r4.aj rfl,aH5 r4 (by simp[fR]) (by simp[Value.oneCell']) λw6 r6 m6 z6=>⟨_,_,_,_,r6.aj rfl,r6.aj rfl,?_⟩⟩;refine none ?_ _ w6 r6 (s4.box (aW _) m6);unfold wS;rw[aL];rintro⟨_,e⟩;exact hx (by rw[hhd];exact e)
 have hx:(t.drop (bY t)).head?=some 61:=nf hx;refine⟨_,r4.aj rfl,aB (λhn=>?_) (λhn=>?_)⟩
 .have hn:t.take (bY t)=[]:=aT hn
  rw[hn,cm]at htl;refine⟨_,_,_,_,r4.aj rfl,r4.aj rfl,aH5 r4 (by simp[fR]) (by simp[Value.oneCell']) λw6 r6 m6 z6=>⟨_,_,_,_,r6.aj rfl,r6.aj rfl,?_⟩⟩;refine none ?_ _ w6 r6 (s4.box (aW _) m6);unfold wS;rw[aL];rintro⟨e,_⟩;omega
 have hn:t.take (bY t)≠[]:=a_ hn;have hn0:0<bY t:=by
  rcases pK (bY t)with e|e
  .rw[e]at hn
   exact absurd rfl hn
  .exact e
 have aAa:wS t=some (t.take (bY t),t.drop (bY t+1)):=by unfold wS;rw[aR ⟨hn0,by rw[<-hhd];exact hx⟩]
 have hres:u_ ((k,t)::r)=some ((fe 30 (t.drop (bY t+1))).and λl=>.ok ((t.take (bY t),l),r)):=by simp only[u_,aAa,FE]
 have e5:(if(t.drop (bY t)).head?=some 61 then(t.drop (bY t)).drop 1 else t.drop (bY t))=t.drop (bY t+1):=by rw[aR hx,Dh]
 rw[e5];have htb:=hb.head.1;refine(aaY (t.drop (bY t+1)) (by rw[jx];omega) λe=>hb.afA (List.mem_of_mem_drop e)).mono ?_;rintro e6 w6 ⟨hp,s6⟩;have IZ:=s6.size;have CK:=s4.size;have jW:=s4.trans s6;cases hw:fe 30 (t.drop (bY t+1))with
 |bad j=>rw[hw]at hp;have hj:j≠0:=λe=>BZ 30 _ (by rw[hw,e]);refine .inl ⟨_,_,_,_,hp,(K6 j).mono ?_⟩;rintro _ w7 ⟨rfl,rfl⟩;rw[aL hj];refine .inr ⟨_,rfl,jW.only,?_⟩;rw[hres,hw];rfl
 |ok l=>rw[hw]at hp;obtain⟨v,rfl,gT⟩:=hp;obtain⟨p,c,rfl⟩:=gT.form;have hf:=K6 (w:=w6) 0;rw[aR rfl]at hf;refine .inl ⟨_,_,_,_,rfl,hf.mono ?_⟩;rintro _ w7 ⟨rfl,rfl⟩;refine .inl ⟨rfl,aH5 (r4.still s6) (by simp[fR]) (by simp[Value.oneCell']) λw8 r8 m8 z8=>?_⟩;have s8:Still w w8:=jW.box (aW _) m8;refine(Lg (h.still s8)).mono ?_;rintro _ w9 ⟨rfl,o9,h9⟩;have CC:=o9.size;have r9:=r8.mod o9 (by omega);refine .inl ⟨_,_,rfl,_,_,_,_,r9.aj rfl,r9.aj rfl,aH5 r9 (by simp[fR]) (by simp[Value.oneCell']) λaO aIe m10 pz=>⟨_,_,_,_,aIe.aj rfl,aIe.aj rfl,Mod.trans (s8.only.tr o9) m10 (λ_ h=>h) (λi hi e=>by omega),?_⟩⟩;rw[hres,hw];exact⟨p,c,rfl,(((gT.mod m8 λk hk e=>by omega).mod o9 λk hk e=>by omega).mod m10 λk hk e=>by omega).mono λk hk=>⟨by omega,by omega⟩,h9.mod m10 λk hk e=>by omega⟩
def CU(w:World)(g:Nat)(r:Rs (Nd×Ts))(e:Ending)(w':World):Prop:=dy g w w'/\match r with
 |.ok x=>∃cs,e=.returned (.agg ⟨cs⟩)/\eM w' (λk=>w.heap.size<=k/\k<w'.heap.size) x.1 cs/\Pz w' g x.2
 |.bad k=>e=.panicked (qE k)
def aAb(f:FuncId)(args:Array Value)(gn:Nat)(w1:World)(K:World->Prop)(R:Ending->World->Prop):Prop:=
 ∃Sw:World->Prop,Sw w1.drew/\∃(v:Option Addr) (vL vC:Nat),(∀wq:World,Sw wq->wq.cell? (Addr.mk gn 7 none)=some (.slice v vL vC))/\aH3 f args w1.drew (λed w5=>(∃aIb:Int,∃nR:Bool,∃rName:List UInt8,∃(nG:Option Addr) (aIO nD:Nat),∃(ny:Option Addr) (nu nv:Nat),∃(nE:Option Addr) (nA nB:Nat),∃(nS:Option Addr) (nK nL:Nat),∃(nM:Option Addr) (nH nI:Nat),ed=.returned (.agg #[(.int .i64 aIb),(.bool nR),(.string (S rName)),(.slice nG aIO nD),(.slice ny nu nv),(.slice nE nA nB),(.slice nS nK nL),(.slice nM nH nI)])/\Sw w5/\cS (w5.alloc (.cells #[(.int .i64 aIb),(.bool nR),(.string (S rName)),(.slice nG aIO nD),(.slice ny nu nv),(.slice nE nA nB),(.slice nS nK nL),(.slice nM nH nI)] 66)) (λ(w6:World)=>Sw w6/\dA w6 66 8 152 v vL vC (some (Addr.mk w5.heap.size 0 none)) 1 (λ(p1:Option Addr) (cp:Nat) (w7:World)=>cJ (Addr.mk gn 7 none) K 0 [(.slice p1 (vL+1) cp)] w7)))\/(∃ch,ed=.panicked ch/\R (.panicked ch) w5))
def R8{w0 w1:World}{g gn B:Nat}{X:Nat->Prop}{x:Nd}{vw va vr vo vk:Value}(nb:NB w0 w1 g gn B X x vw va vr vo vk){f:FuncId}{args:Array Value}{r:Rs (Nd×Ts)}(Hx:aH3 f args w1.drew (CU w1.drew g r))(hn:x.ks.length<1000000){K:World->Prop}{R:Ending->World->Prop}
  (Im:∀k w',r=.bad k->dy g w0 w'->R (.panicked (qE k)) w')(hok:∀y vk' w' X',r=.ok y->NB w0 w' g gn B X' (x.M4 y.1) vw va vr vo vk'->Pz w' g y.2->Mod (λk=>k=g\/B<=k) w1 w'->K w'):aAb f args gn w1 K R:=by
 obtain⟨p,c,rfl⟩:=nb.ok.form;have vF:=nb.still (gV w1);refine⟨λwq=>wq.cell? (Addr.mk gn 7 none)=some (.slice p x.ks.length c),vF.row.aj rfl,p,x.ks.length,c,λ_ h=>h,?_⟩;refine(Hx).mono ?_;rintro e5 w5 ⟨o5,hp⟩;have qT:=vF.on o5;cases hr:r with
 |bad k=>rw[hr]at hp;exact .inr ⟨_,hp,Im k w5 hr qT.only⟩
 |ok y=>rw[hr]at hp;obtain⟨cs,rfl,hnd,h5⟩:=hp;obtain⟨pw,cw,pa,ca,pr,cr,po,co,pk,ck,rfl,_⟩:=hnd.outs;refine .inl ⟨_,_,_,_,_,_,_,_,_,_,_,_,_,_,_,_,_,_,rfl,qT.row.aj rfl,NB.M4 (x:=x) (y:=y.1) vF o5 hnd hn λp' c' w' X' A9 hm=>?_⟩;have hB:=nb.hB;have hg:=nb.hg;exact hok y _ w' X' hr A9 (h5.mod hm λk hk hb=>by omega) (Mod.trans (Mod.trans ((gV w1).weaken λ_ h=>h.elim) o5 (λ_ h=>h) (λ_ _ h=>.inl h)) hm (λ_ h=>h) (λ_ _ h=>.inr h))
def ayA(g gn:Nat)(w1:World)(K:World->Prop)(R:Ending->World->Prop):Prop:=
 ∃Sw:World->Prop,Sw w1.drew/\∃(v:Option Addr) (vL vC:Nat),(∀wq:World,Sw wq->wq.cell? (Addr.mk gn 3 none)=some (.slice v vL vC))/\aH3 aLi #[.pointer (some ⟨g,0,none⟩)] w1.drew (λed w5=>(∃(r:Option Addr) (rL rC:Nat),ed=.returned (.slice r rL rC)/\Sw w5/\cS (w5.alloc (.cells #[(.slice r rL rC)] 49)) (λ(w6:World)=>Sw w6/\dA w6 49 1 24 v vL vC (some (Addr.mk w5.heap.size 0 none)) 1 (λ(p1:Option Addr) (cp:Nat) (w7:World)=>cJ (Addr.mk gn 3 none) K 0 [(.slice p1 (vL+1) cp)] w7)))\/(∃ch,ed=.panicked ch/\R (.panicked ch) w5))
def arz{w0 w1:World}{g gn B:Nat}{X:Nat->Prop}{x:Nd}{vw va vr vo vk:Value}(nb:NB w0 w1 g gn B X x vw va vr vo vk){s:Ts}(hz:Pz w1 g s)(hb:TB s)(hn:x.ws.length<1000000){K:World->Prop}{R:Ending->World->Prop}
  (Im:∀k w',oZ s=.bad k->dy g w0 w'->R (.panicked (qE k)) w')(hok:∀y vw' w' X',oZ s=.ok y->NB w0 w' g gn B X' (x.M1 y.1) vw' va vr vo vk->Pz w' g y.2->Mod (λk=>k=g\/B<=k) w1 w'->K w'):ayA g gn w1 K R:=by
 obtain⟨p,c,rfl⟩:=nb.ow.form;have vF:=nb.still (gV w1);refine⟨λwq=>wq.cell? (Addr.mk gn 3 none)=some (.slice p x.ws.length c),vF.row.aj rfl,p,x.ws.length,c,λ_ h=>h,?_⟩;refine(aaZ (hz.still (gV w1)) hb).mono ?_;rintro e5 w5 ⟨o5,hp⟩;have qT:=vF.on o5;cases hr:oZ s with
 |bad k=>rw[hr]at hp;exact .inr ⟨_,hp,Im k w5 hr qT.only⟩
 |ok y=>rw[hr]at hp;obtain⟨v,rfl,gT,h5⟩:=hp;obtain⟨q,d,rfl⟩:=gT.form;refine .inl ⟨_,_,_,rfl,qT.row.aj rfl,NB.M1 (x:=x) (y:=y.1) vF o5 ⟨_,rfl,gT⟩ hn λp' c' w' X' A9 hm=>?_⟩;have hB:=nb.hB;have hg:=nb.hg;exact hok y _ w' X' hr A9 (h5.mod hm λk hk hb=>by omega) (Mod.trans (Mod.trans ((gV w1).weaken λ_ h=>h.elim) o5 (λ_ h=>h) (λ_ _ h=>.inl h)) hm (λ_ h=>h) (λ_ _ h=>.inr h))
def aAc(g gn:Nat)(w1:World)(K:World->Prop)(R:Ending->World->Prop):Prop:=
 ∃Sw:World->Prop,Sw w1.drew/\∃(v:Option Addr) (vL vC:Nat),(∀wq:World,Sw wq->wq.cell? (Addr.mk gn 5 none)=some (.slice v vL vC))/\aH3 Fm #[.pointer (some ⟨g,0,none⟩)] w1.drew (λed w5=>(∃yM:List UInt8,∃(xY:Option Addr) (xR xS:Nat),ed=.returned (.agg #[(.string (S yM)),(.slice xY xR xS)])/\Sw w5/\cS (w5.alloc (.cells #[(.string (S yM)),(.slice xY xR xS)] 138)) (λ(w6:World)=>Sw w6/\dA w6 138 2 40 v vL vC (some (Addr.mk w5.heap.size 0 none)) 1 (λ(p1:Option Addr) (cp:Nat) (w7:World)=>cJ (Addr.mk gn 5 none) K 0 [(.slice p1 (vL+1) cp)] w7)))\/(∃ch,ed=.panicked ch/\R (.panicked ch) w5))
def atu{w0 w1:World}{g gn B:Nat}{X:Nat->Prop}{x:Nd}{vw va vr vo vk:Value}(nb:NB w0 w1 g gn B X x vw va vr vo vk){s:Ts}(hz:Pz w1 g s)(hb:TB s)(hs:s≠[])(hn:x.rs.length<1000000){K:World->Prop}{R:Ending->World->Prop}
  (Im:∀k w',uz s=.bad k->dy g w0 w'->R (.panicked (qE k)) w')(hok:∀y vr' w' X',uz s=.ok y->NB w0 w' g gn B X' (x.yo y.1) vw va vr' vo vk->Pz w' g y.2->Mod (λk=>k=g\/B<=k) w1 w'->K w'):aAc g gn w1 K R:=by
 obtain⟨p,c,rfl⟩:=nb.ord.form;have vF:=nb.still (gV w1);refine⟨λwq=>wq.cell? (Addr.mk gn 5 none)=some (.slice p x.rs.length c),vF.row.aj rfl,p,x.rs.length,c,λ_ h=>h,?_⟩;refine(arx (hz.still (gV w1)) hb hs).mono ?_;rintro e5 w5 ⟨o5,hp⟩;have qT:=vF.on o5;cases hr:uz s with
 |bad k=>rw[hr]at hp;exact .inr ⟨_,hp,Im k w5 hr qT.only⟩
 |ok y=>rw[hr]at hp;obtain⟨v,rfl,gT,h5⟩:=hp;obtain⟨q,d,rfl⟩:=gT.form;refine .inl ⟨_,_,_,_,rfl,qT.row.aj rfl,NB.yo (x:=x) (y:=y.1) vF o5 ⟨_,rfl,gT⟩ hn λp' c' w' X' A9 hm=>?_⟩;have hB:=nb.hB;have hg:=nb.hg;exact hok y _ w' X' hr A9 (h5.mod hm λk hk hb=>by omega) (Mod.trans (Mod.trans ((gV w1).weaken λ_ h=>h.elim) o5 (λ_ h=>h) (λ_ _ h=>.inl h)) hm (λ_ h=>h) (λ_ _ h=>.inr h))
def axS(a:Addr)(gr:Nat)(w:World)(R:Ending->World->Prop):Prop:=
 ∃cF:Int,∃fO:Bool,∃cI:List UInt8,∃(fH:Option Addr) (fE fF:Nat),∃(fB:Option Addr) (fy fA:Nat),∃(fG:Option Addr) (aIn aIo:Nat),∃(fP:Option Addr) (fK aIp:Nat),∃(fM:Option Addr) (fI fJ:Nat),w.cell? a=some (.int .i64 cF)/\w.cell? (a.add 1)=some (.bool fO)/\w.cell? (a.add 2)=some (.string (S cI))/\w.cell? (a.add 3)=some (.slice fH fE fF)/\w.cell? (a.add 4)=some (.slice fB fy fA)/\w.cell? (a.add 5)=some (.slice fG aIn aIo)/\w.cell? (a.add 6)=some (.slice fP fK aIp)/\w.cell? (a.add 7)=some (.slice fM fI fJ)/\cJ (Addr.mk gr 0 none) (λ(w7:World)=>∃aIi:Int,∃kE:Bool,∃eP:List UInt8,∃(kj:Option Addr) (kf kg:Nat),∃(j9:Option Addr) (j7 j8:Nat),∃(ki:Option Addr) (j_ ke:Nat),∃(kF:Option Addr) (kz kA:Nat),∃(kB:Option Addr) (ko kr:Nat),w7.cell? (Addr.mk gr 0 none)=some (.int .i64 aIi)/\w7.cell? (Addr.mk gr 1 none)=some (.bool kE)/\w7.cell? (Addr.mk gr 2 none)=some (.string (S eP))/\w7.cell? (Addr.mk gr 3 none)=some (.slice kj kf kg)/\w7.cell? (Addr.mk gr 4 none)=some (.slice j9 j7 j8)/\w7.cell? (Addr.mk gr 5 none)=some (.slice ki j_ ke)/\w7.cell? (Addr.mk gr 6 none)=some (.slice kF kz kA)/\w7.cell? (Addr.mk gr 7 none)=some (.slice kB ko kr)/\R (.returned (.agg #[(.int .i64 aIi),(.bool kE),(.string (S eP)),(.slice kj kf kg),(.slice j9 j7 j8),(.slice ki j_ ke),(.slice kF kz kA),(.slice kB ko kr)])) w7) 0 [(.int .i64 cF),(.bool fO),(.string (S cI)),(.slice fH fE fF),(.slice fB fy fA),(.slice fG aIn aIo),(.slice fP fK aIp),(.slice fM fI fJ)] w
def Z2{w0:World}{g B:Nat}{a:Addr}{x:Nd}{cs:List Value}{R:Ending->World->Prop}(hc:pO w a cs)(hn:eM w (λk=>B<=k/\k<w.heap.size) x cs)(ho:dy g w0 w)(hres:Row w w0.heap.size 66 ⟨pY⟩)(hB:w0.heap.size<B)
  (hR:∀w' cs,Mod (λk=>k=w0.heap.size) w w'->dy g w0 w'->eM w' (λk=>w0.heap.size<=k/\k<w'.heap.size) x cs->R (.returned (.agg ⟨cs⟩)) w'):axS a w0.heap.size w R:=by
 obtain⟨pw,cw,pa,ca,pr,cr,po,co,pk,ck,rfl,_⟩:=hn.outs;refine⟨_,_,_,_,_,_,_,_,_,_,_,_,_,_,_,_,_,_,hc.zero,hc 1 _ rfl,hc 2 _ rfl,hc 3 _ rfl,hc 4 _ rfl,hc 5 _ rfl,hc 6 _ rfl,hc 7 _ rfl,aH5 hres (by simp) (by simp[Value.oneCell']) λw' r' m' z'=>?_⟩;refine⟨_,_,_,_,_,_,_,_,_,_,_,_,_,_,_,_,_,_,r'.aj rfl,r'.aj rfl,r'.aj rfl,r'.aj rfl,r'.aj rfl,r'.aj rfl,r'.aj rfl,r'.aj rfl,hR w' _ m' (Mod.trans ho m' (λ_ h=>h) (λi hi e=>by omega)) ?_⟩;exact(hn.mod m' λk hk e=>by omega).mono λk hk=>⟨by omega,by omega⟩
def M5(L:Nat):Prop:=∀(w:World) (g:Nat) (s:Ts),Pz w g s->TB s->aH3 JG #[.pointer (some ⟨g,0,none⟩),.int .i64 (31-(L:Int))] w (CU w g ((kK L).1 s))
def atv{neg:Bool}{ks:List Nd}(h:¬(ks.length=1/\neg=false)):B8 neg ks=.mk 1 neg [] [] [] [] [] ks:=by
 match ks with
 |[]=>rfl
 |[k]=>
  cases neg with
  |true=>rfl
  |false=>exact absurd ⟨rfl,rfl⟩ h
 |a::b::r=>rfl
def aww{L:Nat}(hc:M5 L){g:Nat}{s:Ts}(h:Pz w g s)(hb:TB s):aH3 JT #[.pointer (some ⟨g,0,none⟩),.int .i64 (31-(L:Int))] w (CU w g (D6 (kK L).1 s)):=by
 refine akQ _ _ _ _ ?_;have hg:=h.lt;have he:=(acB L).1;have Je:=(Td L).1;refine aP λw1 r1 s1 z1=>(wh (h.still s1) 0 (t:=uS) (by decide)).mono ?_;rintro _ w2 ⟨rfl,o2,h2⟩;have jU:=o2.size;refine .inl ⟨_,rfl,aP λw3 r3 s3 z3=>aH5 r3 (by simp) (by simp[Value.oneCell']) λw4 r4 m4 z4=>?_⟩;have r4:Row w4 w2.heap.size 66 ⟨l_ (.mk 1 (gS 0 uS s) [] [] [] [] [] []) (.slice none 0 0) (.slice none 0 0) (.slice none 0 0) (.slice none 0 0) (.slice none 0 0)⟩:=r4;have M6:Row w4 w.heap.size 66 ⟨pY⟩:=((r1.mod o2 (by omega)).still s3).mod m4 (by omega);have o4:dy g w w4:=Mod.trans ((s1.only.tr o2).tr s3.only) m4 (λ_ h=>h) (λi hi e=>by omega);have h4:=(h2.still s3).mod m4 (by intro k hk e;omega);have hb4:TB (if gS 0 uS s=true then s.tail else s):=hb.yQ (adP _ s);have WI:=NB.WG (B:=w.heap.size+1) r4 o4 hg (by omega) (by omega) ⟨rfl,rfl,rfl,rfl,rfl⟩;have hpf:D6 (kK L).1 s=((kK L).1 (if gS 0 uS s=true then s.tail else s)).and λx=>aJG (aJH (kK L).1 (gS 0 uS s)) [x.1] x.2:=rfl;rw[hpf];clear hpf;generalize(if gS 0 uS s=true then s.tail else s)=s0 at*;generalize gS 0 uS s=neg at*;have hs0:=hb4.1;refine R8 WI (hc _ _ _ (h4.still (gV _)) hb4) (show 0<1000000 by decide) (λk w' hr o=>⟨o,?_⟩) (λy vk5 w5 X5 hr qT h5 m5=>?_)
 .rw[hr]
  rfl
 rw[hr];have Io:=M6.mod m5 (by intro e;omega);have hy1:=he _ _ hr;have hy2:=Je _ _ hr;refine⟨λw9=>∃s9 ks vk X,NB w w9 g w2.heap.size (w.heap.size+1) X (.mk 1 neg [] [] [] [] [] ks) (.slice none 0 0) (.slice none 0 0) (.slice none 0 0) (.slice none 0 0) vk/\Row w9 w.heap.size 66 ⟨pY⟩/\Pz w9 g s9/\s9<:+s0/\ks.length+s9.length<=s0.length/\aJG (aJH (kK L).1 neg) ks s9=aJG (aJH (kK L).1 neg) [y.1] y.2,Ed g,⟨y.2,[y.1],vk5,X5,qT,Io,h5,hy2,by simp only[bf,cm];omega,rfl⟩,?_⟩;rintro _ w9 ⟨s9,ks,vk,X,N1,ag9,h9,yD,hlen,heq⟩;simp only[Rs.and];rw[<-heq,K1 (ZQ he _)];clear heq;refine(wh h9 1 (t:=afs) (by decide)).mono ?_;rintro _ aO ⟨rfl,aJL,h10⟩;refine .inl ⟨_,rfl,aB (λhx=>?_) (λhx=>?_)⟩
 .rw[hx,aR rfl]at h10
  have hps:aJH (kK L).1 neg ks s9=((kK L).1 (jM s9.tail)).and λx=>.ok (.inl (ks++[x.1],x.2)):=by unfold aJH;rw[aR hx]
  rw[hps];have htl:=Ta hx;have EM:=aKV s9.tail;have ag_:jM s9.tail<:+s0:=(Dw _).trans ((Lr _).trans yD);refine(tF h10).mono ?_;rintro _ aX ⟨rfl,rX,h11⟩;have M7:=(N1.on aJL).on rX;have Mv:=(ag9.mod aJL (by omega)).mod rX (by omega);refine .inl ⟨rfl,R8 M7 (hc _ _ _ (h11.still (gV _)) (hb4.yQ ag_)) (show ks.length<1000000 by omega) (λk w' hr o=>⟨o,?_⟩) (λz aAd aH4 X12 hr aAe h12 m12=>?_)⟩
  .rw[hr]
   rfl
  have hz1:=he _ _ hr;rw[hr];refine⟨⟨z.2,ks++[z.1],aAd,X12,aAe,Mv.mod m12 (by intro e;omega),h12,(Je _ _ hr).trans ag_,by simp only[aIa,bf,cm];omega,?_⟩,by rw[h12.len,h9.len];omega⟩;rfl
 .rw[hx,aL (by decide)]at h10
  have hps:aJH (kK L).1 neg ks s9=.ok (.inr (B8 neg ks,s9)):=by unfold aJH;rw[aL (by rw[hx];decide)]
  rw[hps];have yE:=N1.on aJL;have Mw:=ag9.mod aJL (by omega);obtain⟨p,c,rfl⟩:=yE.ok.form;refine⟨λcB=>cB=aO/\¬(ks.length=1/\neg=false),⟨λb bW=>bW=aO/\(b=true↔ks.length=1/\neg=false),⟨p,ks.length,c,yE.row.aj rfl,aB (λe=>⟨neg,yE.row.aj rfl,rfl,?_⟩) (λe=>⟨rfl,λh=>(by cases h),λh=>absurd h.1 (by have:=a_ e;omega)⟩)⟩,?_⟩,?_⟩
  .have:=aT e
   cases neg with
   |true=>exact⟨λh=>(by cases h),λh=>(by cases h.2)⟩
   |false=>exact⟨λ_=>⟨by omega,rfl⟩,λ_=>rfl⟩
  .rintro b _ bW ⟨rfl,hb⟩
   refine aB (λsZ=>?_) (λA5=>⟨rfl,λh=>by rw[hb.2 h]at A5;cases A5⟩);obtain⟨e1,e2⟩:=hb.1 sZ;obtain⟨k,rfl⟩:∃k,ks=[k]:=by
    match ks,e1 with
    |[k],_=>exact⟨k,rfl⟩
   obtain⟨q,cs,rfl,_,hnd,hcs⟩:=yE.ok.at.get (i:=0) rfl;refine⟨some q,_,c,yE.row.aj rfl,by decide,show(0:Int)<((1:Nat):Int) by decide,Z2 hcs hnd yE.only Mw (nr _) λw' cs' m' o' hn'=>⟨o',?_⟩⟩;have:B8 neg [k]=k:=by rw[e2];rfl
   rw[this];exact⟨_,rfl,hn',h10.mod m' λj hj e=>by omega⟩
  .rintro _ cB ⟨rfl,hno⟩
   refine RL yE Mw (nr _) λw' cs' m' o' hn'=>⟨o',?_⟩;rw[atv hno];exact⟨_,rfl,hn',h10.mod m' λj hj e=>by omega⟩
def ave{L:Nat}(hc:M5 L){g:Nat}{s:Ts}(h:Pz w g s)(hb:TB s):aH3 O_ #[.pointer (some ⟨g,0,none⟩),.int .i64 (31-(L:Int))] w (CU w g (Eo (kK L).1 s)):=by
 refine akn _ _ _ _ ?_;have hg:=h.lt;have hsp:=abH (Td L).1;show zM _ _ _ _
 unfold Eo;refine aP λw1 r1 s1 z1=>(aww hc (h.still s1) hb).mono ?_;rintro e2 w2 ⟨o2,hp⟩;have jU:=o2.size;cases hr:D6 (kK L).1 s with
 |bad k=>rw[hr]at hp;exact .inr ⟨_,hp,s1.only.tr o2,rfl⟩
 |ok y=>
 rw[hr]at hp;obtain⟨cs,rfl,hnd,h2⟩:=hp;have hy2:=hsp _ _ hr;obtain⟨pw,cw,pa,ca,pr,cr,po,co,pk,ck,rfl,_⟩:=hnd.outs;refine .inl ⟨_,_,_,_,_,_,_,_,_,_,_,_,_,_,_,_,_,_,rfl,aP λw3 r3 s3 z3=>aP λw4 r4 s4 z4=>aH5 r4 (by simp) (by simp[Value.oneCell']) λw5 r5 m5 z5=>?_⟩;have r5:Row w5 w3.heap.size 66 ⟨l_ (.mk 2 false [] [] [] [] [] [y.1]) (.slice none 0 0) (.slice none 0 0) (.slice none 0 0) (.slice none 0 0) (.slice (some ⟨w2.heap.size,0,none⟩) 1 1)⟩:=r5;have Io:Row w5 w.heap.size 66 ⟨pY⟩:=(((r1.mod o2 (by omega)).still s3).still s4).mod m5 (by omega);have r3':=(r3.still s4).mod m5 (by omega);have o5:dy g w w5:=Mod.trans (((s1.only.tr o2).tr s3.only).tr s4.only) m5 (λ_ h=>h) (λi hi e=>by omega);have h5:=((h2.still s3).still s4).mod m5 (by intro k hk e;omega);have aAf:eM w5 (λk=>w.heap.size+1<=k/\k<w5.heap.size/\k≠w3.heap.size/\k≠w2.heap.size) y.1 _:=(((hnd.still s3).still s4).mod m5 (λk hk e=>by omega)).mono λk hk=>⟨by omega,by omega,by omega,by omega⟩;have qT:=NB.mkK (B:=w.heap.size+1) r5 r3' aAf o5 hg (by omega) (by omega) (by omega) (by omega) ⟨rfl,rfl,rfl,rfl,rfl⟩;refine⟨λw9=>w9=w5,λ_=>0,rfl,?_⟩;rintro _ w6 rfl;refine aP λw7 r7 s7 z7=>(aK9 (h5.still s7) 1 (c_.row (l:=[Uz,VP]) r7) (by decide)).mono ?_;rintro _ w8 ⟨rfl,s8⟩;have hby:=hb.yQ hy2;rw[SH (by decide),DO (by decide),hby.MR (k:=1) (t:=Uz) (by decide),hby.MR (k:=1) (t:=VP) (by decide)];have WJ:=s7.trans s8;have mz:=qT.still WJ;have h8:=h5.still WJ;refine .inl ⟨_,rfl,aB (λhx=>by cases hx) (λ_=>?_)⟩;refine⟨none,0,0,mz.row.aj rfl,aB (λ_=>?_) (λe=>absurd rfl (a_ e))⟩;obtain⟨q,cs,he,_,hnd,hcs⟩:=mz.ok.at.get (i:=0) rfl;obtain rfl:=bM he;exact⟨_,_,_,mz.row.aj rfl,by decide,show(0:Int)<((1:Nat):Int) by decide,Z2 hcs hnd mz.only (Io.still WJ) (nr _) λw' cs' m' o' hn'=>⟨o',_,rfl,hn',h8.mod m' λj hj e=>by omega⟩⟩
def awx{L:Nat}(hc:M5 L){g:Nat}{s:Ts}(h:Pz w g s)(hb:TB s):aH3 Pm #[.pointer (some ⟨g,0,none⟩),.int .i64 (31-(L:Int))] w (CU w g (HQ (kK L).1 s)):=by
 refine akJ _ _ _ _ ?_;have hg:=h.lt;have he:=(acB L).1;have hea:=abD he;have hsa:=auM (Td L).1;have hs0:=hb.1;refine aP λw1 r1 s1 z1=>aP λw2 r2 s2 z2=>aH5 r2 (by simp) (by simp[Value.oneCell']) λw3 r3 m3 z3=>?_;have r3:Row w3 w1.heap.size 66 ⟨l_ (.mk 3 false [] [] [] [] [] []) (.slice none 0 0) (.slice none 0 0) (.slice none 0 0) (.slice none 0 0) (.slice none 0 0)⟩:=r3;have EA:Row w3 w.heap.size 66 ⟨pY⟩:=(r1.still s2).mod m3 (by omega);have s3:Still w w3:=(s1.trans s2).box (by omega) m3;have EJ:=NB.WG (B:=w.heap.size+1) r3 s3.only hg (by omega) (by omega) ⟨rfl,rfl,rfl,rfl,rfl⟩;refine(tF (h.still s3)).mono ?_;rintro _ w4 ⟨rfl,o4,h4⟩;have EM:=aKV s;refine .inl ⟨rfl,λw9=>∃s9 ks vk X,NB w w9 g w1.heap.size (w.heap.size+1) X (HP ks) (.slice none 0 0) (.slice none 0 0) (.slice none 0 0) (.slice none 0 0) vk/\Row w9 w.heap.size 66 ⟨pY⟩/\Pz w9 g s9/\s9<:+s/\ks.length+s9.length<=s.length/\aJG (Ao (kK L).1) ks s9=HQ (kK L).1 s,Ed g,⟨jM s,[],_,_,EJ.on o4,EA.mod o4 (by omega),h4,Dw s,by simp only[cm];omega,rfl⟩,?_⟩;rintro _ w5 ⟨s9,ks,vk,X,qT,Io,h5,yD,hlen,heq⟩;rw[<-heq,K1 (apM he)];clear heq;refine(R5 h5).mono ?_;rintro _ w6 ⟨rfl,s6⟩;have A9:=qT.still s6;have aha:=Io.still s6;have h6:=h5.still s6;refine .inl ⟨_,rfl,aB (λhx=>?_) (λhx=>?_)⟩
 .have hx:HO s9=false:=by simpa using hx
  have hls:Ao (kK L).1 ks s9=(Eo (kK L).1 s9).and λx=>if gS 1 HM x.2=true then .ok (.inl (ks++[x.1],jM x.2.tail))else if gS 2 [10] x.2=true then .ok (.inl (ks++[x.1],jM x.2))else .ok (.inr (HP (ks++[x.1]),x.2)):=by unfold Ao;rw[aL (by rw[hx];decide)]
  rw[hls];refine R8 A9 (ave hc (h6.still (gV _)) (hb.yQ yD)) (show ks.length<1000000 by omega) (λk w' hr o=>⟨o,?_⟩) (λy ahb aO X10 hr yE h10 m10=>?_)
  .rw[hr]
   rfl
  have hz1:=hea _ _ hr;have hsy:=(hsa _ _ hr).trans yD;rw[hr];simp only[Rs.and];have Mw:=aha.mod m10 (by intro e;omega);have hl1:=aKV y.2;have kJ:=aKV y.2.tail;have ht:=aLK y.2;refine(wh h10 1 (t:=HM) (by decide)).mono ?_;rintro _ aX ⟨rfl,rX,h11⟩;have M7:=yE.on rX;have Mv:=Mw.mod rX (by omega);refine .inl ⟨_,rfl,aB (λh1=>?_) (λh1=>?_)⟩
  .have h1:gS 1 HM y.2=false:=by simpa using h1
   rw[h1,aL (by decide)]at h11;refine aP λaH4 ey eN z12=>(aK9 (h11.still eN) 2 (c_.row (l:=[[10]]) ey) (by decide)).mono ?_;rintro _ bl ⟨rfl,gy⟩;rw[DO (by decide)];have U6:=eN.trans gy;have M8:=M7.still U6;have afP:=Mv.still U6;have aKr:=h11.still U6;refine .inl ⟨_,rfl,aB (λh2=>?_) (λh2=>?_)⟩
   .have h2:gS 2 [10] y.2=false:=by simpa using h2
    refine RL M8 afP (nr _) λw' cs' m' o' hn'=>⟨o',?_⟩;rw[aL (by rw[h1];decide),aL (by rw[h2];decide)];exact⟨_,rfl,hn',aKr.mod m' λj hj e=>by omega⟩
   .have h2:gS 2 [10] y.2=true:=by simpa using h2
    refine(tF aKr).mono ?_;rintro _ bQ ⟨rfl,NO,AX⟩;refine .inl ⟨rfl,⟨jM y.2,ks++[y.1],ahb,X10,M8.on NO,afP.mod NO (by omega),AX,(Dw _).trans hsy,by simp only[aIa,bf,cm];omega,?_⟩,by rw[AX.len,h5.len];omega⟩;rw[aL (by rw[h1];decide),aR h2]
  .have h1:gS 1 HM y.2=true:=by simpa using h1
   rw[h1,aR rfl]at h11;refine(tF h11).mono ?_;rintro _ bW ⟨rfl,o16,aIH⟩;refine .inl ⟨rfl,⟨jM y.2.tail,ks++[y.1],ahb,X10,M7.on o16,Mv.mod o16 (by omega),aIH,(Dw _).trans ((Lr _).trans hsy),by simp only[aIa,bf,cm];omega,?_⟩,by rw[aIH.len,h5.len];omega⟩;rw[aR h1]
 .have hx:HO s9=true:=by simpa using hx
  have hls:Ao (kK L).1 ks s9=.ok (.inr (HP ks,s9)):=by unfold Ao;rw[aR hx]
  rw[hls];exact RL A9 aha (nr _) λw' cs' m' o' hn'=>⟨o',_,rfl,hn',h6.mod m' λj hj e=>by omega⟩
def ac2(s:Ts):decide (((((s[0]?).getD (2,[])).1:Nat):Int)=0)=aLv s:=by
 cases s with
 |nil=>rfl
 |cons x r=>
  obtain⟨k,t⟩:=x;show decide ((k:Int)=0)=decide (k=0)
  exact qW.2 (by omega)
def aqi{a:List (List Pt)×List (ag×List Pt)×List (ag×List Pt)}{s:Ts}(h:BW s=true):pP a s=(uz s).and λx=>.ok (.inl ((a.1,a.2.1,a.2.2++[x.1]),x.2)):=by unfold pP;rw[aR h]
def aqj{a:List (List Pt)×List (ag×List Pt)×List (ag×List Pt)}{s:Ts}(h:BW s=false)(hk:aLv s=false):pP a s=if a.1.length+a.2.1.length+a.2.2.length=0 then .bad 100 else .ok (.inr (.mk 0 false [] a.1 a.2.1 a.2.2 [] [],s)):=by
 unfold pP;rw[aL (by rw[h];decide)]
 match s,hk with
 |[],_=>rfl
 |(k,t)::r,hk=>simp only[aL (a_ hk)]
def Rm{a:List (List Pt)×List (ag×List Pt)×List (ag×List Pt)}{t:ag}{r:Ts}{R:Rs ((ag×List Pt)×Ts)}(h:BW ((0,t)::r)=false)(ha:a.1=[])(hR:u_ ((0,t)::r)=some R):pP a ((0,t)::r)=R.and λx=>.ok (.inl ((a.1,a.2.1++[x.1],a.2.2),x.2)):=by
 unfold pP;rw[aL (by rw[h];decide)];simp only[aR ha,u_]at hR⊢;cases hy:wS t with
 |none=>rw[hy]at hR;cases hR
 |some y=>rw[hy]at hR;obtain rfl:=bM hR;simp only[↓reduceIte];cases fe 30 y.2<;>rfl
def apm{a:List (List Pt)×List (ag×List Pt)×List (ag×List Pt)}{t:ag}{r:Ts}(h:BW ((0,t)::r)=false)(ha:a.1≠[]\/u_ ((0,t)::r)=none):pP a ((0,t)::r)=(oZ ((0,t)::r)).and λx=>.ok (.inl ((a.1++[x.1],a.2.1,a.2.2),x.2)):=by
 unfold pP;rw[aL (by rw[h];decide)];have hn:(if a.1=[]then wS t else none)=none:=by
  rcases ha with ha|ha
  .rw[aL ha]
  .split
   .cases hy:wS t with
    |none=>rfl
    |some y=>simp only[u_,hy]at ha;cases ha
   ·rfl
 simp only[hn,oZ,↓reduceIte];cases fe 30 t<;>rfl
def aqk{g:Nat}{s:Ts}(h:Pz w g s)(hb:TB s):aH3 O3 #[.pointer (some ⟨g,0,none⟩)] w (CU w g (aJq s)):=by
 refine ake _ _ _ ?_;have hg:=h.lt;have hs0:=hb.1;refine aP λw1 r1 s1 z1=>?_;have r1:Row w1 w.heap.size 66 ⟨l_ (.mk 0 false [] [] [] [] [] []) (.slice none 0 0) (.slice none 0 0) (.slice none 0 0) (.slice none 0 0) (.slice none 0 0)⟩:=r1;have AU:=NB.WG (B:=w.heap.size) r1 s1.only hg (aW _) (aW _) ⟨rfl,rfl,rfl,rfl,rfl⟩;refine⟨λw2=>∃s9 ws aIJ rs vw va vr X,NB w w2 g w.heap.size w.heap.size X (.mk 0 false [] ws aIJ rs [] []) vw va vr (.slice none 0 0) (.slice none 0 0)/\Pz w2 g s9/\s9<:+s/\ws.length+aIJ.length+rs.length+s9.length<=s.length/\aJG pP (ws,aIJ,rs) s9=aJq s,Ed g,⟨s,[],[],[],_,_,_,_,AU,h.still s1,xB _,by simp only[cm];omega,rfl⟩,?_⟩;rintro _ w2 ⟨s9,ws,aIJ,rs,vw,va,vr,X,VI,h2,yD,hlen,heq⟩;have hm:=K1 FY (ws,aIJ,rs) s9;rw[heq]at hm;clear heq;have WK:=hb.yQ yD;refine(aon h2).mono ?_;rintro _ w3 ⟨rfl,s3⟩;have EJ:=VI.still s3;have h3:=h2.still s3;refine .inl ⟨_,rfl,aB (λhx=>?_) (λhx=>?_)⟩
 .have hst:=aqi (a:=(ws,aIJ,rs)) hx
  rw[hst]at hm;refine atu EJ h3 WK (by rintro rfl;cases hx) (show rs.length<1000000 by omega) (λk w' hr o=>⟨o,?_⟩) (λz vr4 w4 X4 hr WI h4 m4=>?_)
  .rw[hr]at hm
   have hm:aJq s=.bad k:=hm;rw[hm]
  rw[hr]at hm;have hz1:=ZP _ _ hr;have jU:=aaz _ _ hr;exact⟨⟨z.2,ws,aIJ,rs++[z.1],vw,va,vr4,X4,WI,h4,jU.trans yD,by simp only[aIa,bf,cm];omega,hm.symm⟩,by rw[h4.len,h2.len];omega⟩
 refine(aKZ h3 0).mono ?_;rintro _ w8 ⟨rfl,s8⟩;have mz:=EJ.still s8;have h8:=h3.still s8;refine .inl ⟨_,_,rfl,?_⟩
 try dsimp only[zR]
 rw[ac2];obtain⟨pw,cw,rfl⟩:=mz.ow.form;obtain⟨pa,ca,rfl⟩:=mz.oa.form;obtain⟨pr,cr,rfl⟩:=mz.ord.form;refine aB (λhk=>?_) (λhk=>?_)
 .have hk:aLv s9=false:=by simpa using hk
  rw[aqj hx hk]at hm;simp only at hm;refine⟨pw,ws.length,cw,mz.row.aj rfl,pa,aIJ.length,ca,mz.row.aj rfl,pr,rs.length,cr,mz.row.aj rfl,afN (λht=>?_) (λht=>⟨mz.only,?_⟩)⟩
  .have ht:=aT ht
   rw[wrap_i64 (n:=(ws.length:Int)+(aIJ.length:Int)) (by omega) (by omega),wrap_i64 (by omega) (by omega)]at ht;rw[aL (by omega)]at hm;have hm:aJq s=.ok (.mk 0 false [] ws aIJ rs [] [],s9):=hm;refine ars mz λw' cs' m' o' hn'=>⟨o',?_⟩;rw[hm];exact⟨_,rfl,hn',h8.mod m' λj hj e=>by omega⟩
  .have ht:=a_ ht
   rw[wrap_i64 (n:=(ws.length:Int)+(aIJ.length:Int)) (by omega) (by omega),wrap_i64 (by omega) (by omega)]at ht;rw[aR (by omega)]at hm;have hm:aJq s=.bad 100:=hm;rw[hm]
 have hk:aLv s9=true:=by simpa using hk
 obtain⟨t,r,rfl⟩:∃t r,s9=(0,t)::r:=by
  match s9,hk with
  |(k,t)::r,hk=>exact⟨t,r,by rw[show k=0 from aT hk]⟩
 simp only[bf]at hlen;refine⟨λaH_=>NB w aH_ g w.heap.size w.heap.size X (.mk 0 false [] ws aIJ rs [] []) (.slice pw ws.length cw) (.slice pa aIJ.length ca) (.slice pr rs.length cr) (.slice none 0 0) (.slice none 0 0)/\Pz aH_ g ((0,t)::r)/\(ws≠[]\/u_ ((0,t)::r)=none),⟨pw,ws.length,cw,mz.row.aj rfl,aB (λhe=>?_) (λhe=>?_)⟩,?_⟩
 .have rT:ws=[]:=mH (by have:=aT he;omega)
  refine(anV h8 WK).mono ?_;rintro e11 aX ⟨rX,hp⟩;have aGU:=rX.size;have hl8:=mz.row.lt;cases hR:u_ ((0,t)::r)with
  |none=>rw[hR]at hp;obtain⟨t',p',n',c',rfl,h11⟩:=hp;refine .inl ⟨_,_,_,_,_,rfl,aP λaH4 ey eN z12=>aH5 ey (by simp) (by simp[Value.oneCell']) λbl jE m13 vz=>?_⟩;have CT:dy g w8 bl:=Mod.trans (rX.tr eN.only) m13 (λ_ h=>h) (λi hi e=>by omega);exact⟨mz.on CT,(h11.still eN).mod m13 (by intro k hk e;omega),.inr rfl⟩
  |some R=>
   rw[hR]at hp;rw[Rm hx rT hR]at hm;cases R with
   |bad k=>have hm:aJq s=.bad k:=hm;exact .inr ⟨_,hp,(mz.on rX).only,by rw[hm]⟩
   |ok z=>obtain⟨p',c',rfl,gT,h11⟩:=hp;have hz1:=FY _ _ _ (Rm (a:=(ws,aIJ,rs)) hx rT hR);have jU:=ZT _ _ _ (Rm (a:=(ws,aIJ,rs)) hx rT hR);have hz1:z.2.length<((0,t)::r).length:=hz1;have jU:z.2<:+(0,t)::r:=jU;simp only[bf]at hz1;refine .inl ⟨_,_,_,_,_,rfl,aP λaH4 ey eN z12=>aH5 ey (by simp) (by simp[Value.oneCell']) λbl jE m13 vz=>?_⟩;have CT:dy g w8 bl:=Mod.trans (rX.tr eN.only) m13 (λ_ h=>h) (λi hi e=>by omega);have aKr:=(h11.still eN).mod m13 (by intro k hk e;omega);have M8:=mz.on CT;have ayB:cv bl (λk=>w8.heap.size<=k/\k<bl.heap.size) z.1.2 (.slice p' z.1.2.length c'):=gT.dV (λk hk=>⟨by omega,by omega⟩) λa v ⟨k,hk,ea⟩ hcell=>aKi m13 (by rw[ea];show¬k=aX.heap.size;omega) (eN.cell hcell);refine⟨pa,aIJ.length,ca,M8.row.aj rfl,z.1.1,p',z.1.2.length,c',jE.aj rfl,jE.aj rfl,NB.ayu (y:=z.1) mz CT ⟨_,rfl,ayB⟩ (show aIJ.length<1000000 by omega) λp2 c2 bW X16 aAg m16=>?_⟩;have aIH:=aKr.mod m16 (by intro k hk e;omega);exact⟨⟨z.2,ws,aIJ++[z.1],rs,_,_,_,X16,aAg,aIH,jU.trans yD,by simp only[aIa,bf,cm];omega,hm.symm⟩,by rw[aIH.len,h2.len];simp only[bf];omega⟩
 .exact⟨mz,h8,.inl (by rintro rfl;exact a_ he rfl)⟩
 .rintro _ aH_ ⟨aAh,E0,WL⟩
  rw[apm (a:=(ws,aIJ,rs)) hx WL]at hm;refine arz aAh E0 WK (show ws.length<1000000 by omega) (λk w' hr o=>⟨o,?_⟩) (λz vw9 w9 X9 hr N1 h9 m9=>?_)
  .rw[hr]at hm
   have hm:aJq s=.bad k:=hm;rw[hm]
  rw[hr]at hm;have hz1:=ZO _ _ hr;have jU:=aay _ _ hr;simp only[bf]at hz1;exact⟨⟨z.2,ws++[z.1],aIJ,rs,vw9,_,_,X9,N1,h9,jU.trans yD,by simp only[aIa,bf,cm];omega,hm.symm⟩,by rw[h9.len,h2.len];simp only[bf];omega⟩
def Rs.axT{α β:Type}(x:α)(f:α->Rs β):(Rs.ok x).and f=f x:=rfl
def avf{s:Ts}(hb:TB s){j:Nat}(hj:j<7):aJt j≠sM ((((s[0]?).getD (2,[])).1:Nat):Int) ((s[0]?).getD (2,[])).2:=by
 intro h;have key:∀j,j<7->∃k:Nat,∃t,aJt j=sM (k:Int) t/\(k,t)∈HR:=seven ⟨1,Ub,rfl,by decide⟩ ⟨0,aeM,rfl,by decide⟩ ⟨0,tIf,rfl,by decide⟩ ⟨0,aeN,rfl,by decide⟩ ⟨0,aeO,rfl,by decide⟩ ⟨0,agA,rfl,by decide⟩ ⟨0,afv,rfl,by decide⟩;obtain⟨k,t,e,hm⟩:=key j hj;rw[e]at h;obtain⟨h1,h2⟩:=acG h
 match s,hb,h1,h2 with
 |[],_,h1,h2=>have h1:(k:Int)=2:=h1;have h2:t=[]:=h2;rw[h2,show k=2 by omega]at hm;exact absurd hm (by decide)
 |(k',t')::r,hb,h1,h2=>have h1:(k:Int)=(k':Int):=h1;have h2:t=t':=h2;rw[h2,show k=k' by omega]at hm;exact(hb.2 (k',t') (by simp)).2.2.2.1 hm
def aql{s:Ts}(hb:TB s):xk 0 B7 s=false:=by
 match s,hb with
 |[],_=>rfl
 |(k,t)::r,hb=>
  show(decide (k=0)&&B7.contains t)=false;have:=(hb.2 (k,t) (by simp)).2.2.2.1
  by_cases hk:k=0
  .subst hk
   rw[fV rfl,zu];refine Bool.eq_false_iff.2 λhc=>this ?_;exact tj _ (eo.2 ⟨t,by simpa using hc,rfl⟩)
  .rw[aIl hk]
   rfl
def Aq.still{w':World}{g:Nat}{es:List (Value×Value)}(h:Aq w g es)(hm:Still w w'):Aq w' g es:=by obtain⟨ms,c,hg,hp⟩:=h;exact⟨ms,c,(hm.block g (oP.1 hg).1 (λh=>h)).trans hg,hp⟩
def avg(r:Ts)(k:Nat){t:ag}(ht:t≠[]):(decide (((((r[0]?).getD (2,[])).1:Nat):Int)=(k:Int))&&((decide (((r[0]?).getD (2,[])).2=t))&&true))=gS k t r:=by
 cases r with
 |nil=>show(_&&((decide (([]:ag)=t))&&true))=false;have e:decide (([]:ag)=t)=false:=aIl (λe=>ht e.symm);rw[e];simp
 |cons x r=>
  obtain⟨k',t'⟩:=x;show(decide ((k':Int)=(k:Int))&&(decide (t'=t)&&true))=decide (some (k',t')=some (k,t))
  by_cases hk:k'=k
  .subst hk
   simp
  .simp[hk]
   omega
set_option maxRecDepth 10000 in
def arA{L:Nat}(h0:0<L):M5 L:=by
 intro w g s h hb;show Calls _ _ _ w (CU w g (aJq s))
 refine aj_ _ _ _ _ ?_;have hg:=h.lt;refine aP λw1 r1 s1 z1=>aB (λhd=>absurd (aT hd) (by omega)) (λ_=>?_);intro us w2 s2 z2 hmap;have h2:=(h.still s1).still s2;refine(aKZ h2 0).mono ?_;rintro _ w3 ⟨rfl,s3⟩;have h3:=h2.still s3;have gy:=(s1.trans s2).trans s3;have EA:=(r1.still s2).still s3;have rS:=EA.lt;have hx:((s[0]?).getD (2,[])).1<1000/\((s[0]?).getD (2,[])).2.length<1000000:=by
  cases s with
  |nil=>exact⟨by decide,by decide⟩
  |cons x r=>exact⟨hb.kind,hb.head.1⟩
 refine .inl ⟨_,_,rfl,auP (hmap.still s3) hx.1 hx.2 (λj hj hkey=>absurd hkey (avf hb hj)) (λhno=>?_)⟩;refine⟨λpq=>Still w3 pq,aB (λhf=>by cases hf) (λ_=>?_),?_⟩;rotate_left
 .intro _ pq WM
  have afQ:=EA.still WM;have o27:=(gy.trans WM).only (g:=g);have aGV:=afQ.lt;refine(aqk (h3.still WM) hb).mono ?_;rintro e28 vi ⟨o28,hp⟩;have ahc:=o27.tr o28;cases hr:aJq s with
  |bad k=>rw[hr]at hp;exact .inr ⟨_,hp,ahc,rfl⟩
  |ok y=>
  rw[hr]at hp;obtain⟨cs,rfl,hnd,h28⟩:=hp;obtain⟨pw,cw,pa,ca,pr,cr,po,co,pk,ck,rfl,_⟩:=hnd.outs;refine .inl ⟨_,_,_,_,_,_,_,_,_,_,_,_,_,_,_,_,_,_,rfl,aH5 (afQ.mod o28 (by omega)) (by simp) (by simp[Value.oneCell']) λw' r' m' z'=>?_⟩;refine⟨_,_,_,_,_,_,_,_,_,_,_,_,_,_,_,_,_,_,r'.aj rfl,r'.aj rfl,r'.aj rfl,r'.aj rfl,r'.aj rfl,r'.aj rfl,r'.aj rfl,r'.aj rfl,Mod.trans ahc m' (λ_ h=>h) (λi hi e=>by omega),?_⟩;exact⟨_,rfl,(hnd.mod m' λk hk e=>by omega).mono λk hk=>⟨by omega,by omega⟩,h28.mod m' λj hj e=>by omega⟩
 refine⟨λb cB=>Still w3 cB/\b=false,Zv.mono ?_,?_⟩
 .rintro _ bH ⟨q,rfl,hq,jV⟩
  refine .inl ⟨_,_,_,rfl,(aK9 (h3.still jV) 0 hq (by decide)).mono ?_⟩;rintro _ bQ ⟨rfl,aJM⟩;rw[aql hb];refine .inl ⟨_,rfl,aB (λhx=>by cases hx) (λ_=>?_)⟩;refine aP λbW r16 oh Wy=>(aK9 (((h3.still jV).still aJM).still oh) 0 (c_.row (l:=[uS]) r16) (by decide)).mono ?_;rintro _ aH_ ⟨rfl,rY⟩;exact .inl ⟨_,rfl,((jV.trans aJM).trans oh).trans rY,by rw[DO (by decide)];exact hb.MR (by decide)⟩
 rintro b _ cB ⟨og,rfl⟩;have h18:=h3.still og;refine aB (λhrb=>by cases hrb) (λ_=>?_);refine⟨λb je=>Still w3 je/\b=false,(aKZ h18 0).mono ?_,?_⟩
 .rintro _ dM ⟨rfl,lB⟩
  refine .inl ⟨_,_,rfl,?_⟩
  try dsimp only[zR]
  rw[ac2];refine aB (λhw=>?_) (λhw=>⟨og.trans lB,rfl⟩);obtain⟨t,r,rfl⟩:∃t r,s=(0,t)::r:=by
   match s,hw with
   |(k,t)::r,hw=>exact⟨t,r,by rw[show k=0 from aT hw]⟩
  refine(aKZ (h18.still lB) 0).mono ?_;rintro _ eF ⟨rfl,nh⟩;refine .inl ⟨_,_,rfl,(aL0 t hb.head.1).mono ?_⟩;rintro _ eL ⟨rfl,aJO⟩;have Uf:=(lB.trans nh).trans aJO;refine .inl ⟨_,rfl,aB (λhn=>?_) (λ_=>⟨og.trans Uf,rfl⟩)⟩;refine(aKZ (h18.still Uf) 1).mono ?_;rintro _ aIf ⟨rfl,CV⟩;have e1:((0,t)::r)[1]?=r[0]?:=rfl;rw[e1];refine .inl ⟨_,_,rfl,?_⟩
  try dsimp only[zR]
  rw[show(decide (((((r[0]?).getD (2,[])).1:Nat):Int)=(1:Int))&&((decide (((r[0]?).getD (2,[])).2=[40]))&&true))=gS 1 Ub r from avg r 1 (by decide),hb.tail.MR (by decide)];exact aB (λh=>by cases h) (λ_=>⟨(og.trans Uf).trans CV,rfl⟩)
 rintro b _ je ⟨lz,rfl⟩;exact aB (λhf=>by cases hf) (λ_=>lz)
end Go.Proofs.YtihaaoehhgmphaaGreatDoor.L
namespace Go.Proofs.YtihaaoehhgmphaaGreatDoor.L
open IntKind Go.RowKit Vc
def arB(p q:Addr)(w:World):
  CallsD aM 53 #[.pointer (some p),.pointer (some q)] .returning w λe u' w'=>e=.returned (.tuple #[])/\u'=.returning/\w'=w:=by
 refine callsD_of_wpS Tryz.func53 rfl λc₀ cs hu=>?_;apply wpS_seq;apply wpS_region;simp[wpOpsS,go_sem,recoverD,hu,Tryz.ntmps53,Exit.thenS];apply wpS_seq;apply wpS_region;simp[wpOpsS,go_sem,Tryz.ntmps53,Exit.thenS];refine wpS_cond (t:=false) (by simp[Act.eval,Array.replicate]) ?_;simp only[kP,iR];refine wpS_of_wp (wp_skip ?_);cases c₀;simp_all [bodyPostS,results,Tryz.results53]
def apn(p q:Addr)(n:Int)(w:World)(P:World->Prop)(h:cJ p (λw1=>cJ q P 0 [.int .i64 n] w1) 0 [(.int .i64 0),(.bool false),(.string (S ([]:List UInt8))),(.slice none 0 0),(.slice none 0 0),(.slice none 0 0),(.slice none 0 0),(.slice none 0 0)] w.drew):
  CallsD aM 53 #[.pointer (some p),.pointer (some q)] (.panicking [{v:=.iface 28 (.int .i64 n),recovered:=false}]) w λe u' w'=>e=.returned (.tuple #[])/\settle u'=.returning/\P w':=by
 refine callsD_of_wpS Tryz.func53 rfl λc₀ cs hu=>?_;apply wpS_seq;apply wpS_region;simp[wpOpsS,go_sem,recoverD,hu,Tryz.ntmps53,Exit.thenS];apply wpS_seq;apply wpS_region;simp[wpOpsS,go_sem,Tryz.ntmps53,Exit.thenS];refine wpS_cond (t:=true) (by simp[Act.eval,Array.replicate]) ?_;simp only[oV];refine wpS_of_wp ?_;have et:(#[Value.pointer (some p),Value.pointer (some q)]++((((Array.replicate 7 undef).setIfInBounds 1 (Value.iface 28 (Value.int i64 n))).setIfInBounds 0 (Value.iface 28 (Value.int i64 n))).setIfInBounds 2 (Value.iface 28 (Value.int i64 n))).setIfInBounds 3 (Value.bool true))=
   ⟨[.pointer (some p),.pointer (some q),.iface 28 (.int .i64 n),.iface 28 (.int .i64 n),.iface 28 (.int .i64 n),.bool true,undef,undef,undef]⟩:=by rfl
 rw[et];refine F7 (P:=aM) (m:=.held) (ds:=[]) (l:=[.pointer (some p),.pointer (some q),.iface 28 (.int .i64 n),.iface 28 (.int .i64 n),.iface 28 (.int .i64 n),.bool true,undef,undef,undef]) (K:=λl' w'=>P w') (E:=λ_ _=>False) (Eq.mp (α:=∃Sw:World->Prop,Sw w.drew/\(cJ p (λw1=>cJ q P 0 [.int .i64 n] w1) 0 [(.int .i64 0),(.bool false),(.string (S ([]:List UInt8))),(.slice none 0 0),(.slice none 0 0),(.slice none 0 0),(.slice none 0 0),(.slice none 0 0)] w.drew)/\(cJ p (λw1=>cJ q P 0 [.int .i64 n] w1) 0 [(.int .i64 0),(.bool false),(.string (S ([]:List UInt8))),(.slice none 0 0),(.slice none 0 0),(.slice none 0 0),(.slice none 0 0),(.slice none 0 0)] w.drew)) (by kernel_rfl) ⟨λ_=>True,trivial,h,h⟩) ?_ ?_
 .intro l' w' _ hP
  cases c₀;simp_all [bodyPostS,results,Tryz.results53,act,settle]
 .intro l' c w' _ h
  exact h.elim
def aa0:∀n,Ends (rF n)
 |0=>λs t h=>by cases h
 |n+1=>by
  intro s t h;rw[rF]at h;split at h
  .obtain rfl:=bM h;exact xB _
  .split at h
   .rename_i x hx
    exact(aa0 n _ _ h).trans (aqR 30 _ _ hx)
   .cases h
def aqm{a:UInt8}{r t:ag}{l:List Tok}(h:aIW a r=some (l,t)):
  ((a=32\/a=9)/\l=[]/\t=r)\/(a=35/\l=[]/\t=ud r)\/(a=10/\l=[(2,[10])]/\t=r)\/
  ((¬(a=32\/a=9)/\¬a=35/\¬a=10)/\x_ a=true/\l=[(1,(a::r).take (jb (a::r)))]/\t=(a::r).drop (jb (a::r)))\/
  ((¬(a=32\/a=9)/\¬a=35/\¬a=10)/\x_ a=false/\∃p,p≠[]/\a::r=p++t/\pX (p++t)=some t/\l=[(0,p)]):=by
 unfold aIW at h
 by_cases h1:a=32\/a=9
 .rw[aR h1]at h
  obtain⟨rfl,rfl⟩:=se .. ▸bM h;exact .inl ⟨h1,rfl,rfl⟩
 rw[aL h1]at h
 by_cases h2:a=35
 .rw[aR h2]at h
  obtain⟨rfl,rfl⟩:=se .. ▸bM h;exact .inr (.inl ⟨h2,rfl,rfl⟩)
 rw[aL h2]at h
 by_cases h3:a=10
 .rw[aR h3]at h
  obtain⟨rfl,rfl⟩:=se .. ▸bM h;exact .inr (.inr (.inl ⟨h3,rfl,rfl⟩))
 rw[aL h3]at h
 by_cases h4:x_ a=true
 .rw[aR h4]at h
  obtain⟨rfl,rfl⟩:=se .. ▸bM h;exact .inr (.inr (.inr (.inl ⟨⟨h1,h2,h3⟩,h4,rfl,rfl⟩)))
 rw[aL h4]at h;have h4:x_ a=false:=by simpa using h4
 refine .inr (.inr (.inr (.inr ⟨⟨h1,h2,h3⟩,h4,?_⟩)));split at h
 .rename_i t' ht
  obtain⟨rfl,rfl⟩:=se .. ▸bM h;obtain⟨p,hp⟩:=aa0 _ _ _ ht;have hlen:=Ra (s:=a::r) h4 ht;refine⟨p,?_,hp.symm,by rw[hp];exact ht,?_⟩
  .rintro rfl
   rw[<-hp]at hlen;simp at hlen
  .rw[<-hp]
   simp
 .cases h
def map_nil(o:Option (List Tok)):o.map (([]:List Tok)++·)=o:=by cases o<;>simp
end Go.Proofs.YtihaaoehhgmphaaGreatDoor.L
namespace Go.Proofs.YtihaaoehhgmphaaGreatDoor.L
open IntKind
def aa1:∀(n:Nat) (s:ag),s.length<=n->∀l,toks s=some l->l.length<=s.length/\∀x∈l,x.2.length<=s.length/\x.2≠[]/\x.1<3
 |_,[],_,l,h=>by rw[ac1]at h;obtain rfl:=bM h;exact⟨aW _,λx hx=>by cases hx⟩
 |0,a::r,hn,_,_=>by simp only[bf]at hn;omega
 |n+1,a::r,hn,l,h=>by
  rw[ab0]at h;cases h1:aIW a r with
  |none=>rw[h1]at h;cases h
  |some y=>
   obtain⟨l1,t⟩:=y;rw[h1]at h;simp only[Option.bind]at h;cases h2:toks t with
   |none=>rw[h2]at h;cases h
   |some m=>
    rw[h2]at h;obtain rfl:=bM h;have hlen:=QX h1;simp only[bf]at hn⊢;obtain⟨i1,i2⟩:=aa1 n t (by omega) m h2;refine⟨by rw[aIa];omega,λx hx=>?_⟩;rcases aIL.1 hx with hx|hx
    .rcases aqm h1 with⟨_,rfl,rfl⟩|⟨_,rfl,rfl⟩|⟨_,rfl,rfl⟩|⟨_,_,rfl,rfl⟩|⟨_,_,p,hp,hpt,_,rfl⟩
     .cases hx
     .cases hx
     .obtain rfl:=aIA.1 hx
      exact⟨by simp,by simp,by show 2<3;decide⟩
     .obtain rfl:=aIA.1 hx
      have ho:=aLI (a:=a) (r:=r);simp only[bf]at ho;refine⟨?_,λe=>?_,by show 1<3;decide⟩
      .rw[eH,bf]
       omega
      .have:=gK List.length e
       rw[eH,bf]at this;simp only[cm]at this;omega
     .obtain rfl:=aIA.1 hx
      refine⟨?_,hp,by show 0<3;decide⟩;have:=gK List.length hpt;simp only[bf,aIa]at this;show p.length<=_
      omega
    .obtain⟨j1,j2,j3⟩:=i2 x hx
     exact⟨by omega,j2,j3⟩
def L_(s:ag):Bool:=(jo s).1.all λx=>!(HR.contains x)&& !(x.2.contains 123)
def atw(s:ag)(hp:L_ s=true):TB (jo s).1:=by
 have hp:∀x∈(jo s).1,x∉HR/\123∉x.2:=λx hx=>by have:=ql.1 hp x hx;simpa using this
 revert hp;unfold jo;split
 .exact λ_=>⟨by simp,λx hx=>by cases hx⟩
 .split
  .intro hp
   rename_i aJa _ l hl;obtain⟨h1,h2⟩:=aa1 _ s (aW _) l hl;refine⟨by show l.length<=_;omega,λx hx=>?_⟩;obtain⟨j1,j2,j3⟩:=h2 x hx;exact⟨by omega,j2,by omega,hp x hx⟩
  .exact λ_=>⟨by simp,λx hx=>by cases hx⟩
def nd0:Nd:=.mk 0 false [] [] [] [] [] []
def aJu(s:ag):Nd×Int:=if L_ s=false then(nd0,999)else if(jo s).2=0 then match LH (jo s).1 with
 |.ok x=>(x,0)
 |.bad k=>(nd0,(k:Int))
 else(nd0,(jo s).2)
end Go.Proofs.YtihaaoehhgmphaaGreatDoor.L
