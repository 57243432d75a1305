/- Texts of one proof, one behind the other. Conditions: as each theorem names them. -/
import Derived.Test.YtihaaoehhgmphaaGreatDoorQ5
import Derived.Lib.SliceRun
import Derived.Lib.SplitLaws
import Derived.Tactics
import Derived.Tactics2
import Derived.Defers
import Derived.Recover
import Derived.Shelf.Spec.SlicesGrow
import Derived.Laws.RangeAny
import Derived.Shelf.Strings.SlTrimAscii
import Derived.Lib.ItoaLen
import Derived.Lib.IndexLaws
import Derived.Laws.Pointers
set_option linter.all false
namespace Go.Proofs.YtihaaoehhgmphaaGreatDoor.L
open IntKind Go.RowKit Vc
variable{w:World}
abbrev Es(x:Pt)(v:Value):Value:=.agg #[.int .i64 x.k,.bool x.q,.string (S x.t),.string (S x.n),.string (S x.o),v]
def _root_.Go.Proofs.YtihaaoehhgmphaaGreatDoor.aV.store{B:Nat}{e:TypeId}{sz n c g i:Nat}{xs:List Value}{u:Value}{K:World->Prop}(h:aV w B e sz (.slice (some ⟨g,0,none⟩) n c) n xs)(hi:i<n*sz)(hu:u.oneCell'=true)
  (hK:∀w',aV w' B e sz (.slice (some ⟨g,0,none⟩) n c) n (xs.set i u)->Mod (λk=>k=g) w w'->w'.heap.size=w.heap.size->K w'):cJ ((Addr.mk g 0 none).add i) K 0 [u] w:=by
 obtain⟨h1,⟨he,hn⟩|⟨g',cap,cur,he,hB,hr,hc,hm,hs,ht⟩⟩:=h
 .cases he
 .injection he with e1 e2 e3
  injection e1 with e1;injection e1 with e1;subst e1 e3;rw[bR,cE];have hr':Row w g e ⟨cur.toList⟩:=hr;have hlen:cur.toList.length=c*sz:=by rw[JP];exact hs
  have hle:n*sz<=c*sz:=O5 sz hc;refine aH5 hr' (by simp only[bf,cm];omega) (by simpa using hu) λw' r' m' z'=>hK w' ⟨by rw[Df];exact h1,.inr ⟨g,c,_,rfl,hB,r',hc,hm,?_,?_⟩⟩ m' z'
  .simp only[fR,xz,Df]
   exact hlen
  .simp only[fR]
   rw[<-ht,List.take_set]
def cv.cells{F:Nat->Prop}{l:List Pt}{p:Option Addr}{n c:Nat}(h:cv w F l (.slice p n c)):∃xs,Cs w F l xs/\At w p n xs:=by
 obtain⟨p',c',he,h2,h3⟩:=h;injection he with e1 e2 e3;subst e1 e2 e3
 by_cases hl:l=[]
 .subst hl
  exact⟨[],rfl,λh=>absurd h (Dj _)⟩
 .obtain⟨b,rfl,h4,h5⟩:=h3 hl
  obtain⟨xs,h6,h7⟩:=Cs.to h5;exact⟨xs,h6,λ_=>⟨b,rfl,h7⟩⟩
def gV(w:World):Still w w.drew:=(Still.refl w).cK
def Gd{g:Nat}{x:Pt}{v:Value}(h:Row w g 51 ⟨h_ x v⟩):w.cell? ⟨g,0,none⟩=some (.int .i64 x.k)/\w.cell? ⟨g,1,none⟩=some (.bool x.q)/\w.cell? ⟨g,2,none⟩=some (.string (S x.t))/\w.cell? ⟨g,3,none⟩=some (.string (S x.n))/\w.cell? ⟨g,4,none⟩=some (.string (S x.o))/\w.cell? ⟨g,5,none⟩=some v:=
 ⟨h.aj rfl,h.aj rfl,h.aj rfl,h.aj rfl,h.aj rfl,h.aj rfl⟩
def LN(gx:Nat)(w1:World)(l:Option Addr)(lL lC:Nat)(R:Ending->World->Prop):Prop:=
 ∃xJ:World->Prop,(∃aY:Bool->World->Prop,(ak (decide ((0:Int)<=(i64.wrap ((((lL:Nat):Int):Int)-(1:Int))))) (∃v:Int,w1.cell? (Addr.mk gx 0 none)=some (.int .i64 v)/\ak (decide (v=(0:Int))) (0<=(i64.wrap ((((lL:Nat):Int):Int)-(1:Int)))/\(i64.wrap ((((lL:Nat):Int):Int)-(1:Int)))<(lL:Nat)/\az l (λa=>∃v1:Int,w1.cell? (a.add (Int.toNat (i64.wrap ((((lL:Nat):Int):Int)-(1:Int)))*6))=some (.int .i64 v1)/\ak (decide (v1=(0:Int))) (0<=(i64.wrap ((((lL:Nat):Int):Int)-(1:Int)))/\(i64.wrap ((((lL:Nat):Int):Int)-(1:Int)))<(lL:Nat)/\az l (λa1=>∃v2:Bool,w1.cell? ((a1.add (Int.toNat (i64.wrap ((((lL:Nat):Int):Int)-(1:Int)))*6)).add 1)=some (.bool v2)/\∃v3:Bool,w1.cell? (Addr.mk gx 1 none)=some (.bool v3)/\aY (decide (v2=v3)) w1.drew)) (aY false w1.drew))) (aY false w1.drew)) (aY false w1.drew))/\∀(x:Bool) (aKl:Nat->Value) (w2:World),(aY x w2)->ak x (∃Sw:World->Prop,Sw w2.drew/\0<=(i64.wrap ((((lL:Nat):Int):Int)-(1:Int)))/\(i64.wrap ((((lL:Nat):Int):Int)-(1:Int)))<(lL:Nat)/\az l (λa2=>∃v4:List UInt8,(∀wq:World,Sw wq->wq.cell? ((a2.add (Int.toNat (i64.wrap ((((lL:Nat):Int):Int)-(1:Int)))*6)).add 2)=some (.string (S v4)))/\∃v5:List UInt8,(∀wq:World,Sw wq->wq.cell? (Addr.mk gx 2 none)=some (.string (S v5)))/\v4.length+v5.length<=9223372036854775807/\0<=(i64.wrap ((((lL:Nat):Int):Int)-(1:Int)))/\(i64.wrap ((((lL:Nat):Int):Int)-(1:Int)))<(lL:Nat)/\az l (λa3=>cJ ((a3.add (Int.toNat (i64.wrap ((((lL:Nat):Int):Int)-(1:Int)))*6)).add 2) (λ(w3:World)=>R (.returned (.slice l lL lC)) w3) 0 [(.string (S (v4++v5)))] w2.drew))) (xJ w2))/\∀(VG:Nat->Value) (w4:World),(xJ w4)->∃cF:Int,∃oW:Bool,∃jN:List UInt8,∃cI:List UInt8,∃kZ:List UInt8,∃(kW:Option Addr) (kT kU:Nat),w4.cell? (Addr.mk gx 0 none)=some (.int .i64 cF)/\w4.cell? (Addr.mk gx 1 none)=some (.bool oW)/\w4.cell? (Addr.mk gx 2 none)=some (.string (S jN))/\w4.cell? (Addr.mk gx 3 none)=some (.string (S cI))/\w4.cell? (Addr.mk gx 4 none)=some (.string (S kZ))/\w4.cell? (Addr.mk gx 5 none)=some (.slice kW kT kU)/\cS (w4.alloc (.cells #[(.int .i64 cF),(.bool oW),(.string (S jN)),(.string (S cI)),(.string (S kZ)),(.slice kW kT kU)] 51)) (λ(w5:World)=>dA w5 51 6 88 l lL lC (some (Addr.mk w4.heap.size 0 none)) 1 (λ(p:Option Addr) (cp:Nat) (w6:World)=>R (.returned (.slice p (lL+1) cp)) w6))
def ao_{w1:World}{gx B:Nat}{l:List Pt}{p:Option Addr}{c:Nat}{x:Pt}{wp:Option Addr}{wc:Nat}{R:Ending->World->Prop}(r1:Row w1 gx 51 ⟨h_ x (.slice wp x.w.length wc)⟩)(ho:iB w1 B l (.slice p l.length c))(hB:B<=w1.heap.size)
  (hw:cv w1 (λk=>B<=k/\k<w1.heap.size/\(Value.slice p l.length c).ownBlock≠some k) x.w (.slice wp x.w.length wc))(hl:cz l+x.wt<1000000000)
  (hR:∀v' w',iB w' B (gh l x) v'->Mod (λk=>(Value.slice p l.length c).ownBlock=some k) w1 w'->(∀k,v'.ownBlock=some k->(Value.slice p l.length c).ownBlock=some k\/w1.heap.size<=k)->R (.returned v') w'):LN gx w1 p l.length c R:=by
 obtain⟨p',c',xs,hv,hown,hcs⟩:=ho;injection hv with hv1 _ AH;subst hv1 AH;have CD:=LD l;obtain⟨f0,f1,f2,f3,f4,f5⟩:=Gd (x:=x) r1;have sd:Still w1 w1.drew:=gV w1
 -- what stands behind is put in a new place
 have push:(∀y∈l.getLast?,¬Mg y x)->∀w4:World,w4=w1.drew->
   cS (w4.alloc (.cells ⟨h_ x (.slice wp x.w.length wc)⟩ 51)) (λw5=>dA w5 51 6 88 p l.length c (some (Addr.mk w4.heap.size 0 none)) 1 (λp' cp w6=>R (.returned (.slice p' (l.length+1) cp)) w6)):=by
  rintro hno _ rfl;have Ul:gh l x=l++[x]:=by
   by_cases hl:l=[]
   .subst hl;rfl
   .obtain⟨m,y,rfl⟩:=LC hl
    rw[Lc,aL (show¬(x.k=0/\y.k=0/\y.q=x.q)from hno y (by simp))]
  refine aP λw5 r5 s5 z5=>?_;have od:=sd.trans s5;refine qq (hown.still od) (by have:=od.size;omega) (h_ x (.slice wp x.w.length wc)) rfl (abz rfl) (λ_=>⟨_,rfl,λj u hu=>?_⟩) (by omega) (by omega) λp' c' w6 yS k5 hbk=>?_
  .rw[bR,cE]
   exact r5.aj hu
  .have UG:Mod (λk=>(Value.slice p l.length c).ownBlock=some k) w1 w6:=Mod.trans od k5 (λ_ h=>h.elim) (λ_ _ h=>h)
   have VM:w1.heap.size<=w5.heap.size:=od.size;have afD:∀k,(Value.slice p' (l.length+1) c').ownBlock=some k->(Value.slice p l.length c).ownBlock=some k\/w5.heap.size<=k:=by
    intro k hk;rcases hbk.own (n:=l.length)with e|e
    .exact .inl (by rw[<-e];exact hk)
    .rw[hk]at e
     obtain rfl:=bM e;exact .inr (aW _)
   refine hR _ _ ?_ UG λk hk=>(afD k hk).imp_right λh=>by omega
   rw[Ul];refine⟨p',c',_,by rw[aIa];rfl,by rw[aIa];exact yS,?_⟩;have tr:∀{y:List Pt} {u:Value},cv w1 (λk=>B<=k/\k<w1.heap.size/\(Value.slice p l.length c).ownBlock≠some k) y u->cv w6 (λk=>B<=k/\k<w6.heap.size/\(Value.slice p' (l.length+1) c').ownBlock≠some k) y u:=by
    intro y u h;refine(h.mod UG λk hk=>hk.2.2).mono λk hk=>⟨hk.1,mK hk.2.1 UG.size,λe=>?_⟩;rcases afD k e with e|e
    .exact hk.2.2 e
    .omega
   exact(hcs.dV tr).snoc (tr hw)
 by_cases hl0:l=[]
 .subst hl0
  have e1:i64.wrap ((((([]:List Pt).length:Nat):Int):Int)-1)= -1:=by decide
  unfold LN;rw[e1];refine⟨λw4=>w4=w1.drew,⟨λb w2=>b=false/\w2=w1.drew,aB (λh=>absurd h (by decide)) (λ_=>⟨rfl,rfl⟩),?_⟩,?_⟩
  .rintro _ _ w2 ⟨rfl,rfl⟩
   exact rfl
  .rintro _ _ rfl
   obtain⟨f0,f1,f2,f3,f4,f5⟩:=Gd (x:=x) (r1.still (gV w1));exact⟨_,_,_,_,_,_,_,_,f0,f1,f2,f3,f4,f5,push (by simp) _ rfl⟩
 .obtain⟨m,y,rfl⟩:=LC hl0
  have hlen:(m++[y]).length=m.length+1:=by simp
  obtain⟨ys,vy,hxs,hcm,hvy⟩:=hcs.last;have NI:ys.length=m.length*6:=hcm.len;obtain⟨g,cap,he,hgB,rS,hcap,hcell⟩:=hown.wz (by omega);injection he with e1 e2 e3;subst e1 e3;have e1:i64.wrap ((((m++[y]).length:Nat):Int)-1)=(m.length:Int):=by rw[hlen,wrap_i64 (by omega) (by omega)];omega
  have Ue:∀(w':World),Still w1 w'->∀j u,(h_ y vy)[j]?=some u->w'.cell? (((Addr.mk g 0 none).add (m.length*6)).add j)=some u:=by intro w' hs j u hu;rw[rH,bR,cE];refine hs.cell (hcell _ _ ?_);rw[hxs,zg (by rw[NI];omega),NI,aLa];exact hu
  have a0:∀a:Addr,a.add 0=a:=by intro a;unfold Addr.add;simp
  have y0:=Ue w1 (Still.refl _) 0 _ rfl;rw[a0]at y0;unfold LN;rw[e1];refine⟨λw4=>w4=w1.drew/\¬Mg y x,⟨λb w2=>(b=true↔Mg y x)/\w2=w1.drew,aB (λ_=>⟨x.k,f0,aB (λhk=>?_) (λhk=>⟨?_,rfl⟩)⟩) (λh=>absurd (a_ h) (by omega)),?_⟩,?_⟩
  .have hk:x.k=0:=aT hk
   refine⟨by omega,by omega,y.k,by rw[bT];exact y0,aB (λhy=>?_) (λhy=>⟨?_,rfl⟩)⟩
   .have hy:y.k=0:=aT hy
    refine⟨by omega,by omega,y.q,by rw[bT];exact Ue w1 (Still.refl _) 1 _ rfl,x.q,f1,?_,rfl⟩;rw[kQ];exact⟨λe=>⟨hk,hy,e⟩,λe=>e.2.2⟩
   .have hy:¬y.k=0:=a_ hy
    exact⟨λe=>(by cases e),λe=>absurd e.2.1 hy⟩
  .have hk:¬x.k=0:=a_ hk
   exact⟨λe=>(by cases e),λe=>absurd e.1 hk⟩
  .rintro b _ w2 ⟨hb,rfl⟩
   refine aB (λh=>?_) (λh=>?_)
   .have hm:=hb.1 h
    have f2':=(r1.still ((gV w1).trans (gV w1.drew))).aj (i:=2) rfl;have hty:=Gc m [y];rw[aLJ,y.uR]at hty;have hx2:=x.uR;refine⟨λwq=>wq=w1.drew.drew,rfl,by omega,by omega,y.t,?_,x.t,?_,by omega,by omega,by omega,?_⟩
    .rintro wq rfl
     rw[bT];exact Ue _ (sd.trans (gV w1.drew)) 2 _ rfl
    .rintro wq rfl
     exact f2'
    .rw[bT,Z4,rH]
     have so:Still w1 w1.drew.drew:=sd.cK;refine aV.store (hown.still so) (by omega) rfl λw' ho' hm' Ny=>hR _ _ ?_ ?_ λk hk=>.inl hk
     .rw[Lc,aR (show x.k=0/\y.k=0/\y.q=x.q from hm)]
      have hset:xs.set (m.length*6+2) (.string (S (y.t++x.t)))=ys++h_ (.mk y.k y.q (y.t++x.t) y.n y.o y.w) vy:=by rw[hxs,C4 _ _ (by rw[NI];omega),NI,aLa];rfl
      rw[hset]at ho';have hmo:Mod (λk=>k=g) w1 w':=Mod.trans so hm' (λ_ h=>h.elim) (λ_ _ h=>h);have tr:∀{z:List Pt} {u:Value},cv w1 (λk=>B<=k/\k<w1.heap.size/\(Value.slice (some ⟨g,0,none⟩) (m++[y]).length c).ownBlock≠some k) z u->cv w' (λk=>B<=k/\k<w'.heap.size/\(Value.slice (some ⟨g,0,none⟩) (m++[y]).length c).ownBlock≠some k) z u:=by intro z u h;refine(h.mod hmo λk hk e=>hk.2.2 (by rw[e];simp[Value.ownBlock])).mono λk hk=>⟨hk.1,mK hk.2.1 hmo.size,hk.2.2⟩
      have afE:(m++[Pt.mk y.k y.q (y.t++x.t) y.n y.o y.w]).length=(m++[y]).length:=by simp
      exact⟨some ⟨g,0,none⟩,c,_,by rw[afE],by rw[afE];exact ho',(hcm.dV tr).snoc (tr hvy)⟩
     .exact Mod.trans so hm' (λ_ h=>h.elim) (λk _ e=>by rw[e];simp[Value.ownBlock])
   .exact⟨rfl,λhm=>by rw[hb.2 hm]at h;cases h⟩
  .rintro _ _ ⟨rfl,hno⟩
   obtain⟨f0,f1,f2,f3,f4,f5⟩:=Gd (x:=x) (r1.still (gV w1));exact⟨_,_,_,_,_,_,_,_,f0,f1,f2,f3,f4,f5,push (by simpa using hno) _ rfl⟩
def GB{B:Nat}{l:List Pt}{v:Value}{x:Pt}{vw:Value}(ho:iB w B l v)(hB:B<=w.heap.size)(hw:cv w (λk=>B<=k/\k<w.heap.size/\v.ownBlock≠some k) x.w vw)(hl:cz l+x.wt<1000000000):
  aH3 KR #[v,Es x vw] w (λe w'=>∃v',e=.returned v'/\iB w' B (gh l x) v'/\Mod (λk=>v.ownBlock=some k) w w'/\∀k,v'.ownBlock=some k->v.ownBlock=some k\/w.heap.size<=k):=by
 have ho':=ho;obtain⟨p,c,xs,rfl,hown,hcs⟩:=ho;obtain⟨wp,wc,rfl⟩:=hw.form;refine aob _ _ _ _ _ _ _ _ _ _ _ _ _ ?_;refine aP λw1 r1 s1 z1=>?_;have key:LN w.heap.size w1 p l.length c (λe w'=>∃v',e=.returned v'/\iB w' B (gh l x) v'/\Mod (λk=>(Value.slice p l.length c).ownBlock=some k) w w'/\∀k,v'.ownBlock=some k->(Value.slice p l.length c).ownBlock=some k\/w.heap.size<=k):=
  ao_ (x:=x) r1 (ho'.still s1) (by omega) ((hw.still s1).mono λk hk=>⟨hk.1,by omega,hk.2.2⟩) hl λv' w' h1 h2 h3=>⟨v',rfl,h1,Mod.trans s1 h2 (λ_ h=>h.elim) (λ_ _ h=>h),λk hk=>(h3 k hk).imp_right λh=>by omega⟩
 exact key
end Go.Proofs.YtihaaoehhgmphaaGreatDoor.L
namespace Go.Proofs.YtihaaoehhgmphaaGreatDoor
open IntKind Go.RowKit Vc
set_option maxRecDepth 100000
variable{w w0:World}
def zG{fn:FuncId}{cap:List Value}{K:FuncId->List Value->List Value->Prop}(h:K fn [] cap):gN (.func (.func fn) #[] ⟨cap⟩) K:=h
def TR(f:FuncId)(cap:List Value)(w0:World)(S:Nat->Prop)(P:ag->Bool)(l:List ag):Prop:=
 dP aM f=true/\∀x∈l,∀w,Mod S w0 w->aH3 f ⟨.string (S' x)::cap⟩ w λe w'=>e=.returned (.bool (P x))/\Still w w'
where S' (x:ag):ByteArray:=Go.Proofs.YtihaaoehhgmphaaGreatDoor.Vc.S x
def acM{l:List ag}{j:Nat}(hj:j<l.length):(bI l)[j]?=some (.string (S l[j])):=by simp[bI,hj]
def aV.aKq{B:Nat}{p:Option Addr}{c:Nat}{l:List ag}(h:aV w B b6 1 (.slice p l.length c) l.length (bI l)){j:Nat}(hj:j<l.length):∃g,p=some ⟨g,0,none⟩/\w.cell? ((Addr.mk g 0 none).add (j*1))=some (.string (S l[j])):=by obtain⟨g,cap,cur,hv,_⟩:=h.row (by omega);injection hv with e1 e2 e3;subst e1;refine⟨g,rfl,?_⟩;rw[bR,cE,eX];exact h.cells rfl j _ (acM hj)
def aoi{B:Nat}{p:Option Addr}{c:Nat}{l:List ag}{f:FuncId}{cap:List Value}{S:Nat->Prop}{P:ag->Bool}(hl:l.length<=1000000)(h:aV w B b6 1 (.slice p l.length c) l.length (bI l))(hf:TR f cap w S P l):
  aH3 Ff #[.slice p l.length c,.func (.func f) #[] ⟨cap⟩] w λe w'=>∃r:Int,e=.returned (.int .i64 r)/\Still w w'/\((r= -1/\∀x∈l,P x=false)\/∃k:Nat,k<l.length/\r=(k:Int)/\(∀x∈l.take k,P x=false)/\∃x,l[k]?=some x/\P x=true):=by
 refine Xh _ _ _ _ _ _ ?_;refine⟨λi w1=>0<=i/\i<=(l.length:Nat)/\Still w w1/\∀x∈l.take i.toNat,P x=false,λi _=>(l.length-i).toNat,⟨by decide,by omega,Still.refl _,λx hx=>by simp at hx⟩,?_⟩;rintro i _ w1 ⟨i1,i2,s1,hno⟩;refine aB (λhi=>?_) (λhi=>?_)
 .have hi:i<(l.length:Nat):=by simpa using hi
  have hj:i.toNat<l.length:=by omega
  obtain⟨g,rfl,hc⟩:=(h.still s1).aKq hj;refine⟨i1,hi,_,hc,zG (aB (λ_=>?_) (λh=>by rw[hf.1]at h;cases h))⟩;refine(hf.2 l[i.toNat] (ou hj) w1 (s1.weaken λ_ h=>h.elim)).mono ?_;rintro _ w2 ⟨rfl,s2⟩;refine .inl ⟨_,rfl,aB (λhb=>?_) (λhb=>?_)⟩
  .exact⟨i,rfl,s1.trans s2,.inr ⟨i.toNat,hj,by omega,hno,_,gJ hj,hb⟩⟩
  .rw[wrap_i64 (by omega) (by omega)]
   refine⟨⟨by omega,by omega,s1.trans s2,λx hx=>?_⟩,by dsimp only;omega⟩;rw[show(i+1).toNat=i.toNat+1 by omega,ze hj,aIL]at hx;rcases hx with hx|hx
   .exact hno x hx
   .obtain rfl:=aIA.1 hx
    exact hb
 .have hi:¬i<(l.length:Nat):=by simpa using hi
  refine⟨-1,rfl,s1,.inl ⟨rfl,λx hx=>hno x ?_⟩⟩;rw[vK (by omega)];exact hx
def au1:Tryz.prog.underlying Dv=some (.slice b6):=rfl
def aq_(n:Nat):(Builtin.zeroCells (Value.string (S [])).cells n).toList=List.replicate n (.string (S [])):=by
 have:(Value.string (S [])).cells=#[.string (S [])]:=rfl;rw[this];simp[Builtin.zeroCells];apply List.ext_getElem
 .simp
 .intro i h1 h2
  simp[Nat.mod_one]
def asT{g o n c:Nat}{t:TypeId}{cs:List Value}{w:World}{K:World->Prop}(hn:0<n)(hr:Row w g t ⟨cs⟩)(hl:o+n<=cs.length)
  (h:∀w',Row w' g t ⟨fR cs o (List.replicate n (.string (S [])))⟩->Mod (λk=>k=g) w w'->w'.heap.size=w.heap.size->K w'):LV aM Dv (.slice (some ⟨g,o,none⟩) n c) w K:=by
 have:=aH5 (g:=g) (o:=o) (vs:=List.replicate n (.string (S []))) hr (by simpa using hl) (λv hv=>by rw[List.eq_of_mem_replicate hv];rfl) (K:=λw'=>Row w' g t ⟨fR cs o (List.replicate n (.string (S [])))⟩/\Mod (λk=>k=g) w w'/\w'.heap.size=w.heap.size) λw' a b c=>⟨a,b,c⟩;obtain⟨w',h1,h2,h3,h4⟩:=ZB (P:=aM) this;refine⟨w',λty=>?_,h w' h2 h3 h4⟩;have hz:∀w,(zeroValue b6).run aM w=.ok (.string (S [])) w:=acI;obtain⟨m,rfl⟩:∃m,n=m+1:=⟨n-1,by omega⟩;simp[Builtin.clear_,run_underlying au1,hz,aq_,h1,Result.andThen]
def YZ{B:Nat}{p:Option Addr}{c:Nat}{l:List ag}{f:FuncId}{cap:List Value}{P:ag->Bool}(hl:l.length<=1000000)(h:aV w B b6 1 (.slice p l.length c) l.length (bI l))(hf:TR f cap w (λk=>(Value.slice p l.length c).ownBlock=some k) P l):
  aH3 Jv #[.slice p l.length c,.func (.func f) #[] ⟨cap⟩] w λe w'=>e=.returned (.slice p (l.filter λx=>!P x).length c)/\aV w' B b6 1 (.slice p (l.filter λx=>!P x).length c) (l.filter λx=>!P x).length (bI (l.filter λx=>!P x))/\Mod (λk=>(Value.slice p l.length c).ownBlock=some k) w w':=by
 refine ajx _ _ _ _ _ _ ?_;refine(aoi hl h hf).mono ?_;rintro _ w1 ⟨r,rfl,s1,⟨rfl,hno⟩|⟨k,hk,rfl,hno,y,hy,hP⟩⟩
 .refine .inl ⟨_,rfl,aB (λ_=>?_) (λhb=>absurd rfl (a_ hb))⟩
  have e:l.filter (λx=>!P x)=l:=Fq.2 λx hx=>by rw[hno x hx];rfl
  rw[e];exact⟨rfl,h.still s1,s1.weaken λ_ h=>h.elim⟩
 .refine .inl ⟨_,rfl,aB (λhb=>absurd (aT hb) (by omega)) (λ_=>?_)⟩
  obtain⟨g,rfl,_⟩:=h.aKq hk;have e0:(l.take (k+1)).filter (λx=>!P x)=l.take k:=by rw[Fz,hy];simp only[Option.toList_some,X3];rw[Fq.2 λx hx=>by rw[hno x hx];rfl];simp[hP]
  refine⟨λi j w2=>∃m:List ag,m.length=l.length/\aV w2 B b6 1 (.slice (some ⟨g,0,none⟩) l.length c) l.length (bI m)/\0<=i/\i<j/\j<=(l.length:Nat)/\m.take i.toNat=(l.take j.toNat).filter (λx=>!P x)/\i.toNat=((l.take j.toNat).filter (λx=>!P x)).length/\m.drop j.toNat=l.drop j.toNat/\Mod (λk=>k=g) w w2,λ_ j _=>(l.length-j).toNat,?_,?_⟩
  .rw[wrap_i64 (by omega) (by omega)]
   refine⟨l,rfl,h.still s1,by omega,by omega,by omega,?_,?_,rfl,s1.weaken λ_ h=>h.elim⟩
   .rw[show((k:Int)+1).toNat=k+1 by omega,show(k:Int).toNat=k by omega,e0]
   .rw[show((k:Int)+1).toNat=k+1 by omega,show(k:Int).toNat=k by omega,e0,eH]
    omega
  rintro i j _ w2 ⟨m,hm,o2,i1,i2,i3,t1,t2,t3,m2⟩;refine aB (λhj=>?_) (λhj=>?_)
  .have hj:j<(l.length:Nat):=by simpa using hj
   have hjl:j.toNat<l.length:=by omega
   have hcell:w2.cell? ((Addr.mk g 0 none).add (j.toNat*1))=some (.string (S l[j.toNat])):=by
    have o2':aV w2 B b6 1 (.slice (some ⟨g,0,none⟩) m.length c) m.length (bI m):=by rw[hm];exact o2
    obtain⟨g',e,hc⟩:=o2'.aKq (j:=j.toNat) (by omega);injection e with e;injection e with e;subst e;rw[hc];have e2:m[j.toNat]?=l[j.toNat]?:=by have:=gK (λz=>z[0]?) t3;simpa[Bl]using this
    rw[gJ (by omega),gJ hjl]at e2;rw[bM e2]
   refine⟨by omega,hj,_,hcell,zG (aB (λ_=>?_) (λh=>by rw[hf.1]at h;cases h))⟩;refine(hf.2 l[j.toNat] (ou hjl) w2 (m2.weaken λk hk=>by rw[hk];rfl)).mono ?_;rintro _ w3 ⟨rfl,s3⟩;have m3:Mod (λk=>k=g) w w3:=Mod.trans m2 s3 (λ_ h=>h) (λ_ _ h=>h.elim);have ts:(l.take (j+1).toNat).filter (λx=>!P x)=(l.take j.toNat).filter (λx=>!P x)++(if P l[j.toNat]then[]else[l[j.toNat]]):=by rw[show(j+1).toNat=j.toNat+1 by omega,ze hjl,X3];congr 1;rw[PU,List.filter_nil];cases hq:P l[j.toNat]<;>rfl
   refine .inl ⟨_,rfl,aB (λhb=>?_) (λhb=>?_)⟩
   .have hb:P l[j.toNat]=false:=by simpa using hb
    refine⟨i1,by omega,?_⟩;rw[eX];refine aV.store (o2.still s3) (by omega) rfl λw4 o4 m4 z4=>?_;rw[wrap_i64 (by omega) (by omega),wrap_i64 (by omega) (by omega)];have hit:i.toNat<m.length:=by omega
    have d1:((l.take j.toNat).filter (λx=>!P x)++[l[j.toNat]]).length=i.toNat+1:=by simp;omega
    refine⟨⟨m.set i.toNat l[j.toNat],by simpa using hm,?_,by omega,by omega,by omega,?_,?_,?_,Mod.trans m3 m4 (λ_ h=>h) (λ_ _ h=>h)⟩,by dsimp only;omega⟩
    .have:bI (m.set i.toNat l[j.toNat])=(bI m).set i.toNat (.string (S l[j.toNat])):=by simp[bI,Qw]
     rw[this];exact o4
    .rw[ts,hb,show(i+1).toNat=i.toNat+1 by omega,ze (by simpa using hit),List.take_set_of_le (aW _),t1]
     simp
    .rw[ts,hb]
     simp only[kP,iR];omega
    .rw[List.drop_set_of_lt (by omega),show(j+1).toNat=j.toNat+1 by omega,<-Dh,t3,Dh]
   .have hb:P l[j.toNat]=true:=by simpa using hb
    rw[wrap_i64 (by omega) (by omega)];refine⟨⟨m,hm,o2.still s3,i1,by omega,by omega,?_,?_,?_,m3⟩,by dsimp only;omega⟩
    .rw[ts,hb,t1];simp
    .rw[ts,hb];simpa using t2
    .rw[show(j+1).toNat=j.toNat+1 by omega,<-Dh,t3,Dh]
  .have hj:¬j<(l.length:Nat):=by simpa using hj
   have hjl:j.toNat=l.length:=by omega
   rw[hjl,vK (aW _)]at t1 t2;have hc:l.length<=c:=aV.afC o2;refine⟨i1,by omega,?_⟩;rw[aL (by omega)];obtain⟨g',cap',cur,hv,hB,hr,Ni,hsz,ht⟩:=o2.row (by omega);injection hv with e1 e2 e3;injection e1 with e1;injection e1 with e1;subst e1 e3;have hcap:c<=maxLen:=by
    rcases o2.2 with⟨e,_⟩|⟨g2,cap2,aGB,e,_,_,_,hm,_⟩
    .cases e
    .injection e with e1 e2 e3;omega
   have hr':Row w2 g b6 ⟨cur.toList⟩:=by simpa using hr
   have hlen:cur.toList.length=c:=by simpa using hsz
   rw[eX]at ht;show LV aM Dv (.slice (some ((Addr.mk g 0 none).add (i.toNat*1))) _ _) _ _
   rw[bR,cE,eX];refine asT (by omega) hr' (by omega) λw3 r3 m3 z3=>⟨i1,by omega,?_⟩;rw[acJ _ _ _ (by simp;omega)]at r3;refine⟨by rw[t2],⟨by simp[bI],.inr ⟨g,c,_,rfl,hB,r3,by omega,hcap,?_,?_⟩⟩,Mod.trans m2 m3 (λk hk=>by rw[hk];rfl) (λk _ hk=>by rw[hk];rfl)⟩
   .simp only[xz,aIa,eH,jx,OZ,hlen]
    omega
   .rw[eX,<-t2]
    rw[mL,Xm (by simp;omega),Qe,Nat.min_self,<-t1];have:(bI m).take i.toNat=bI (m.take i.toNat):=by simp[bI,List.map_take]
    rw[<-this,<-ht,Qe,vR (by omega)]
structure fN(w:World):Prop where
 env:Env w
 max:∃m:Int,w.cell? ⟨0,0,none⟩=some (.int .i64 m)
def fN.still{w':World}(h:fN w)(hm:Still w w'):fN w':=⟨h.env.still hm,by obtain⟨m,h2⟩:=h.max;exact⟨m,hm.cell h2⟩⟩
def lX(s sep:ag):List ag:=Lib.split s sep
def aaG(s sep:ag):(Lib.splitB (S sep) 0 (Lib.countB (S s) (S sep)) (S s)).map Value.string=bI (lX s sep):=by
 have h:=Lib.splitB_data (S sep) 0 (Lib.countB (S s) (S sep)) (S s);have e:lX s sep=Lib.splitK sep 0 (Lib.countB (S s) (S sep)) s:=rfl;rw[e,bI];have h2:(Lib.splitB (S sep) 0 (Lib.countB (S s) (S sep)) (S s))=(Lib.splitK sep 0 (Lib.countB (S s) (S sep)) s).map S:=by
  have:∀l:List ByteArray,l=(l.map (·.data.toList)).map S:=λl=>by
   rw[Dm]
   conv=>lhs;rw[<-List.map_id l]
   apply List.map_congr_left;intro b _;rfl
  rw[this (Lib.splitB _ _ _ _),h]
 rw[h2,Dm];rfl
def K4(s sep:ag)(h:sep≠[]):(lX s sep).length=Lib.countB (S s) (S sep)+1/\(lX s sep).length<=s.length+1:=by have h1:1<=(S sep).size:=mJ.2 h;have e:=gK List.length (aaG s sep);have e2:=Lib.splitB_all (S sep) h1 0 _ (S s) rfl;have e3:=Lib.countB_le (S sep) h1 _ (S s) (aW _);have e4:(S s).size=s.length:=rfl;simp only[aIB,bI]at e;omega
def Ge(he:fN w){s sep:ag}(hs:s.length<=900000)(hsep:sep≠[]):aH3 Kk #[.string (S s),.string (S sep)] w (λe w'=>∃p c,e=.returned (.slice p (lX s sep).length c)/\aV w' w.heap.size b6 1 (.slice p (lX s sep).length c) (lX s sep).length (bI (lX s sep))/\Still w w'):=by obtain⟨m,hm⟩:=he.max;obtain⟨l1,l2⟩:=K4 s sep hsep;refine(Tryz.strings_Split (S s) (S sep) m w (by show s.length<_;omega) hm (mJ.2 hsep)).mono ?_;rintro _ w' ⟨rfl,rfl⟩;refine⟨_,_,by rw[l1],?_,(Mod.refl _ _).alloc _⟩;rw[aaG];have r:=Row.new w b6 (bI (lX s sep)).toArray;refine⟨by simp[bI],.inr ⟨w.heap.size,_,_,by rw[l1],aW _,r,by omega,?_,by simp[bI,l1],by rw[eX];exact vK (by simp[bI])⟩⟩;simp only[maxLen];omega
def acN(x:ag):Bool:=decide (x=[])
def G0(path:ag):List ag:=(lX path [47]).filter λx=>!acN x
def anx:dP aM Qi=true:=by kernel_rfl
def apa(he:fN w){path:ag}(hs:path.length<=1000):aH3 QE #[.string (S path)] w (λe w'=>∃p c,e=.returned (.slice p (G0 path).length c)/\aV w' w.heap.size b6 1 (.slice p (G0 path).length c) (G0 path).length (bI (G0 path))/\Still w w'):=by
 refine am0 _ _ _ ?_;refine(Ge he (by omega) (by decide)).mono ?_;rintro _ w1 ⟨p,c,rfl,ho,s1⟩;have hl:=(K4 path [47] (by decide)).2;refine .inl ⟨_,_,_,rfl,(YZ (P:=acN) (cap:=[]) (by omega) ho ⟨anx,λx _ w _=>?_⟩).mono ?_⟩
 .refine amm _ _ _ ?_
  exact⟨rfl,Still.refl _⟩
 .rintro _ w2 ⟨rfl,o2,m2⟩
  exact .inl ⟨_,_,_,rfl,p,c,rfl,o2,s1.own ho (aW _) m2⟩
def nP(b:Bool)(x:Int)(hb:b=true):aH3 j6 #[.bool b,.int .i64 x] w (λe w'=>e=.returned (.tuple #[])/\w'=w):=by subst hb;refine anM _ _ _ _ ?_;exact aB (λh=>by cases h) (λ_=>⟨rfl,rfl⟩)
abbrev UH:TypeId:=186
abbrev yu:TypeId:=374
abbrev iC(w:World)(pb a:Nat):Prop:=Row w pb UH ⟨[.pointer (some ⟨a,0,none⟩),.string (S []),.int .i64 0]⟩
def aKY{a:Nat}{um:Int}(hu:um=0):aH3 vW #[.pointer (some ⟨a,0,none⟩),.string (S []),.int .i64 um] w (λe w'=>e=.returned (.pointer (some ⟨w.heap.size,0,none⟩))/\iC w' w.heap.size a/\Still w w'/\w'.heap.size=w.heap.size+1):=by
 subst hu;refine an9 _ _ _ _ _ ?_;refine aP λw1 r1 s1 z1=>?_;have:bits .and .i64 0 7=0:=by decide
 rw[this]at r1;exact⟨rfl,r1,s1,z1⟩
section
variable{a g n:Nat}{tr:Option Tb}{T:Tree}
def RF.new(h:cQ w w0.heap.size a g tr n T){k:Nat}(hk:w.heap.size<=k):¬RF tr k:=λhr=>by have:=(h.me (RF.sf (a:=a) (g:=g) hr)).2;omega
def awj(he:Env w0)(h0:Still w0 w)(h:cQ w w0.heap.size a g tr n T){p:ag}(hp:p.length<=1000){Sw:World->Prop}{xJ:Option Addr->World->Prop}{R:List PanicEntry->World->Prop}
  (EF:∀w',Mod (RF tr) w w'->Sw w')(hJ:∀b w',w.heap.size<=b->Row w' b qp ⟨u0 (ij T p)⟩->cQ w' w0.heap.size a g tr (n+1) T->Mod (RF tr) w w'->xJ (some ⟨b,0,none⟩) w'):
  aH3 qm #[.pointer (some ⟨a,0,none⟩),.string (S p)] w (λed w1=>(∃aIb:Int,∃gz:Int,∃gA:List UInt8,ed=.returned (.agg #[(.int .i64 aIb),(.int .i64 gz),(.string (S gA))])/\cS (w1.alloc (.cells #[(.int .i64 0),(.int .i64 0),(.string (S ([]:List UInt8)))] qp)) (λ(w2:World)=>Sw w2/\cJ (Addr.mk w1.heap.size 0 none) (λ(w3:World)=>xJ (some (Addr.mk w1.heap.size 0 none)) w3) 0 [(.int .i64 aIb),(.int .i64 gz),(.string (S gA))] w2))\/(∃ch,ed=.panicked ch/\R ch w1)):=by
 refine(Tf he h0 h hp).mono ?_;rintro _ w1 ⟨rfl,h1,m1⟩;refine .inl ⟨_,_,_,rfl,aP λw2 r2 s2 z2=>?_⟩;have m2:Mod (RF tr) w w2:=Mod.trans m1 s2 (λ_ h=>h) (λ_ _ h=>h.elim);refine⟨EF _ m2,aH5 (g:=w1.heap.size) (o:=0) r2 (by simp) (by simp[Value.oneCell']) λw3 r3 m3 z3=>?_⟩;refine hJ _ _ m1.size r3 ((h1.still s2).mod m3 λk hk e=>?_) (Mod.trans m2 m3 (λ_ h=>h) λi hi e=>?_)
 .have:=(h1.me hk).2;omega
 .have:=m1.size;omega
def adT(he:Env w0)(h0:Still w0 w)(h:cQ w w0.heap.size a g tr n T){p:ag}(hp:p.length<=1000){xJ:Option Addr->World->Prop}{R:List PanicEntry->World->Prop}{b:Nat}{cs:List Value}(hb:Row w b qp ⟨cs⟩)(hl:cs.length=3)(hn:∀k,SF a g tr k->k≠b)
  (hJ:∀w',Row w' b qp ⟨u0 (ij T p)⟩->cQ w' w0.heap.size a g tr (n+1) T->Mod (λk=>RF tr k\/k=b) w w'->xJ (some ⟨b,0,none⟩) w'):
  aH3 qm #[.pointer (some ⟨a,0,none⟩),.string (S p)] w (λed w1=>(∃aIb:Int,∃gz:Int,∃gA:List UInt8,ed=.returned (.agg #[(.int .i64 aIb),(.int .i64 gz),(.string (S gA))])/\cJ (Addr.mk b 0 none) (λ(w6:World)=>xJ (some (Addr.mk b 0 none)) w6) 0 [(.int .i64 aIb),(.int .i64 gz),(.string (S gA))] w1)\/(∃ch,ed=.panicked ch/\R ch w1)):=by
 refine(Tf he h0 h hp).mono ?_;rintro _ w1 ⟨rfl,h1,m1⟩;have jg:=hb.mod m1 (λhr=>hn _ (RF.sf hr) rfl);refine .inl ⟨_,_,_,rfl,aH5 (g:=b) (o:=0) jg (by simp[hl]) (by simp[Value.oneCell']) λw3 r3 m3 z3=>?_⟩;have e:fR cs 0 [Value.int .i64 (ij T p).k,Value.int .i64 (ij T p).m,Value.string (S (ij T p).d)]=u0 (ij T p):=by
  obtain⟨x,y,z,rfl⟩:∃x y z,cs=[x,y,z]:=by
   match cs,hl with
   |[x,y,z],_=>exact⟨x,y,z,rfl⟩
  rfl
 rw[e]at r3;exact hJ _ r3 (h1.mod m3 λk hk e=>hn k hk e) (Mod.trans m1 m3 (λ_ h=>.inl h) λi hi e=>.inr e)
def Ask(w w0:World)(a g n:Nat)(tr:Option Tb)(T:Tree)(p:ag)(ex:Option Addr)(w':World):Prop:=∃b,ex=some ⟨b,0,none⟩/\w.heap.size<=b/\Row w' b qp ⟨u0 (ij T p)⟩/\cQ w' w0.heap.size a g tr (n+1) T/\Mod (RF tr) w w'
def Ask.pre{v:World}(hs:Still v w){p:ag}{ex:Option Addr}{w':World}(h:Ask w w0 a g n tr T p ex w'):Ask v w0 a g n tr T p ex w':=by obtain⟨b,h1,h2,h3,h4,h5⟩:=h;exact⟨b,h1,lH hs.size h2,h3,h4,Mod.trans hs h5 (λ_ h=>h.elim) (λ_ _ h=>h)⟩
def Tg(he:Env w0)(h0:Still w0 w)(h:cQ w w0.heap.size a g tr n T){p:ag}(hp:p.length<=1000){v:World}(hv:Still v w){Sw:World->Prop}{R R':List PanicEntry->World->Prop}
  (EF:∀w',Mod (RF tr) w w'->Sw w'):
  (aH3 qm #[.pointer (some ⟨a,0,none⟩),.string (S p)] w (λed w1=>(∃aIb:Int,∃gz:Int,∃gA:List UInt8,ed=.returned (.agg #[(.int .i64 aIb),(.int .i64 gz),(.string (S gA))])/\cS (w1.alloc (.cells #[(.int .i64 0),(.int .i64 0),(.string (S ([]:List UInt8)))] qp)) (λ(w2:World)=>Sw w2/\cJ (Addr.mk w1.heap.size 0 none) (λ(w3:World)=>Ask v w0 a g n tr T p (some (Addr.mk w1.heap.size 0 none)) w3) 0 [(.int .i64 aIb),(.int .i64 gz),(.string (S gA))] w2))\/(∃ch,ed=.panicked ch/\R ch w1)))/\
  (cS (w.alloc (.cells #[(.int .i64 0),(.int .i64 0),(.string (S ([]:List UInt8)))] qp)) (λ(w4:World)=>Sw w4/\aH3 qm #[.pointer (some ⟨a,0,none⟩),.string (S p)] w4 (λed w1=>(∃aIb:Int,∃gz:Int,∃gA:List UInt8,ed=.returned (.agg #[(.int .i64 aIb),(.int .i64 gz),(.string (S gA))])/\cJ (Addr.mk w.heap.size 0 none) (λ(w6:World)=>Ask v w0 a g n tr T p (some (Addr.mk w.heap.size 0 none)) w6) 0 [(.int .i64 aIb),(.int .i64 gz),(.string (S gA))] w1)\/(∃ch,ed=.panicked ch/\R' ch w1)))):=by
 refine⟨awj (xJ:=Ask v w0 a g n tr T p) he h0 h hp EF (λb w' hb hr h1 m1=>Ask.pre hv ⟨b,rfl,hb,hr,h1,m1⟩),aP λw1 r1 s1 z1=>⟨EF _ (s1.weaken λ_ h=>h.elim),?_⟩⟩;refine adT (xJ:=Ask v w0 a g n tr T p) he (h0.trans s1) (h.still s1) hp r1 rfl (λk hk e=>by have:=(h.me hk).2;omega) λw2 r2 h2 m2=>Ask.pre hv ⟨_,rfl,aW _,r2,h2,Mod.trans s1 m2 (λ_ h=>h.elim) λi hi e=>?_⟩;rcases e with e|e
 .exact e
 .omega
def acO:ij T []=⟨2,7,[]⟩:=by simp[ij]
def ap1(he:Env w0)(h0:Still w0 w)(h:cQ w w0.heap.size a g tr n T){pb wb:Nat}(hp:iC w pb a){r:List Value}(hw:Row w wb yu ⟨.pointer (some ⟨pb,0,none⟩)::.string (S [])::r⟩)(hnp:¬RF tr pb)(CE:¬RF tr wb):
  aH3 PR #[.pointer (some ⟨wb,0,none⟩)] w (λe w'=>e=.returned (.tuple #[])/\cQ w' w0.heap.size a g tr (n+1) T/\Mod (RF tr) w w'):=by
 refine alx _ _ _ ?_;have sD:Still w w.drew:=(Still.refl w).cK;have hD:=h.still sD;have fin:∀wq,Mod (RF tr) w.drew wq->iC wq pb a/\Row wq wb yu ⟨.pointer (some ⟨pb,0,none⟩)::.string (S [])::r⟩:=λwq m=>⟨(hp.still sD).mod m hnp,(hw.still sD).mod m CE⟩;refine⟨Ask w w0 a g n tr T [],?_,?_⟩
 .refine⟨λwq=>iC wq pb a/\Row wq wb yu ⟨.pointer (some ⟨pb,0,none⟩)::.string (S [])::r⟩,fin _ (Mod.refl _ _),_,λwq hq=>hq.2.aj rfl,_,λwq hq=>hq.1.aj rfl,_,λwq hq=>hq.2.aj rfl,?_⟩
  exact Tg he (h0.trans sD) hD (p:=[]) (dx _) sD fin
 .rintro _ _ w1 ⟨b,rfl,hb,hr,h1,m1⟩
  rw[acO]at hr;refine⟨_,hr.aj rfl,(nP _ _ (by decide)).mono ?_⟩;rintro _ _ ⟨rfl,rfl⟩;refine .inl ⟨rfl,_,hr.aj rfl,(nP _ _ (by decide)).mono ?_⟩;rintro _ _ ⟨rfl,rfl⟩;refine .inl ⟨rfl,_,hr.aj rfl,(nP _ _ (by decide)).mono ?_⟩;rintro _ _ ⟨rfl,rfl⟩;exact .inl ⟨rfl,rfl,h1,m1⟩
structure mg(path nm:ag):Prop where
 VR:G0 path=[nm]
 ne:path≠[]
 len:path.length<=200
 UI:nm.length<=32
 yQ:Lib.hasSuffix path [47]=false
 azr:nm≠[46,46]
def kD(nm:ag):ag:=if nm=[46]then[]else 47::nm
abbrev D_(pb:Nat)(at':ag)(p:Option Addr)(l c:Nat)(b:Bool):List Value:=[.pointer (some ⟨pb,0,none⟩),.string (S at'),.slice p l c,.int .i64 0,.bool b,.bool false]
def asU(he:Env w0)(h0:Still w0 w)(h:cQ w w0.heap.size a g tr n T){pb wb:Nat}(hp:iC w pb a){p:Option Addr}{c:Nat}{fo:Bool}{nm:ag}(hw:Row w wb yu ⟨D_ pb [] p 1 c fo⟩){B:Nat}(ho:aV w B b6 1 (.slice p 1 c) 1 (bI [nm]))(hnp:¬RF tr pb)(CE:¬SF a g tr wb)(V0:pb≠wb)(hwb:w0.heap.size<=wb)(hl:nm.length<=32)(hd:nm≠[46,46]):
  aH3 Qb #[.pointer (some ⟨wb,0,none⟩)] w (λe w'=>e=.returned (.tuple #[])/\cQ w' w0.heap.size a g tr (n+2) T/\(∃p' c',Row w' wb yu ⟨D_ pb (kD nm) p' 0 c' fo⟩)/\Mod (λk=>RF tr k\/k=wb) w w'):=by
 have ho':aV w B b6 1 (.slice p ([nm]:List ag).length c) ([nm]:List ag).length (bI [nm]):=ho;obtain⟨gs,rfl,hc⟩:=ho'.aKq (j:=0) (by simp);refine al3 _ _ _ ?_;refine⟨_,_,_,hw.aj rfl,by decide,by decide,_,hc,_,_,_,hw.aj rfl,by decide,by decide,?_⟩;refine aH5 (g:=wb) (o:=2) hw (by simp) (by simp[Value.oneCell']) λw1 r1 m1 z1=>?_;have h1:=h.mod m1 λk hk e=>CE (by rw[<-e];exact hk);have hp1:=hp.mod m1 V0;have UJ:¬RF tr wb:=λhr=>CE (RF.sf hr);have qP:Still w0 w1:=Mod.trans h0 m1 (λ_ h=>h) λi hi e=>by omega
 refine(ap1 he qP h1 hp1 r1 hnp UJ).mono ?_;rintro _ w2 ⟨rfl,h2,m2⟩;obtain⟨p2,c2,r2⟩:∃p2 c2,Row w2 wb yu ⟨D_ pb [] p2 0 c2 fo⟩:=⟨_,_,r1.mod m2 UJ⟩;have hp2:=hp1.mod m2 hnp;have yU:Still w0 w2:=Mod.trans qP m2 (λ_ h=>h) λi hi e=>by have:=(h1.me (RF.sf e)).1;omega
 have xd:Mod (λk=>RF tr k\/k=wb) w w2:=Mod.trans m1 m2 (λ_ h=>.inr h) (λ_ _ h=>.inl h);refine .inl ⟨rfl,(nP _ _ (fV (by show(nm.length:Int)<=32;omega))).mono ?_⟩;rintro _ _ ⟨rfl,rfl⟩;refine .inl ⟨rfl,aB (λhb=>?_) (λhb=>aB (λgE=>absurd (aT gE) hd) (λ_=>?_))⟩
 .have e:nm=[46]:=aT hb
  exact⟨rfl,h2.up (Bq _),⟨p2,c2,by rw[kD,aR e];exact r2⟩,xd⟩
 .have e:nm≠[46]:=a_ hb
  have e2:kD nm=47::nm:=aL e;have hle:([]++[47]++nm:ag).length<=1000:=by simp;omega
  refine⟨_,r2.aj rfl,by simp,by simp;omega,_,r2.aj rfl,_,hp2.aj rfl,(Tf he yU h2 (p:=[]++[47]++nm) hle).mono ?_⟩;rintro _ w3 ⟨rfl,h3,m3⟩;have ek:(ij T ([]++[47]++nm)).k≠3:=by rcases(TL h3.aIh.1 ([]++[47]++nm)).k with h|h|h<;>omega
  have r3:=r2.mod m3 UJ;refine .inl ⟨_,_,_,rfl,aP λw4 r4 s4 z4=>aH5 (g:=w3.heap.size) (o:=0) r4 (by simp) (by simp[Value.oneCell']) λw5 r5 m5 z5=>?_⟩;have IY:Still w3 w5:=s4.box (aW _) m5;have Nt:=r3.still IY;have h5:=h3.still IY;refine⟨_,_,_,Nt.aj rfl,λb wq=>b=false/\wq=w5,⟨_,r5.aj rfl,aB (λhb=>absurd (aT hb) ek) (λ_=>⟨rfl,rfl⟩)⟩,?_⟩;rintro _ _ w6 ⟨rfl,rfl⟩;refine aB (λhb=>by cases hb) (λ_=>aB (λ_=>?_) (λhb=>absurd rfl (a_ hb)));refine(nP _ _ rfl).mono ?_;rintro _ _ ⟨rfl,rfl⟩;refine .inl ⟨rfl,aH5 (g:=wb) (o:=1) Nt (by simp) (by simp[Value.oneCell']) λw7 r7 m7 z7=>?_⟩;refine⟨rfl,h5.mod m7 λk hk e=>CE (by rw[<-e];exact hk),⟨p2,c2,?_⟩,Mod.trans (Mod.trans (Mod.trans xd m3 (λ_ h=>h) (λ_ _ h=>.inl h)) IY (λ_ h=>h) (λ_ _ h=>h.elim)) m7 (λ_ h=>h) (λ_ _ h=>.inr h)⟩;rw[e2];exact r7
def find_spec(aH9:fN w0)(h0:Still w0 w)(h:cQ w w0.heap.size a g tr n T){pb:Nat}(hp:iC w pb a)(hnp:¬RF tr pb){path nm:ag}(o:mg path nm)(fo:Bool):
  aH3 Kc #[.pointer (some ⟨pb,0,none⟩),.string (S path),.bool fo] w (λe w'=>e=.returned (.tuple #[.string (S (kD nm)),aJ2 (ij T (kD nm))])/\cQ w' w0.heap.size a g tr (n+3) T/\Mod (RF tr) w w'):=by
 have he:=aH9.env;refine al1 _ _ _ _ _ ?_;refine aP λw1 r1 s1 z1=>(nP _ _ (by simp[o.ne])).mono ?_;rintro _ _ ⟨rfl,rfl⟩;refine .inl ⟨rfl,(nP _ _ (fV (by have:=o.len;omega))).mono ?_⟩;rintro _ w1 ⟨rfl,rfl⟩;have hn0:∀k,w.heap.size<=k->¬SF a g tr k:=λk hk hr=>by have:=(h.me hr).2;omega
 have hwr:∀k,w.heap.size<=k->¬RF tr k:=λk hk hr=>hn0 k hk (RF.sf hr);have hpb:=hp.lt;have qP:=h0.trans s1;have hz0:=h0.size;have hp1:=hp.still s1;have h1:=h.still s1;have sD:Still w1 w1.drew:=(Still.refl _).cK;refine .inl ⟨rfl,λwq=>iC wq pb a,hp1.still sD,_,λwq hq=>hq.aj rfl,(apa (aH9.still (qP.trans sD)) (by have:=o.len;omega)).mono ?_⟩;rintro _ w2 ⟨p,c,rfl,ho,s2⟩;have cZ:=sD.trans s2;rw[o.VR]at ho;refine .inl ⟨_,_,_,rfl,hp1.still cZ,(Tryz.strings_HasSuffix (S path) (S [47]) w2 (by show path.length<=_;have:=o.len;omega)).mono ?_⟩;rintro _ w2 ⟨rfl,rfl⟩;refine .inl ⟨_,rfl,hp1.still cZ,?_⟩;rw[show Lib.hasSuffix (S path).data.toList (S [47]).data.toList=false from o.yQ,o.VR];refine aP λw3 r3 s3 z3=>?_;have iK:=cZ.trans s3;have agK:=cZ.size;refine⟨λwq=>Row wq w2.heap.size yu ⟨D_ pb [] p 1 c fo⟩/\Still w1 wq/\aV wq w1.drew.heap.size b6 1 (.slice p 1 c) 1 (bI [nm]),⟨by decide,?_⟩,?_⟩
 .cases ayk:path with
  |nil=>exact absurd ayk o.ne
  |cons x r=>refine⟨x,rfl,aB (λ_=>?_) (λ_=>⟨r3,iK,ho.still s3⟩)⟩;refine aH5 (g:=w2.heap.size) (o:=1) r3 (by simp) (by simp[Value.oneCell']) λw4 r4 m4 z4=>⟨r4,iK.box agK m4,(ho.still s3).mod m4 λk hk e=>?_⟩;have:=(ho.lt k hk).2;omega
 rintro _ w4 ⟨r4,s4,o4⟩;have V0:pb≠w2.heap.size:=by omega
 refine⟨λwq=>∃at' p' l c',(l=1/\at'=[]/\wq=w4/\p'=p/\c'=c\/l=0/\at'=kD nm)/\Row wq w2.heap.size yu ⟨D_ pb at' p' l c' fo⟩/\cQ wq w0.heap.size a g tr (n+2) T/\Mod (RF tr) w1 wq,λwq=>match wq.cell? ⟨w2.heap.size,2,none⟩with
  |some (.slice _ l _)=>l
  |_=>0,⟨[],p,1,c,.inl ⟨rfl,rfl,rfl,rfl,rfl⟩,r4,(h1.still s4).up (by omega),s4.weaken λ_ h=>h.elim⟩,?_⟩
 rintro _ w5 ⟨at',p',l,c',hl,r5,h5,m5⟩;refine⟨_,_,_,r5.aj rfl,aB (λhb=>?_) (λhb=>?_)⟩
 .rcases hl with⟨rfl,rfl,rfl,rfl,rfl⟩|⟨rfl,_⟩
  .refine(asU he (qP.trans s4) (h1.still s4) (hp1.still s4) r5 o4 hnp (hn0 _ (by omega)) V0 (by omega) o.UI o.azr).mono ?_
   rintro _ w6 ⟨rfl,h6,⟨p6,c6,r6⟩,m6⟩;refine .inl ⟨rfl,⟨_,p6,0,c6,.inr ⟨rfl,rfl⟩,r6,h6,Mod.trans s4 m6 (λ_ h=>h.elim) λi hi e=>?_⟩,?_⟩
   .rcases e with e|e
    .exact e
    .omega
   .have e1:w6.cell? ⟨w2.heap.size,2,none⟩=some (.slice p6 0 c6):=r6.aj rfl
    have e2:w5.cell? ⟨w2.heap.size,2,none⟩=some (.slice p' 1 c'):=r5.aj rfl;dsimp only;rw[e1,e2];exact Nat.zero_lt_one
  .exact absurd (aT hb) (by decide)
 .rcases hl with⟨rfl,_⟩|⟨rfl,rfl⟩
  .exact absurd (a_ hb) (by decide)
  have aLU:Still w0 w5:=Mod.trans qP m5 (λ_ h=>h) λi hi e=>by have:=(h.me (RF.sf e)).1;omega
  have CF:Still w5 w5.drew:=(Still.refl _).cK;have yV:=hp1.mod m5 hnp;have agL:=hwr w2.heap.size (by omega);have ayl:(kD nm).length<=1000:=by
   unfold kD;split
   .simp
   .have:=o.UI;simp;omega
  refine⟨Ask w5 w0 a g (n+2) tr T (kD nm),⟨λwq=>iC wq pb a/\Row wq w2.heap.size yu ⟨D_ pb (kD nm) p' 0 c' fo⟩,⟨yV.still CF,r5.still CF⟩,_,λwq hq=>hq.1.aj rfl,_,λwq hq=>hq.2.aj rfl,Tg he (aLU.trans CF) (h5.still CF) ayl CF λw' m=>⟨(yV.still CF).mod m hnp,(r5.still CF).mod m agL⟩⟩,?_⟩;rintro _ _ w6 ⟨b,rfl,hb,r6,h6,m6⟩;have rw6:=r5.mod m6 agL;refine⟨λwq=>wq=w6,⟨_,rw6.aj rfl,aB (λ_=>(nP _ _ rfl).mono (by rintro _ _ ⟨rfl,rfl⟩;exact .inl ⟨rfl,rfl⟩)) (λhb=>by cases hb)⟩,?_⟩;rintro _ w7 rfl;have CG:Still w7 w7.drew:=(Still.refl _).cK;have m17:Mod (RF tr) w1 w7:=Mod.trans m5 m6 (λ_ h=>h) (λ_ _ h=>h);have rr:=(r1.mod m17 (hwr _ (aW _))).still CG;refine⟨λwq=>wq=w7.drew,rfl,_,λwq hq=>by rw[hq];exact(rw6.still CG).aj rfl,_,_,_,λwq hq=>by rw[hq];exact(r6.still CG).aj rfl,λwq hq=>by rw[hq];exact(r6.still CG).aj rfl,λwq hq=>by rw[hq];exact(r6.still CG).aj rfl,?_⟩;refine aH5 (g:=w.heap.size) (o:=0) rr (by simp) (by simp[Value.oneCell']) λw8 r8 m8 z8=>?_;refine⟨_,_,_,r8.aj rfl,r8.aj rfl,r8.aj rfl,rfl,(h6.still CG).mod m8 λk hk e=>hn0 _ (QA e.symm) hk,?_⟩;exact Mod.trans (Mod.trans (Mod.trans s1 m17 (λ_ h=>h.elim) (λ_ _ h=>h)) CG (λ_ h=>h) (λ_ _ h=>h.elim)) m8 (λ_ h=>h) (λi hi e=>by omega)
end
def asV(p:Addr)(w:World):
  CallsD aM aJA #[.pointer (some p)] .returning w λe u' w'=>e=.returned (.tuple #[])/\u'=.returning/\w'=w:=by
 refine callsD_of_wpS Tryz.func247 rfl λc₀ cs hu=>?_;apply wpS_seq;apply wpS_region;simp[wpOpsS,go_sem,recoverD,hu,Tryz.ntmps247,Exit.thenS];apply wpS_seq;apply wpS_region;simp[wpOpsS,go_sem,Tryz.ntmps247,Exit.thenS];refine wpS_cond (t:=false) (by simp[Act.eval,Array.replicate]) ?_;simp only[kP,iR];refine wpS_of_wp (wp_skip ?_);cases c₀;simp_all [bodyPostS,results,Tryz.results247]
def adU{p:Addr}{w:World}{K:World->Prop}(h:K w):CallsD aM aJA #[.pointer (some p)] .returning w λe ux w'=>(∃rv,e=.returned rv)/\settle ux=.returning/\K w':=by refine(asV p w).mono ?_;rintro _ _ _ ⟨rfl,rfl,rfl⟩;exact⟨⟨_,rfl⟩,rfl,h⟩
def aaH{place:ag}(hl:place.length<=1000)(h0:Lib.lastIndexByte (S place) 47=0):aH3 FX #[.string (S place)] w (λe w'=>e=.returned (.string (S []))/\w'=w):=by refine ano _ _ _ ?_;refine(Tryz.strings_LastIndexByte (S place) 47 (by show place.length<_;omega) w).mono ?_;rintro _ w1 ⟨rfl,rfl⟩;rw[h0];refine .inl ⟨_,rfl,by decide,by simp,?_⟩;simp[zR]
section
variable{a g n:Nat}{tr:Option Tb}{T:Tree}
def asW(he:Env w0)(h0:Still w0 w)(h:cQ w w0.heap.size a g tr n T){pb:Nat}(hp:iC w pb a)(hnp:¬RF tr pb){place:ag}(hl:place.length<=1000)(hne:place≠[])(hi:Lib.lastIndexByte (S place) 47=0):
  aH3 Qa #[.pointer (some ⟨pb,0,none⟩),.string (S place)] w (λe w'=>e=.returned (.tuple #[])/\cQ w' w0.heap.size a g tr (n+1) T/\Mod (RF tr) w w'):=by
 refine al2 _ _ _ _ ?_;have sD:Still w w.drew:=(Still.refl w).cK;have hD:=h.still sD;have I0:=hp.still sD;refine⟨Ask w w0 a g n tr T [],?_,?_⟩
 .refine⟨λwq=>iC wq pb a,I0,_,λwq hq=>hq.aj rfl,?_,?_⟩
  .refine(aaH hl hi).mono ?_
   rintro _ _ ⟨rfl,rfl⟩;refine .inl ⟨_,rfl,I0,?_⟩;exact Tg he (h0.trans sD) hD (p:=[]) (dx _) sD λw' m=>I0.mod m hnp
  .refine aP λw1 r1 s1 z1=>⟨I0.still s1,(aaH hl hi).mono ?_⟩
   rintro _ w2 ⟨rfl,rfl⟩;refine .inl ⟨_,rfl,I0.still s1,?_⟩;refine adT (xJ:=Ask w w0 a g n tr T []) he ((h0.trans sD).trans s1) (hD.still s1) (p:=[]) (dx _) r1 rfl (λk hk e=>by have:=(hD.me hk).2;omega) λw2 r2 h2 m2=>⟨_,rfl,aW _,r2,h2,Mod.trans (sD.trans s1) m2 (λ_ h=>h.elim) λi hi e=>?_⟩;rcases e with e|e
   .exact e
   .have:w.drew.heap.size=w.heap.size:=rfl
    omega
 .rintro _ _ w1 ⟨b,rfl,hb,hr,h1,m1⟩
  rw[acO]at hr;refine(nP _ _ (by simp[hne])).mono ?_;rintro _ _ ⟨rfl,rfl⟩;refine .inl ⟨rfl,_,hr.aj rfl,(nP _ _ (by decide)).mono ?_⟩;rintro _ _ ⟨rfl,rfl⟩;refine .inl ⟨rfl,_,hr.aj rfl,(nP _ _ (by decide)).mono ?_⟩;rintro _ _ ⟨rfl,rfl⟩;exact .inl ⟨rfl,rfl,h1,m1⟩
def ara(aH9:fN w0)(h0:Still w0 w)(h:cQ w w0.heap.size a g tr n T){pb:Nat}(hp:iC w pb a)(hnp:¬RF tr pb){path nm:ag}(o:mg path nm)(fo:Bool)(hk:(ij T (kD nm)).k≠0):
  aH3 P0 #[.pointer (some ⟨pb,0,none⟩),.string (S path),.bool fo] w (λe w'=>e=.returned (.tuple #[.string (S (kD nm)),aJ2 (ij T (kD nm))])/\cQ w' w0.heap.size a g tr (n+3) T/\Mod (RF tr) w w'):=by
 refine alM _ _ _ _ _ ?_;refine aP λw1 r1 s1 z1=>(find_spec aH9 (h0.trans s1) (h.still s1) (hp.still s1) hnp o fo).mono ?_;rintro _ w2 ⟨rfl,h2,m2⟩;have hwr:∀k,w.heap.size<=k->¬RF tr k:=λk hk hr=>RF.new h hk hr;refine .inl ⟨_,_,_,_,rfl,aP λw3 r3 s3 z3=>aH5 (g:=w2.heap.size) (o:=0) r3 (by simp) (by simp[Value.oneCell']) λw4 r4 m4 z4=>?_⟩;have lz:Still w2 w4:=s3.box (aW _) m4;refine⟨_,r4.aj rfl,(nP _ _ (by simp[hk])).mono ?_⟩;rintro _ w5 ⟨rfl,rfl⟩;have sD:Still w5 w5.drew:=(Still.refl _).cK;refine .inl ⟨rfl,λwq=>wq=w5.drew,rfl,_,_,_,λwq hq=>by rw[hq];exact(r4.still sD).aj rfl,λwq hq=>by rw[hq];exact(r4.still sD).aj rfl,λwq hq=>by rw[hq];exact(r4.still sD).aj rfl,?_⟩;have m15:Mod (RF tr) w1 w5.drew:=Mod.trans m2 (lz.trans sD) (λ_ h=>h) (λ_ _ h=>h.elim);have EO:=r1.mod m15 (hwr _ (aW _));refine aH5 (g:=w.heap.size) (o:=0) EO (by simp) (by simp[Value.oneCell']) λw6 r6 m6 z6=>?_;refine⟨_,_,_,r6.aj rfl,r6.aj rfl,r6.aj rfl,rfl,(h2.still (lz.trans sD)).mod m6 λk hk e=>?_,?_⟩
 .have:=(h.me hk).2;omega
 .exact Mod.trans (Mod.trans s1 m15 (λ_ h=>h.elim) (λ_ _ h=>h)) m6 (λ_ h=>h) (λi hi e=>by omega)
def abO(aH9:fN w0)(h0:Still w0 w)(h:cQ w w0.heap.size a g tr n T){pb:Nat}(hp:iC w pb a)(hnp:¬RF tr pb){path nm d:ag}(o:mg path nm)(hf:ij T (kD nm)=⟨1,6,d⟩):
  aH3 Kb #[.pointer (some ⟨pb,0,none⟩),.string (S path)] w (λe w'=>e=.returned (.tuple #[.string (S d),.int .i64 0])/\cQ w' w0.heap.size a g tr (n+3) T/\Mod (RF tr) w w'):=by
 refine al0 _ _ _ _ ?_;refine aP λw1 r1 s1 z1=>(ara aH9 (h0.trans s1) (h.still s1) (hp.still s1) hnp o true (by rw[hf];exact P_)).mono ?_;rintro _ w2 ⟨rfl,h2,m2⟩;rw[hf];have hwr:∀k,w.heap.size<=k->¬RF tr k:=λk hk hr=>RF.new h hk hr;refine .inl ⟨_,_,_,_,rfl,aP λw3 r3 s3 z3=>aH5 (g:=w2.heap.size) (o:=0) r3 (by simp) (by simp[Value.oneCell']) λw4 r4 m4 z4=>?_⟩;have lz:Still w2 w4:=s3.box (aW _) m4;refine⟨_,r4.aj rfl,(nP _ _ (by show(!decide ((1:Int)=2))=true;decide)).mono ?_⟩;rintro _ _ ⟨rfl,rfl⟩;refine .inl ⟨rfl,_,r4.aj rfl,(nP _ _ (by show(!decide (bits .and .i64 6 4=0))=true;decide)).mono ?_⟩;rintro _ w5 ⟨rfl,rfl⟩;have m15:Mod (RF tr) w1 w5:=Mod.trans m2 lz (λ_ h=>h) (λ_ _ h=>h.elim);refine .inl ⟨rfl,_,r4.aj rfl,aH5 (g:=w.heap.size) (o:=0) (r1.mod m15 (hwr _ (aW _))) (by simp) (by simp[Value.oneCell']) λw6 r6 m6 z6=>adU ?_⟩;refine⟨_,r6.aj rfl,rfl,(h2.still lz).mod m6 λk hk e=>?_,Mod.trans (Mod.trans s1 m15 (λ_ h=>h.elim) (λ_ _ h=>h)) m6 (λ_ h=>h) (λi hi e=>by omega)⟩;have:=(h.me hk).2;omega
def iV(T:Tree):Prop:=∀x∈T,x.2.k=1/\x.2.m=6
def Le:∀{T:Tree},iV T->∀p,aIr T p=B5\/aIr T p=⟨1,6,(aIr T p).d⟩
 |[],_,_=>.inl rfl
 |(q,e)::r,h,p=>by
  unfold aIr;split
  .have:=h (q,e) (by simp)
   obtain⟨k,m,d⟩:=e;obtain⟨rfl,rfl⟩:=this;exact .inr rfl
  .exact Le (λx hx=>h x (by simp[hx])) p
def iV.put{T:Tree}(h:iV T)(p d:ag):iV (qB T p ⟨1,6,d⟩):=λx hx=>by
 rcases Ln hx with rfl|hx
 .exact⟨rfl,rfl⟩
 .exact h x hx
def aIw(T:Tree)(nm data:ag)(more:Bool):Tree:=qB T (47::nm) ⟨1,6,if more then(aIr T (47::nm)).d++data else data⟩
def RG(aH9:fN w0)(h0:Still w0 w)(h:cQ w w0.heap.size a g tr n T){pb:Nat}(hp:iC w pb a)(hnp:¬RF tr pb){path nm:ag}(o:mg path nm)(hnm:nm≠[46])(hi:Lib.lastIndexByte (S (47::nm)) 47=0)(hT:iV T)(data:ag)(more:Bool)
  (hd:((if more then(aIr T (47::nm)).d++data else data):ag).length<=50000):
  aH3 FC #[.pointer (some ⟨pb,0,none⟩),.string (S path),.string (S data),.bool more] w (λe w'=>e=.returned (.int .i64 0)/\cQ w' w0.heap.size a g tr (n+5) (aIw T nm data more)/\Mod (WF g tr) w w'):=by
 have ep:kD nm=47::nm:=aL hnm;have et:ij T (47::nm)=aIr T (47::nm):=aL (by simp);have hlen:(47::nm).length<=1000:=by have:=o.UI;simp;omega
 have hwr:∀k,w.heap.size<=k->¬RF tr k:=λk hk hr=>RF.new h hk hr;have rT:∀k,SF a g tr k->k<w.heap.size:=λk hk=>(h.me hk).2;have hgd:(aIr T (47::nm)).d.length<=50000:=by rw[<-et];exact Te h.aIh _
 refine alH _ _ _ _ _ _ ?_;refine aP λw1 r1 s1 z1=>(find_spec aH9 (h0.trans s1) (h.still s1) (hp.still s1) hnp o true).mono ?_;rw[ep,et];rintro _ w2 ⟨rfl,h2,m2⟩;refine .inl ⟨_,_,_,_,rfl,aP λw3 r3 s3 z3=>aH5 (g:=w2.heap.size) (o:=0) r3 (by simp) (by simp[Value.oneCell']) λw4 r4 m4 z4=>?_⟩;have lz:Still w2 w4:=s3.box (aW _) m4;have jU:=m2.size;have hk2:(aIr T (47::nm)).k≠2:=by rcases Le hT (47::nm)with e|e<;>rw[e]<;>show(_:Int)≠2<;>simp[B5]
 refine⟨_,r4.aj rfl,(nP _ _ (by simp[hk2])).mono ?_⟩;rintro _ w5 ⟨rfl,rfl⟩;have h5:=h2.still lz;have m15:Mod (RF tr) w1 w5:=Mod.trans m2 lz (λ_ h=>h) (λ_ _ h=>h.elim);have V2:Mod (RF tr) w w5:=Mod.trans s1 m15 (λ_ h=>h.elim) (λ_ _ h=>h);have aLU:Still w0 w5:=Mod.trans h0 V2 (λ_ h=>h) λi hi e=>by have:=(h.me (RF.sf e)).1;omega
 have yV:=hp.mod V2 hnp;have gE:¬RF tr w2.heap.size:=hwr _ (by omega);have hs2:∀k,SF a g tr k->k≠w2.heap.size:=λk hk e=>by have:=rT k hk;omega
 refine .inl ⟨rfl,λwq=>Row wq w2.heap.size qp ⟨u0 ⟨1,6,(aIr T (47::nm)).d⟩⟩/\cQ wq w0.heap.size a g tr (n+4) T/\Mod (λk=>RF tr k\/k=w2.heap.size) w5 wq,⟨_,r4.aj rfl,aB (λhk=>?_) (λhk=>?_)⟩,?_⟩
 .have hk:(aIr T (47::nm)).k=0:=aT hk
  have e:aIr T (47::nm)=B5:=by
   rcases Le hT (47::nm)with e|e
   .exact e
   .rw[e]at hk;exact absurd hk P_
  refine(Tryz.strings_HasSuffix (S path) (S [47]) w5 (by show path.length<=_;have:=o.len;omega)).mono ?_;rintro _ w5 ⟨rfl,rfl⟩;refine .inl ⟨_,rfl,(nP _ _ (by rw[show Lib.hasSuffix (S path).data.toList (S [47]).data.toList=false from o.yQ];rfl)).mono ?_⟩;rintro _ w5 ⟨rfl,rfl⟩;refine .inl ⟨rfl,(asW aH9.env aLU h5 yV hnp hlen (by simp) hi).mono ?_⟩;rintro _ w6 ⟨rfl,h6,m6⟩;refine .inl ⟨rfl,_,(yV.mod m6 hnp).aj rfl,aH5 (g:=w2.heap.size) (o:=0) (r4.mod m6 gE) (by simp[fR]) (by simp[Value.oneCell']) λw7 r7 m7 z7=>?_⟩;have e6:bits .andNot .i64 6 0=6:=by decide
  rw[e6]at r7;rw[e];exact⟨r7,h6.mod m7 λk hk e=>hs2 k hk e,Mod.trans m6 m7 (λ_ h=>.inl h) (λ_ _ h=>.inr h)⟩
 .have hk:(aIr T (47::nm)).k≠0:=a_ hk
  have e:aIr T (47::nm)=⟨1,6,(aIr T (47::nm)).d⟩:=by
   rcases Le hT (47::nm)with e|e
   .rw[e]at hk;exact absurd rfl hk
   .exact e
  rw[e]at r4;refine⟨_,r4.aj rfl,(nP _ _ (by show(!decide (bits .and .i64 6 2=0))=true;decide)).mono ?_⟩;rintro _ w6 ⟨rfl,rfl⟩;exact .inl ⟨rfl,r4,h5.up (by omega),(Mod.refl _ _)⟩
 rintro _ w6 ⟨r6,h6,m6⟩;refine⟨λx wq=>x=(if more then(aIr T (47::nm)).d++data else data)/\wq=w6,?_,?_⟩
 .cases more with
  |true=>exact⟨_,r6.aj rfl,by simp only[oV]at hd;simp at hd⊢;omega,rfl,rfl⟩
  |false=>exact⟨rfl,rfl⟩
 rintro _ _ w7 ⟨rfl,rfl⟩;refine(nP _ _ (fV (by omega))).mono ?_;rintro _ w7 ⟨rfl,rfl⟩;refine .inl ⟨rfl,aH5 (g:=w2.heap.size) (o:=2) r6 (by simp[u0]) (by simp[Value.oneCell']) λw8 r8 m8 z8=>?_⟩;have sD:Still w8 w8.drew:=(Still.refl _).cK;have h8:=(h6.mod m8 λk hk e=>hs2 k hk e).still sD;have V3:Mod (λk=>RF tr k\/k=w2.heap.size) w5 w8.drew:=Mod.trans (Mod.trans m6 m8 (λ_ h=>h) (λ_ _ h=>.inr h)) sD (λ_ h=>h) (λ_ _ h=>h.elim);have azs:pb≠w2.heap.size:=by have:=hp.lt;omega
 have hp8:iC w8.drew pb a:=yV.mod V3 λh=>h.elim hnp azs;have m08:Mod (RF tr) w w8.drew:=Mod.trans V2 V3 (λ_ h=>h) λi hi e=>by
  rcases e with e|e
  .exact e
  .omega
 have h08:Still w0 w8.drew:=Mod.trans h0 m08 (λ_ h=>h) λi hi e=>by have:=(h.me (RF.sf e)).1;omega
 refine⟨λwq=>wq=w8.drew,rfl,_,λwq hq=>by rw[hq];exact hp8.aj rfl,_,_,_,λwq hq=>by rw[hq];exact(r8.still sD).aj rfl,λwq hq=>by rw[hq];exact(r8.still sD).aj rfl,λwq hq=>by rw[hq];exact(r8.still sD).aj rfl,?_⟩;refine(auW aH9.env h08 h8 hlen (by simp) (x:=⟨1,6,if more then(aIr T (47::nm)).d++data else data⟩) ⟨.inr (.inl rfl),⟨by show(0:Int)<=6;decide,by show(6:Int)<=7;decide⟩,by dsimp only;omega⟩ P_ hd).mono ?_;rintro _ w9 ⟨rfl,h9,m9⟩;have m19:Mod (WF g tr) w1 w9:=Mod.trans (Mod.trans m15 V3 (λk h=>(by
  obtain⟨t,ht,e⟩:=h;exact .inr ⟨t,ht,.inl e⟩:WF g tr k)) (λi hi e=>by
  rcases e with⟨t,ht,e⟩|e
  .exact .inr ⟨t,ht,.inl e⟩
  .omega)) m9 (λ_ h=>h) (λ_ _ h=>h)
 have hwf:¬WF g tr w.heap.size:=λhk=>by have:=rT _ (WF.sf (a:=a) hk);omega
 refine .inl ⟨rfl,aH5 (g:=w.heap.size) (o:=0) (r1.mod m19 hwf) (by simp) (by simp[Value.oneCell']) λaO aIe m10 pz=>adU ?_⟩;refine⟨_,aIe.aj rfl,rfl,h9.mod m10 λk hk e=>?_,Mod.trans (Mod.trans s1 m19 (λ_ h=>h.elim) (λ_ _ h=>h)) m10 (λ_ h=>h) (λi hi e=>by omega)⟩;have hk':=rT k (by
  rcases hk with h|h|⟨t,ht,h⟩
  .exact .inl h
  .exact .inr (.inl h)
  .exact .inr (.inr ⟨t,ht,h⟩))
 omega
end
end Go.Proofs.YtihaaoehhgmphaaGreatDoor
namespace Go.Proofs.YtihaaoehhgmphaaGreatDoor.A
open IntKind Go.RowKit Vc Go.Shelf
variable{w:World}
def dS{a b:UInt8}:(a.toNat:Int)=(b.toNat:Int)↔a=b:=⟨λh=>FF.1 (by omega),λh=>by rw[h]⟩
def getD_some{α:Type}{p:List α}{i:Nat}(h:i<p.length):p[i]?=some p[i]:=gJ h
def K3{g:FuncId}{first cap:List Value}{K:FuncId->List Value->List Value->Prop}(h:K g first cap):gN (.func (.func g) ⟨first⟩ ⟨cap⟩) K:=h
def dz(w:World)(p:Option Addr)(n C:Nat)(l:List Vr):Prop:=l.length=n/\n<=C/\(0<n->∃a,p=some a/\∀(j:Nat) (u:Value),(vcs l)[j]?=some u->w.cell? (a.add j)=some u)/\(0<n->∃a cs,p=some a/\Row w a.block 32 cs)
def aaI(a:Addr)(i:Nat):(a.add i).block=a.block:=by unfold Addr.add;split<;>rfl
section
variable{p:Option Addr}{n C:Nat}{l:List Vr}
def dz.still{w':World}(h:dz w p n C l)(hm:Still w w'):dz w' p n C l:=
 ⟨h.1,h.2.1,λhn=>by
  obtain⟨a,h1,h2⟩:=h.2.2.1 hn;exact⟨a,h1,λj u hu=>hm.cell (h2 j u hu)⟩,λhn=>by
  obtain⟨a,cs,h1,h2⟩:=h.2.2.2 hn;exact⟨a,cs,h1,h2.mod hm λh=>h⟩⟩
def dz.mod{S:Nat->Prop}{w':World}(h:dz w p n C l)(hm:Mod S w w')(hS:∀a,p=some a->¬S a.block):dz w' p n C l:=
 ⟨h.1,h.2.1,λhn=>by
  obtain⟨a,h1,h2⟩:=h.2.2.1 hn;exact⟨a,h1,λj u hu=>(World.cell?_of_block (hm.block _ (World.block_lt_of_cell? _ _ (h2 j u hu)) (by rw[aaI];exact hS a h1))).trans (h2 j u hu)⟩,λhn=>by
  obtain⟨a,cs,h1,h2⟩:=h.2.2.2 hn;exact⟨a,cs,h1,h2.mod hm (hS a h1)⟩⟩
def dz.nil(w:World):dz w none 0 0 []:=⟨rfl,aW _,λh=>absurd h (Dj _),λh=>absurd h (Dj _)⟩
def dz.get(h:dz w p n C l){i:Nat}{x:Vr}(hx:l[i]?=some x):∃a,p=some a/\w.cell? (a.add (i*4))=some (.string (S x.name))/\w.cell? ((a.add (i*4)).add 1)=some (.string (S x.value))/\
  w.cell? ((a.add (i*4)).add 2)=some (.bool x.exp)/\w.cell? ((a.add (i*4)).add 3)=some (.bool x.ro):=by
 have hi:=(jj.1 hx).1;obtain⟨a,h1,h2⟩:=h.2.2.1 (by have:=h.1;omega);obtain⟨g1,g2,g3,g4⟩:=adO hx;refine⟨a,h1,h2 _ _ g1,?_,?_,?_⟩
 .rw[rH]
  exact h2 _ _ g2
 .rw[rH]
  exact h2 _ _ g3
 .rw[rH]
  exact h2 _ _ g4
def dz.take(h:dz w p n C l){k:Nat}(hk:k<=n):dz w p k C (l.take k):=by
 obtain⟨h1,h2,h3,h7⟩:=h;refine⟨by rw[eH];omega,by omega,λhk0=>?_,λhk0=>h7 (by omega)⟩;obtain⟨a,h4,h5⟩:=h3 (by omega);refine⟨a,h4,λj u hu=>h5 j u ?_⟩;rw[<-oQ k l,aau,vJ]
 .exact hu
 .exact(jj.1 hu).1
def dz.drop(h:dz w p n C l){k:Nat}(hk:k<=n):dz w (if C=k then p else Option.map (·.add (k*4)) p) (n-k) (C-k) (l.drop k):=by obtain⟨h1,h2,h3,h7⟩:=h;refine⟨by rw[jx];omega,by omega,λhk0=>?_,λhk0=>by obtain⟨a,cs,rfl,h9⟩:=h7 (by omega);rw[aL (by omega)];exact⟨_,cs,rfl,by rw[aaI];exact h9⟩⟩;obtain⟨a,rfl,h5⟩:=h3 (by omega);rw[aL (by omega)];refine⟨a.add (k*4),rfl,λj u hu=>?_⟩;rw[rH];refine h5 _ u ?_;rw[<-oQ k l,aau,zg (by rw[RE,eH,vR (by omega)];omega),RE,eH,vR (by omega),aLa];exact hu
def dz.of{B:Nat}(h:aV w B 32 4 (.slice p n C) n (vcs l)):dz w p n C l:=by
 have h1:=h.length;rw[RE]at h1;refine⟨by omega,?_,λhn=>?_,λhn=>by obtain⟨g,cap,cur,he,_,hr,_⟩:=h.row hn;injection he with e1 e2 e3;exact⟨_,cur,e1,hr⟩⟩
 .rcases h.2 with⟨he,_⟩|⟨g,cap,cur,he,_,_,hc,_⟩
  .injection he with e1 e2 e3
   omega
  .injection he with e1 e2 e3
   omega
 .obtain⟨g,cap,he,_,_,_,hc⟩:=h.wz hn
  injection he with e1 e2 e3;subst e1;refine⟨_,rfl,λj u hu=>?_⟩;rw[bR,cE];exact hc j u hu
end
def Zr(c:Int):aH3 KA #[.int .i32 c] w (λe w'=>e=.returned (.bool (BI c))/\w'=w):=by
 refine Yy _ _ _ ?_;unfold BI;refine aB (λh1=>aB (λh2=>⟨by simp[aT h1,aT h2],rfl⟩) (λh2=>aB (λh3=>aB (λh4=>⟨by simp[aT h3,aT h4],rfl⟩) (λh4=>⟨?_,rfl⟩)) (λh3=>⟨?_,rfl⟩)))
  (λh1=>aB (λh3=>aB (λh4=>⟨by simp[aT h3,aT h4],rfl⟩) (λh4=>⟨?_,rfl⟩)) (λh3=>⟨?_,rfl⟩))
 .rw[h1,h2,h3,h4];rfl
 .rw[h1,h2,h3];rfl
 .rw[h1,h3,h4];rfl
 .rw[h1,h3];rfl
def ZX(c:Int):aH3 KG #[.int .i32 c] w (λe w'=>e=.returned (.bool (BU c))/\w'=w):=by refine YK _ _ _ ?_;unfold BU;exact aB (λh1=>⟨by rw[h1];rfl,rfl⟩) (λh1=>⟨by rw[h1];rfl,rfl⟩)
def aJn(h:Nat)(w:World):Nat:=match w.heap[h]? with
 |some (.stringIter s p)=>s.size-p
 |_=>0
def ZY{c:Int}(h:128<=c):BI c=false/\BU c=false:=by
 unfold BI BU;constructor
 .simp only[Bool.or_eq_false_iff,OX,aLf]
  omega
 .simp only[OX,aLf]
  omega
def abP(s:ag)(hs:s.length<=9223372036854775807):aH3 Br #[.string (S s)] w (λe w'=>e=.returned (.string (S (s.take (bY true s))))/\Still w w'):=by
 refine YW _ _ _ ?_;refine⟨λw1=>∃k:Nat,w1.heap[w.heap.size]?=some (.stringIter (S s) k)/\k<=s.length/\bY true s=k+bY (decide (k=0)) (s.drop k)/\Still w w1,aJn w.heap.size,⟨0,heap_alloc_new w _,dx _,by simp,(Mod.refl _ _).alloc _⟩,?_⟩;rintro _ w1 ⟨k,hk,hkl,hn,hst⟩;refine⟨rfl,s,k,hk,aB (λhx=>?_) (λhx=>?_)⟩
 .have hx:k<s.length:=aT hx
  have hd:s.drop k=s[k]::s.drop (k+1):=mI hx;have hlt:w.heap.size<w1.heap.size:=(oP.1 hk).1;have hb:(S s).size=s.length:=rfl;have still:∀q,Still w (w1.iterAt w.heap.size (S s) q):=λq=>⟨hst.os,hst.tape,hst.output,by have:=hst.size;simp only[World.iterAt,Array.size_setIfInBounds];exact this,λi hi hn=>by have:=hst.block i hi hn;simp only[World.iterAt,Array.getElem?_setIfInBounds];rw[aL (by omega)];exact this⟩;have stop:(letter s[k]||(!decide (k=0)&&digit s[k]))=false->bY true s=k:=by intro h;rw[hn,hd,bY,aL (by rw[h];decide)];omega
  have go:∀q,(letter s[k]||(!decide (k=0)&&digit s[k]))=true->q=k+1->(∃k:Nat,(w1.iterAt w.heap.size (S s) q).heap[w.heap.size]?=some (.stringIter (S s) k)/\k<=s.length/\bY true s=k+bY (decide (k=0)) (s.drop k)/\Still w (w1.iterAt w.heap.size (S s) q))/\aJn w.heap.size (w1.iterAt w.heap.size (S s) q)<aJn w.heap.size w1:=by
   rintro q h rfl;have h1:(w1.iterAt w.heap.size (S s) (k+1)).heap[w.heap.size]?=some (.stringIter (S s) (k+1)):=by simp[World.iterAt,hlt]
   refine⟨⟨k+1,h1,hx,?_,still _⟩,?_⟩
   .rw[hn,hd,bY,aR h,aIl (show¬k+1=0 by omega)]
    omega
   .unfold aJn
    rw[h1,hk];dsimp only;rw[hb];omega
  have ret:bY true s=k->0<=(k:Int)/\(k:Int)<=s.length/\(Ending.returned (.string (S (s.take (Int.toNat (k:Int)))))=Ending.returned (.string (S (s.take (bY true s))))/\Still w (w1.iterAt w.heap.size (S s) (k+(Utf8.decode (S s) k).2))):=by intro h;exact⟨by omega,by omega,by rw[bT,h],still _⟩
  have V4:k<(S s).size:=hx;have hby:(S s)[k]'V4=s[k]:=rfl;rcases aJd (s[k].toNat) 128 with hlo|hhi
  .have agM:Utf8.decode (S s) k=(s[k].toNat,1):=decode_ascii (S s) k V4 hlo
   rw[show(⟨⟨s⟩⟩:ByteArray)=S s from rfl,agM];rw[agM]at ret;refine(Zr _).mono ?_;rintro _ w2 ⟨rfl,rfl⟩;refine .inl ⟨_,rfl,aB (λh=>?_) (λh=>?_)⟩
   .have h:BI (s[k].toNat:Int)=false:=by simpa using h
    have h:letter s[k]=false:=h;refine aB (λh0=>ret (stop ?_)) (λh0=>(ZX _).mono ?_)
    .have h0:k=0:=by have:=aT h0;omega
     rw[h,fV h0];rfl
    .have h0:¬k=0:=by have:=a_ h0;omega
     rintro _ w3 ⟨rfl,rfl⟩;refine .inl ⟨_,rfl,aB (λhd=>ret (stop ?_)) (λhd=>go _ ?_ rfl)⟩
     .have hd:BU (s[k].toNat:Int)=false:=by simpa using hd
      have hd:digit s[k]=false:=hd;rw[h,hd,Kj];rfl
     .have hd:BU (s[k].toNat:Int)=true:=by simpa using hd
      have hd:digit s[k]=true:=hd;rw[hd,aIl h0];simp
   .have h:BI (s[k].toNat:Int)=true:=by simpa using h
    have h:letter s[k]=true:=h;exact go _ (by rw[h];rfl) rfl
  .obtain⟨hc,hw⟩:=decode_high (S s) k V4 hhi
   have hz:=ZY (c:=((Utf8.decode (S s) k).1:Int)) (by omega);have jU:=ZY (c:=(s[k].toNat:Int)) (by omega);have aKE:bY true s=k:=stop (by unfold letter digit;rw[jU.1,jU.2,Kj];rfl);rw[show(⟨⟨s⟩⟩:ByteArray)=S s from rfl];refine(Zr _).mono ?_;rintro _ w2 ⟨rfl,rfl⟩;refine .inl ⟨_,rfl,aB (λh=>aB (λh0=>ret aKE) (λh0=>(ZX _).mono ?_)) (λh=>by rw[hz.1]at h;cases h)⟩;rintro _ w3 ⟨rfl,rfl⟩;exact .inl ⟨_,rfl,aB (λhd=>ret aKE) (λhd=>by rw[hz.2]at hd;cases hd)⟩
 .have hx:k=s.length:=by have:=a_ hx;omega
  refine⟨?_,hst⟩;subst hx;rw[hn,vP,bY,FO,oT]
def ap2(s:ag)(hs:s.length<=9223372036854775807):aH3 FU #[.string (S s)] w (λe w'=>e=.returned (.bool (isName s))/\Still w w'):=by
 refine Yz _ _ _ ?_;unfold isName;refine aB (λh=>(abP s hs).mono ?_) (λh=>⟨by rw[h];rfl,Mod.refl _ _⟩);rintro _ w1 ⟨rfl,h1⟩;refine .inl ⟨_,rfl,?_,h1⟩;rw[h,zu];congr 2;apply qW.2;have:=aKh true s;constructor
 .intro e
  have:=gK List.length e;rw[eH]at this;omega
 .intro e
  rw[e,oT]
def acP(x:Vr)(s:ag):aH3 Bp #[.agg #[.string (S x.name),.string (S x.value),.bool x.exp,.bool x.ro],.string (S s)] w (λe w'=>e=.returned (.int .i64 (Go.Lib.compareBytes x.name s))/\Still w w'):=by refine amY _ _ _ _ _ _ _ ?_;have hr:=Row.new w 32 ⟨An x⟩;refine⟨_,hr.dY rfl,(Tryz.strings_Compare (S x.name) (S s) _).mono ?_⟩;rintro _ w1 ⟨rfl,rfl⟩;exact .inl ⟨_,rfl,rfl,(Mod.refl _ _).alloc _⟩
def axG{a b:Nat}(h:a+b<1000000000):i64.wrap (Int.fdiv (u64.wrap (i64.wrap ((a:Int)+(b:Int)))) (2^(min (Int.toNat (1:Int)) (u64.bits))))=(((a+b)/2:Nat):Int):=by
 have e2:(2:Int)^(min (Int.toNat (1:Int)) (u64.bits))=2:=by decide
 rw[e2,wrap_i64 (n:=(a:Int)+b) (by omega) (by omega),wrap_u64 (by omega) (by omega),OE _ (by decide),wrap_i64 (by omega) (by omega)];omega
def Ze:dP aM Bp=true:=by kernel_rfl
set_option maxRecDepth 10000 in
def ap3{p:Option Addr}{n C:Nat}{l:List Vr}(h:dz w p n C l)(hs:BV l)(hn:n<1000000)(s:ag):
  aH3 On #[.slice p n C,.string (S s),.func (.func Bp) #[] #[]] w (λe w'=>e=.returned (.tuple #[.int .i64 (pos s l:Int),.bool (get s l).isSome])/\Still w w'):=by
 refine ajp _ _ _ _ _ _ _ ?_;have hl:=h.1;have hpl:=aeI s l;refine⟨λi j w1=>∃a b:Nat,i=(a:Int)/\j=(b:Int)/\a<=pos s l/\pos s l<=b/\b<=n/\Still w w1,λi j _=>j.toNat-i.toNat,⟨0,n,rfl,rfl,dx _,by omega,aW _,Mod.refl _ _⟩,?_⟩;rintro _ _ _ w1 ⟨a,b,rfl,rfl,ha,hb,EP,hst⟩;have h1:=h.still hst;refine aB (λhx=>?_) (λhx=>?_)
 .have hx:a<b:=by have:=aT hx;omega
  rw[axG (by omega)];have hm:(a+b)/2<b:=by omega
  have hml:(a+b)/2<l.length:=by omega
  have hg:=getD_some hml;obtain⟨q,rfl,c1,c2,c3,c4⟩:=h1.get hg;have e1:i64.wrap ((((a+b)/2:Nat):Int)+1)=(((a+b)/2+1:Nat):Int):=by rw[wrap_i64 (by omega) (by omega)];omega
  rw[e1];refine⟨by decide,by omega,by omega,_,_,_,_,by rw[bT];exact c1,by rw[bT];exact c2,by rw[bT];exact c3,by rw[bT];exact c4,?_⟩;refine K3 (g:=Bp) (first:=[]) (cap:=[]) ?_;rw[Ze];refine(acP l[(a+b)/2] s).mono ?_;rintro _ w2 ⟨rfl,h2⟩;refine .inl ⟨_,rfl,?_⟩;rw[aeH];refine aB (λhlt=>⟨⟨_,b,rfl,rfl,?_,hb,EP,hst.trans h2⟩,by dsimp only;omega⟩) (λhlt=>⟨⟨a,_,rfl,rfl,ha,?_,by omega,hst.trans h2⟩,by dsimp only;omega⟩)
  .rcases aJd ((a+b)/2) (pos s l)with h|h
   .exact h
   .rw[axg hs hg h]at hlt;cases hlt
  .rcases aJd ((a+b)/2) (pos s l)with h|h
   .rw[aeJ hg h]at hlt;cases hlt
   .exact h
 .have hx:a=pos s l/\b=pos s l:=by have:=a_ hx;omega
  obtain⟨rfl,rfl⟩:=hx;have hgp:=S_ s l;refine aB (λhy=>?_) (λhy=>?_)
  .have hy:pos s l<n:=by have:=aT hy;omega
   have hg:=getD_some (p:=l) (i:=pos s l) (by omega);obtain⟨q,rfl,c1,c2,c3,c4⟩:=h1.get hg;refine⟨by omega,by omega,_,_,_,_,by rw[bT];exact c1,by rw[bT];exact c2,by rw[bT];exact c3,by rw[bT];exact c4,?_⟩;refine K3 (g:=Bp) (first:=[]) (cap:=[]) ?_;rw[Ze];refine(acP l[pos s l] s).mono ?_;rintro _ w2 ⟨rfl,h2⟩;refine .inl ⟨_,rfl,?_,hst.trans h2⟩;rw[adN,hgp,hg];dsimp only
   by_cases he:l[pos s l].name=s
   .rw[fV he,aR he];rfl
   .rw[aIl he,aL he];rfl
  .have hy:¬pos s l<n:=by have:=a_ hy;omega
   refine⟨?_,hst⟩;rw[hgp,th (by omega)];rfl
def find_spec{p:Option Addr}{n C:Nat}{l:List Vr}(h:dz w p n C l)(hs:BV l)(hn:n<1000000)(s:ag):
  aH3 Q1 #[.slice p n C,.string (S s)] w (λe w'=>e=.returned (.tuple #[.int .i64 (pos s l:Int),.bool (get s l).isSome])/\Still w w'):=by
 refine anL _ _ _ _ _ _ ?_;refine(ap3 h hs hn s).mono ?_;rintro _ w1 ⟨rfl,h1⟩;exact .inl ⟨_,_,rfl,rfl,h1⟩
def agN{g:Nat}{t:TypeId}{x0 x1 x2 x3:Value}(h:Row w g t ⟨[x0,x1,x2,x3]⟩)(y0 y1 y2 y3:Value):∃W,W=(((w.setCell (Addr.mk g 0 none) y0).setCell (Addr.mk g 1 none) y1).setCell (Addr.mk g 2 none) y2).setCell (Addr.mk g 3 none) y3/\
  Wr w (Addr.mk g 0 none)/\Wr (w.setCell (Addr.mk g 0 none) y0) (Addr.mk g 1 none)/\Wr ((w.setCell (Addr.mk g 0 none) y0).setCell (Addr.mk g 1 none) y1) (Addr.mk g 2 none)/\
  Wr (((w.setCell (Addr.mk g 0 none) y0).setCell (Addr.mk g 1 none) y1).setCell (Addr.mk g 2 none) y2) (Addr.mk g 3 none)/\Row W g t ⟨[y0,y1,y2,y3]⟩/\Mod (λi=>i=g) w W:=by
 have h1:=h.gZ 0 y0;have h2:=h1.gZ 1 y1;have h3:=h2.gZ 2 y2;have h4:=h3.gZ 3 y3;exact⟨_,rfl,h.wr 0 (by simp),h1.wr 1 (by simp),h2.wr 2 (by simp),h3.wr 3 (by simp),h4,((((Mod.refl (λi=>i=g) w).setCell (p:=Addr.mk g 0 none) (.inl rfl) y0).setCell (p:=Addr.mk g 1 none) (.inl rfl) y1).setCell (p:=Addr.mk g 2 none) (.inl rfl) y2).setCell (p:=Addr.mk g 3 none) (.inl rfl) y3⟩
def axH(w:World):∃w0,w0=w.alloc (.cells #[(.string (S ([]:List UInt8))),(.string (S ([]:List UInt8))),(.bool false),(.bool false)] 32)/\Row w0 w.heap.size 32 ⟨An Vr.zero⟩/\Still w w0/\w0.heap.size=w.heap.size+1:=
 ⟨_,rfl,Row.new w 32 ⟨An Vr.zero⟩,(Mod.refl _ _).alloc _,World.size_alloc ..⟩
section
variable{w2 w7:World}{B L L':Nat}{e:TypeId}{v v':Value}{xs ys:List Value}{size:Nat}
end
def getD_at{s:ag}{l:List Vr}(h:(get s l).isSome=true):∃hk:pos s l<l.length,getD s l=l[pos s l]:=by
 have hg:=S_ s l;cases hp:l[pos s l]? with
 |none=>rw[hp]at hg;rw[hg]at h;cases h
 |some v=>
  rw[hp]at hg;dsimp only at hg;split at hg
  .obtain⟨hk,he⟩:=jj.1 hp
   exact⟨hk,by rw[getD,hg,he];rfl⟩
  .rw[hg]at h;cases h
def au2{p:Option Addr}{n C:Nat}{l:List Vr}(h:dz w p n C l)(hs:BV l)(hn:n<1000000)(s:ag):
  aH3 Re #[.slice p n C,.string (S s)] w (λe w'=>e=.returned (.tuple #[.agg #[.string (S (getD s l).name),.string (S (getD s l).value),.bool (getD s l).exp,.bool (getD s l).ro],.bool (get s l).isSome])/\Still w w'):=by
 refine an_ _ _ _ _ _ _ ?_;unfold ZG;obtain⟨w0,hw0,sW,aKE,hs0⟩:=axH w;rw[<-hw0];refine(find_spec (h.still aKE) hs hn s).mono ?_;rintro _ w1 ⟨rfl,h1⟩;have cG:Row w1 w.heap.size 32 ⟨An Vr.zero⟩:=sW.mod h1 (λh=>h);have aJi:=aKE.trans h1;refine .inl ⟨_,_,rfl,λw2=>Row w2 w.heap.size 32 ⟨An (getD s l)⟩/\Still w w2,aB (λhb=>?_) (λhb=>?_),?_⟩
 .obtain⟨hk,he⟩:=getD_at hb
  obtain⟨a,rfl,c1,c2,c3,c4⟩:=(h.still aJi).get (getD_some hk);have hl:=h.1;obtain⟨w2,hw2,d1,d2,d3,d4,hr2,hm2⟩:=agN cG (.string (S l[pos s l].name)) (.string (S l[pos s l].value)) (.bool l[pos s l].exp) (.bool l[pos s l].ro);refine⟨by omega,by omega,_,_,_,_,by rw[bT];exact c1,by rw[bT];exact c2,by rw[bT];exact c3,by rw[bT];exact c4,d1,d2,d3,d4,?_⟩;rw[<-hw2,he];exact⟨hr2,aJi.box (aW _) hm2⟩
 .have:getD s l=Vr.zero:=by
   cases hg:get s l with
   |none=>rw[getD,hg];rfl
   |some v=>rw[hg]at hb;cases hb
  rw[this];exact⟨cG,aJi⟩
 .rintro _ w2 ⟨hr2,UK⟩
  obtain⟨w3,hw3,d1,d2,d3,d4,hr3,dD⟩:=agN hr2 (.string (S (getD s l).name)) (.string (S (getD s l).value)) (.bool (getD s l).exp) (.bool (getD s l).ro);refine⟨_,_,_,_,hr2.dY rfl,hr2.dY rfl,hr2.dY rfl,hr2.dY rfl,d1,d2,d3,d4,?_⟩;rw[<-hw3];exact⟨_,_,_,_,hr3.dY rfl,hr3.dY rfl,hr3.dY rfl,hr3.dY rfl,rfl,UK.box (aW _) dD⟩
end Go.Proofs.YtihaaoehhgmphaaGreatDoor.A
namespace Go.Proofs.YtihaaoehhgmphaaGreatDoor.A
open IntKind Go.RowKit Vc Go.Shelf
variable{w:World}
section
variable{p:Option Addr}{n C:Nat}{l:List Vr}
end
end Go.Proofs.YtihaaoehhgmphaaGreatDoor.A
namespace Go.Proofs.YtihaaoehhgmphaaGreatDoor.A
open IntKind Go.RowKit Vc
variable{w:World}
abbrev qE(k:Nat):List PanicEntry:=[{v:=.iface 28 (.int .i64 (k:Int)),recovered:=false}]
def aJl(b:Bool)(k:Nat):aH3 aJz #[.bool b,.int .i64 (k:Int)] w (λe w'=>(if b=true then e=.returned (.tuple #[])else e=.panicked (qE k))/\w'=w):=by
 refine ane _ _ _ _ ?_;cases b
 .exact⟨rfl,rfl⟩
 .exact⟨rfl,rfl⟩
def Zf(s:ag)(cs:ag)(hcs:cs.length<4294967281)(ha:cs.all (λb=>decide (b.toNat<128))=true):aH3 PK #[.string (S s),.string (S cs)] w (λe w'=>e=.returned (.string (S (s.dropWhile (cs.contains ·))))/\Still w w'):=by refine(Any.strings_TrimLeft_laid Tryz.lays161 (by kernel_rfl) (S s) (S cs) w (by simpa[ByteArray.size]using hcs) (ascii_of_all ha)).mono ?_;rintro _ w' ⟨rfl,hb⟩;exact⟨rfl,(Still.refl w).trans' hb (aW _)⟩
def aoj:aH3 PW #[] w (λe w'=>∃b,e=.returned (.slice (some ⟨b,0,none⟩) 30 30)/\c_ w' (some ⟨b,0,none⟩) 30 ru/\Still w w'):=by refine alF _ _ ?_;exact aP λw1 cG hs1 hz1=>⟨_,rfl,c_.row (l:=ru) cG,hs1⟩
def LO{g:Nat}{s:ag}(h:Row w g 72 ⟨[.string (S s)]⟩):aH3 De #[.pointer (some ⟨g,0,none⟩)] w (λe w'=>e=.returned (.string (S (de s)))/\Row w' g 72 ⟨[.string (S (trim s))]⟩/\Mod (λk=>k=g) w w'):=by
 refine alE _ _ _ ?_;refine⟨s,h.aj rfl,(Zf s [32,9,10] (by decide) (by decide)).mono ?_⟩;rintro _ w1 ⟨rfl,hs1⟩;have et:s.dropWhile (([32,9,10]:ag).contains ·)=trim s:=by unfold trim;congr 1;funext c;simp[aeK,Qj];rfl
 refine .inl ⟨_,rfl,?_⟩;rw[et];refine aH5 (h.still hs1) (by simp) (by simp[Value.oneCell']) λw2 hr2 hm2 jU=>?_;refine aoj.mono ?_;rintro _ w3 ⟨b,rfl,aJ9,hs3⟩;refine .inl ⟨_,_,_,rfl,?_⟩;have dD:Mod (λk=>k=g) w w3:=Mod.trans (Mod.trans hs1 hm2 (λ_ h=>h.elim) (λ_ _ h=>h)) hs3 (λ_ h=>h) (λ_ _ h=>h.elim);refine⟨λx w4=>∃i:Nat,x=(i:Int)/\i<=30/\de s=((ru.drop i).find? (λo=>o.isPrefixOf (trim s))).getD []/\Still w3 w4,λx _=>30-x.toNat,⟨0,rfl,dx _,rfl,Still.refl _⟩,?_⟩;rintro _ _ w4 ⟨i,rfl,hi,ho,hs4⟩;have hr4:Row w4 g 72 ⟨[.string (S (trim s))]⟩:=(hr2.still hs3).still hs4;have k4:Mod (λk=>k=g) w w4:=Mod.trans dD hs4 (λ_ h=>h) (λ_ _ h=>h.elim);refine aB (λhx=>?_) (λhx=>?_)
 .have hx:i<30:=by have:=aT hx;omega
  have e1:i64.wrap ((i:Int)+1)=((i+1:Nat):Int):=by rw[wrap_i64 (by omega) (by omega)];omega
  obtain⟨a,ha,hc⟩:=(aJ9.still hs4).get hx;injection ha with ha;subst ha;refine⟨by omega,by omega,_,by rw[bT,eX];exact hc,_,hr4.aj rfl,?_⟩;refine(Tryz.strings_HasPrefix _ _ _).mono ?_;rintro _ w5 ⟨rfl,rfl⟩;refine .inl ⟨_,rfl,?_⟩;have hil:i<ru.length:=hx;rw[mI hil,List.find?_cons]at ho;have ep:Lib.hasPrefix (S (trim s)).data.toList (S (ru[i]'hil)).data.toList=(ru[i]'hil).isPrefixOf (trim s):=rfl;rw[ep];cases hp:(ru[i]'hil).isPrefixOf (trim s)with
  |true=>rw[hp]at ho;refine aB (λ_=>⟨?_,hr4,k4⟩) (λh=>by cases h);rw[ho];rfl
  |false=>rw[hp]at ho;refine aB (λh=>by cases h) (λ_=>?_);rw[e1];exact⟨⟨i+1,rfl,hx,ho,hs4⟩,by dsimp only;omega⟩
 .have hx:i=30:=by have:=a_ hx;omega
  rw[hx,XC (by decide)]at ho;rw[ho];exact⟨rfl,hr4,k4⟩
def axI(g:Nat)(p:Option Addr):Prop:=∀a,p=some a->a.block≠g
def Dt{p:Option Addr}{n C:Nat}{l:List ag}(h:c_ w p n l)(hn:n<1000)(x:ag):aH3 zf #[.slice p n C,.string (S x)] w (λe w'=>e=.returned (.bool (decide (x∈l)))/\Still w w'):=by
 refine Xi _ _ _ _ _ _ ?_;have hl:=h.1;have key:aH3 Fh #[.slice p n C,.string (S x)] w (λe w'=>(∃z:Int,e=.returned (.int .i64 z)/\(0<=z↔x∈l))/\Still w w'):=by
  refine Xl _ _ _ _ _ _ ?_;refine⟨λz w1=>∃i:Nat,z=(i:Int)/\i<=n/\x∉l.take i/\w1=w,λz _=>n-z.toNat,⟨0,rfl,dx _,by simp,rfl⟩,?_⟩;rintro _ _ w1 ⟨i,rfl,hi,hno,rfl⟩;refine aB (λhx=>?_) (λhx=>?_)
  .have hx:i<n:=by have:=aT hx;omega
   have e1:i64.wrap ((i:Int)+1)=((i+1:Nat):Int):=by rw[wrap_i64 (by omega) (by omega)];omega
   obtain⟨a,rfl,hc⟩:=h.get hx;have hil:i<l.length:=by omega
   refine⟨by omega,by omega,_,by rw[bT,eX];exact hc,aB (λhe=>?_) (λhe=>?_)⟩
   .have he:=aT he
    exact⟨⟨_,rfl,⟨λ_=>by rw[he];exact ou hil,λ_=>by omega⟩⟩,Still.refl _⟩
   .have he:=a_ he
    rw[e1];refine⟨⟨i+1,rfl,hx,?_,rfl⟩,by dsimp only;omega⟩;rw[DC hil];intro hm;rcases aIL.1 hm with hm|hm
    .exact hno hm
    .simp at hm
     exact he hm
  .have hx:i=l.length:=by have:=a_ hx;omega
   rw[hx,oT]at hno;exact⟨⟨_,rfl,⟨λh=>absurd h (by decide),λh=>absurd h hno⟩⟩,Still.refl _⟩
 refine key.mono ?_;rintro _ w1 ⟨⟨z,rfl,hz⟩,hs1⟩;refine .inl ⟨_,rfl,?_,hs1⟩;rw[qW.2 hz]
def wh{g:Nat}{s:ag}(h:Row w g 72 ⟨[.string (S s)]⟩){p:Option Addr}{n C:Nat}{l:List ag}(hl:c_ w p n l)(hg:axI g p)(hn:n<1000)(h0:[]∉l):
  aH3 aKd #[.pointer (some ⟨g,0,none⟩),.slice p n C] w (λe w'=>(if de s∈l then e=.returned (.string (S (de s)))/\Row w' g 72 ⟨[.string (S (jh s))]⟩else e=.returned (.string (S []))/\Row w' g 72 ⟨[.string (S (trim s))]⟩)/\Mod (λk=>k=g) w w'):=by
 refine ak7 _ _ _ _ _ _ ?_;refine(LO h).mono ?_;rintro _ w1 ⟨rfl,cG,aId⟩;refine .inl ⟨_,rfl,aB (λhe=>?_) (λhe=>?_)⟩
 .have he:=aT he
  try dsimp only[zR]
  rw[aL (show¬de s∈l by rw[he];exact h0)];exact⟨⟨rfl,cG⟩,aId⟩
 have he:=a_ he;have hl1:c_ w1 p n l:=⟨hl.1,λhn=>by
  obtain⟨a,ha,hc⟩:=hl.2 hn;exact⟨a,ha,λj u hu=>(World.cell?_of_block (aId.block _ (World.block_lt_of_cell? _ _ (hc j u hu)) (by
   have hb:(a.add j).block=a.block:=by unfold Addr.add;split<;>rfl
   rw[hb];exact hg a ha))).trans (hc j u hu)⟩⟩
 refine(Dt hl1 hn _).mono ?_;rintro _ w2 ⟨rfl,hs2⟩;have hm2:Mod (λk=>k=g) w w2:=Mod.trans aId hs2 (λ_ h=>h) (λ_ _ h=>h.elim);have hr2:=cG.still hs2;refine .inl ⟨_,rfl,aB (λhx=>?_) (λhx=>?_)⟩
 .have hx:de s∉l:=by intro e;rw[fV e]at hx;cases hx
  try dsimp only[zR]
  rw[aL hx];exact⟨⟨rfl,hr2⟩,hm2⟩
 .have hx:de s∈l:=by
   by_cases e:de s∈l
   .exact e
   .rw[aIl e]at hx;cases hx
  have hpre:=(acA he).2;rw[OD]at hpre;have hle:=hpre.length_le;refine⟨trim s,hr2.aj rfl,by omega,by omega,aH5 hr2 (by simp) (by simp[Value.oneCell']) λw3 hr3 dD vl=>?_⟩;rw[bT]at hr3
  try dsimp only[zR]
  rw[aR hx];exact⟨⟨rfl,hr3⟩,Mod.trans hm2 dD (λ_ h=>h) (λ_ _ h=>h)⟩
def nd{p:Prop}[Decidable p](h:(!decide p)=false):p:=by simpa using h
def apb(s:ag):pT s=if 2<s.length/\(s.take 2=[48,120]\/s.take 2=[48,88])then(16,s.drop 2)else if 1<s.length/\s[0]?=some 48 then(8,s)else(10,s):=by
 match s with
 |[]=>rfl
 |[a]=>rfl
 |[a,b]=>
  simp only[pT];rw[aL (show¬(2<[a,b].length/\_)from λe=>absurd e.1 (by simp))]
  by_cases h:a=48<;>simp[h]
 |a::b::c::r=>
  simp only[pT]
  by_cases h:a=48
  ·by_cases h2:b=120\/b=88
   .rw[aR ⟨h,h2⟩,aR ⟨by simp,by rcases h2 with h2|h2<;>simp[h,h2]⟩]
    rfl
   .rw[aL (λe=>h2 e.2),aR h,aL (λe=>h2 (by simpa[h]using e.2)),aR ⟨by simp,by simp[h]⟩]
  .rw[aL (λe=>h e.1),aL h,aL (λe=>h (by rcases e.2 with e|e<;>(simp at e;exact e.1))),aL (λe=>h (by simpa using e.2))]
abbrev Et:ag:=[48,49,50,51,52,53,54,55,56,57,97,98,99,100,101,102,65,66,67,68,69,70]
def au3(c:UInt8):Et.contains c=DW c:=by
 have h:∀n:Nat,n<256->Et.contains (UInt8.ofNat n)=DW (UInt8.ofNat n):=by decide+kernel
 have:=h c.toNat c.toNat_lt;rwa[PG]at this
def asX(l cs:ag):(Lib.trimS l cs=[])↔l.all (λc=>cs.contains c)=true:=by
 unfold Lib.trimS Lib.trimLeftS Lib.trimRightS;have hd:∀(p:UInt8->Bool) (x:ag),x.dropWhile p=[]↔x.all p=true:=by
  intro p x
  induction x with
  |nil=>simp
  |cons c x ih=>
   rw[Pk,zq]
   by_cases h:p c=true
   .rw[aR h,ih,h];simp
   .rw[aL h];simp[h]
 rw[hd];constructor
 .intro h
  rw[PV]at h;cases hx:l.reverse.dropWhile (λc=>cs.contains c)with
  |nil=>have:=(hd _ _).1 hx;rwa[PV]at this
  |cons c x=>have h2:=List.head?_dropWhile_not (λc=>cs.contains c) l.reverse;rw[hx]at h2 h;simp only[zq,eC]at h;simp at h2;exact absurd (by simpa using h.1) h2
 .intro h
  have:l.reverse.dropWhile (λc=>cs.contains c)=[]:=(hd _ _).2 (by rw[PV];exact h);rw[this];rfl
def anS(he:Env w)(b:Nat)(hb:b=8\/b=10\/b=16)(s:ag)(hs:s.length<=140737488355328):
  aH3 PM #[.string (S s),.int .i64 (b:Int),.int .i64 64] w (λe w'=>(∃(m:Int) (y:Value),e=.returned (.tuple #[.int .i64 m,y])/\y.oneCell'=true/\I64 m/\(match jl b s with
   |.ok n=>m=n/\y=.nilIface
   |.bad _=>∃t v,y=.iface t v))/\Still w w'):=by
 refine als _ _ _ _ _ ?_;refine(Zd b hb 64 (.inr rfl) s hs).mono ?_;rintro _ w1 ⟨⟨x,y,rfl,hr⟩,hs1⟩;cases hp:jl b s with
 |ok n=>rw[hp]at hr;obtain⟨rfl,rfl⟩:=hr;exact .inl ⟨_,_,rfl,rfl,⟨_,_,rfl,rfl,Zn hp,rfl,rfl⟩,hs1⟩
 |bad k=>rw[hp]at hr;obtain⟨⟨m,rfl,hm⟩,rfl⟩:=hr;refine .inl ⟨_,_,rfl,rfl,?_⟩;refine(Zq (he.still hs1) _ s b 64 hs (aam hp)).mono ?_;rintro _ w2 ⟨⟨t,v,rfl⟩,hs2⟩;exact .inl ⟨_,rfl,rfl,⟨_,_,rfl,rfl,hm,t,v,rfl⟩,hs1.trans hs2⟩
def arb(he:Env w)(s:ag)(hs:s.length<=140737488355328):
  aH3 QC #[.string (S s)] w (λe w'=>(∃(m:Int) (ok:Bool),e=.returned (.tuple #[.int .i64 m,.bool ok])/\I64 m/\(match MN s with
   |some n=>m=n/\ok=true
   |none=>ok=false))/\Still w w'):=by
 refine amX _ _ _ ?_;have hbc:=apb s;refine⟨λb d w1=>b=((pT s).1:Int)/\d=(pT s).2/\Still w w1,⟨λq w1=>w1=w/\(q=true↔(2<s.length/\(s.take 2=[48,120]\/s.take 2=[48,88]))),?_,?_⟩,?_⟩
 .refine aB (λh=>?_) (λh=>?_)
  .have h:2<s.length:=by have:=aT h;omega
   refine⟨by decide,by omega,aB (λh1=>?_) (λh1=>⟨by decide,by omega,rfl,?_⟩)⟩
   .exact⟨rfl,λ_=>⟨h,.inl (aT h1)⟩,λ_=>rfl⟩
   .rw[kQ]
    exact⟨λe=>⟨h,.inr e⟩,λe=>e.2.resolve_left (a_ h1)⟩
  .exact⟨rfl,(λe=>by cases e),λe=>by have:=a_ h;omega⟩
 .rintro q _ w1 ⟨rfl,hq⟩
  refine aB (λh=>?_) (λh=>?_)
  .have hc:=hq.1 h
   rw[aR hc]at hbc;rw[hbc];exact⟨by decide,by omega,rfl,rfl,(Still.refl _).cK⟩
  .have hc:¬(2<s.length/\(s.take 2=[48,120]\/s.take 2=[48,88])):=λe=>by rw[hq.2 e]at h;cases h
   rw[aL hc]at hbc;refine⟨λq w2=>w2=w1/\(q=true↔(1<s.length/\s[0]?=some 48)),?_,?_⟩
   .refine aB (λh=>?_) (λh=>?_)
    .have h:1<s.length:=by have:=aT h;omega
     have h0:=getD_some (p:=s) (i:=0) (by omega);refine⟨by decide,s[0],h0,rfl,?_⟩;rw[kQ,h0];exact⟨λe=>⟨h,gK some ((dS (b:=48)).1 e)⟩,λe=>(dS (b:=48)).2 (bM e.2)⟩
    .exact⟨rfl,(λe=>by cases e),λe=>by have:=a_ h;omega⟩
   .rintro q _ w2 ⟨rfl,hq2⟩
    refine aB (λh=>?_) (λh=>?_)
    .rw[aR (hq2.1 h)]at hbc
     rw[hbc];exact⟨rfl,rfl,Still.refl _⟩
    .rw[aL (λe=>by rw[hq2.2 e]at h;cases h)]at hbc
     rw[hbc];exact⟨rfl,rfl,Still.refl _⟩
 rintro _ _ _ w3 ⟨rfl,rfl,hs3⟩;have hb:=av5 s;have hdl:(pT s).2.length<=s.length:=by
  rw[hbc];split
  .rw[jx];omega
  .split<;>exact aW _
 unfold MN;generalize(pT s).1=b at*;generalize(pT s).2=ds at*;refine(Any.strings_Trim_laid Tryz.lays160 (by kernel_rfl) (S ds) (S Et) w3 (show ds.length<=9223372036854775807 by omega) (by decide) (ascii_of_all (by decide))).mono ?_;rintro _ w4 ⟨rfl,hb4⟩;have hs4:Still w w4:=hs3.trans ((Still.refl w3).trans' hb4 (aW _));refine .inl ⟨Lib.trimS ds Et,rfl,?_⟩;have hnil:=asX ds Et;have hall:(ds.all λc=>Et.contains c)=ds.all DW:=by congr 1;funext c;exact au3 c
 rw[hall]at hnil;refine aB (λh=>?_) (λh=>?_)
 .have h:¬ds.all DW=true:=λe=>by rw[fV (hnil.2 e)]at h;cases h
  rw[aL h];exact⟨⟨_,_,rfl,by decide,rfl⟩,hs4⟩
 have h:ds.all DW=true:=hnil.1 (nd h);rw[aR h];refine(anS (he.still hs4) b hb ds (by omega)).mono ?_;rintro _ w5 ⟨⟨m,y,rfl,hy,hm,hr⟩,hs5⟩;refine .inl ⟨_,y,hy,rfl,?_⟩;cases hp:jl b ds with
 |ok n=>rw[hp]at hr;obtain⟨rfl,rfl⟩:=hr;exact⟨⟨_,_,rfl,hm,rfl,rfl⟩,(hs4.trans hs5).cK⟩
 |bad k=>rw[hp]at hr;obtain⟨t,v,rfl⟩:=hr;exact⟨⟨_,_,rfl,hm,rfl⟩,(hs4.trans hs5).cK⟩
structure WS(w:World)(g:Nat)(V:List Vr):Prop where
 row:∃p C,Row w g 79 ⟨[.slice p V.length C]⟩/\dz w p V.length C V
 agO:BV V
 aKq:∀v∈V,v.value.length<=140737488355328
def WS.still{g:Nat}{V:List Vr}{w':World}(h:WS w g V)(hm:Still w w'):WS w' g V:=by obtain⟨⟨p,C,h1,h2⟩,h3,h4⟩:=h;exact⟨⟨p,C,h1.still hm,h2.still hm⟩,h3,h4⟩
end Go.Proofs.YtihaaoehhgmphaaGreatDoor.A
namespace Go.Proofs.YtihaaoehhgmphaaGreatDoor
open IntKind Go.RowKit Vc
set_option maxRecDepth 100000
variable{w w0:World}
abbrev fX:TypeId:=112
abbrev kY:TypeId:=104
abbrev aIX:TypeId:=305
structure Sh where
 T:Tree
 V:List A.Vr
 st:Int
 aG:ag
 out:ag
 way:Int
 loops:Int
 last:Int
 fuel:Nat
 aJI:Int
 err:ag
 b_:Nat
structure Kx where
 a:Nat
 g:Nat
 hb:Nat
 sb:Nat
 pb:Nat
 fm:Nat
def iu(K:Kx)(vp:Option Addr)(vc:Nat)(s:Sh):List Value:=
 [.pointer (some ⟨K.sb,0,none⟩),.pointer (some ⟨K.pb,0,none⟩),.string (S []),.slice vp s.V.length vc,.slice none 0 0,.int .i64 s.st,.map (some K.fm),.string (S s.aG),.string (S s.out),.int .i64 s.way,.int .i64 0,.int .i64 s.loops,.int .i64 0,.int .i64 s.last]
structure Sx where
 sp:Option Addr
 sn:Nat
 sc:Nat
 mp:Option Addr
 mn:Nat
 mc:Nat
 ran:Int
 bp:Option Addr
 buf:Value
def oJ(K:Kx)(x:Sx)(s:Sh):List Value:=
 [.pointer (some ⟨K.a,0,none⟩),.int .i64 0,.bool false,.int .i64 0,.string (S []),.string (S []),.slice none 0 0,.string (S []),.slice x.sp x.sn x.sc,.slice x.mp x.mn x.mc,.int .i64 x.ran,.int .i64 0,.int .i64 0,.int .i64 s.aJI,.int .i64 (s.fuel:Int),.pointer x.bp,x.buf]
structure nV(w w0:World)(K:Kx)(x:Sx)(s:Sh):Prop where
 hO:ef w kY K.sb 15 w0.heap.size (oJ K x s) x.buf s.err
 mo:∃xs,aV w w0.heap.size aIX 2 (.slice x.sp x.sn x.sc) x.sn xs
 aIh:x.sn+s.b_<=100000/\s.err.length<=1000000/\s.fuel<=1000000
structure aJ_(w w0:World)(K:Kx)(s:Sh):Prop where
 sY:iV s.T
 iM:iC w K.pb K.a
 fns:dU w K.fm []
 aIx:∃vp vc,Row w K.hb fX ⟨iu K vp vc s⟩/\A.dz w vp s.V.length vc s.V
 gG:∃x,nV w w0 K x s
 low:w0.heap.size<=K.hb/\w0.heap.size<=K.sb
 CH:K.g≠K.fm
structure bF(w w0:World)(K:Kx)(s:Sh):Prop extends aJ_ w w0 K s where
 dh:cQ w w0.heap.size K.a K.g none 0 s.T
def Fc(K:Kx)(w:World)(k:Nat):Prop:=k=K.a\/k=K.g\/k=K.sb\/(∃v,w.cell? ⟨K.sb,8,none⟩=some v/\v.ownBlock=some k)\/∃v,w.cell? ⟨K.sb,16,none⟩=some v/\v.ownBlock=some k
def Ft(K:Kx)(w:World)(k:Nat):Prop:=k=K.hb\/Fc K w k
structure cA(F:Nat->Prop)(w:World)(F':Nat->Prop)(w':World):Prop where
 mod:Mod F w w'
 new:∀k,F' k->F k\/w.heap.size<=k
def cA.trans{F F' I1:Nat->Prop}{w' w'':World}(h:cA F w F' w')(h':cA F' w' I1 w''):cA F w I1 w'':=
 ⟨Mod.trans h.mod h'.mod (λ_ h=>h) (λi hi hF=>(h.new i hF).elim id λhn=>by omega),λk hk=>by
  rcases h'.new k hk with hk|hk
  .exact h.new k hk
  .have:=h.mod.size;exact .inr (by omega)⟩
def cA.of{F F':Nat->Prop}{S:Nat->Prop}{w':World}(hm:Mod S w w')(hS:∀k,S k->F k)(hn:∀k,F' k->F k\/w.heap.size<=k):cA F w F' w':=⟨hm.weaken hS,hn⟩
def Kept(D F:Nat->Prop)(w:World):Prop:=∀k,D k->k<w.heap.size/\¬F k
def Kept.gone{D F F':Nat->Prop}{w':World}(h:Kept D F w)(hg:cA F w F' w'):Kept D F' w':=λk hk=>by have h1:=h k hk;have h2:=hg.mod.size;exact⟨by omega,λhF=>(hg.new k hF).elim h1.2 λhn=>by omega⟩
section
variable{K:Kx}{s:Sh}
def nV.row{x:Sx}(h:nV w w0 K x s):Row w K.sb kY ⟨oJ K x s⟩:=h.hO.row
def nV.own{x:Sx}(h:nV w w0 K x s){k:Nat}(hk:Fc K w k):k=K.a\/k=K.g\/k=K.sb\/(Value.slice x.sp x.sn x.sc).ownBlock=some k\/x.buf.ownBlock=some k:=by
 rcases hk with h1|h1|h1|⟨v,hv,h1⟩|⟨v,hv,h1⟩
 .exact .inl h1
 .exact .inr (.inl h1)
 .exact .inr (.inr (.inl h1))
 .have:w.cell? ⟨K.sb,8,none⟩=some (.slice x.sp x.sn x.sc):=h.row.aj rfl
  rw[this]at hv;obtain rfl:=bM hv;exact .inr (.inr (.inr (.inl h1)))
 .have:w.cell? ⟨K.sb,16,none⟩=some x.buf:=h.row.aj rfl
  rw[this]at hv;obtain rfl:=bM hv;exact .inr (.inr (.inr (.inr h1)))
def nV.xT{x:Sx}(h:nV w w0 K x s){k:Nat}(hk:k=K.a\/k=K.g\/k=K.sb\/(Value.slice x.sp x.sn x.sc).ownBlock=some k\/x.buf.ownBlock=some k):Fc K w k:=by
 rcases hk with h1|h1|h1|h1|h1
 .exact .inl h1
 .exact .inr (.inl h1)
 .exact .inr (.inr (.inl h1))
 .exact .inr (.inr (.inr (.inl ⟨_,h.row.aj rfl,h1⟩)))
 .exact .inr (.inr (.inr (.inr ⟨_,h.row.aj rfl,h1⟩)))
def aIY{k g:Nat}{t:TypeId}{cs:Array Value}{es:List KV}(h:dU w g es)(hr:Row w k t cs):k≠g:=λe=>h.cY hr e.symm
def bF.apart(h:bF w w0 K s){k:Nat}{t:TypeId}{cs:Array Value}(hr:Row w k t cs)(h1:t≠fX)(h2:t≠kY)(h3:t≠aIX)(h4:t≠5)(h5:t≠j5):¬Ft K w k:=by
 obtain⟨vp,vc,hh,hv⟩:=h.aIx;obtain⟨x,hx⟩:=h.gG;obtain⟨xs,hs⟩:=hx.mo;rintro(rfl|hk)
 .exact hr.ne hh h1 rfl
 .rcases hx.own hk with rfl|rfl|rfl|hk|hk
  .exact hr.ne h.dh.top h5 rfl
  .exact aIY h.dh.now hr rfl
  .exact hr.ne hx.row h2 rfl
  .exact hs.cY hr (λe=>h3 e.symm) hk
  .exact hx.hO.own.cY hr (λe=>h4 e.symm) hk
def bF.lt(h:bF w w0 K s){k:Nat}(hk:Ft K w k):w0.heap.size<=k/\k<w.heap.size:=by
 obtain⟨vp,vc,hh,hv⟩:=h.aIx;obtain⟨x,hx⟩:=h.gG;obtain⟨xs,hs⟩:=hx.mo;rcases hk with rfl|hk
 .exact⟨h.low.1,hh.lt⟩
 .rcases hx.own hk with rfl|rfl|rfl|hk|hk
  .exact⟨h.dh.low.1,h.dh.top.lt⟩
  .exact⟨h.dh.low.2,h.dh.now.lt⟩
  .exact⟨h.low.2,hx.row.lt⟩
  .exact hs.lt k hk
  .exact hx.hO.own.lt k hk
def bF.Th(h:bF w w0 K s){p:Option Addr}{n c:Nat}{V:List A.Vr}(hv:A.dz w p n c V)(hn:0<n):∀a,p=some a->¬Ft K w a.block:=by intro a ha;obtain⟨a',cs,h1,h2⟩:=hv.2.2.2 hn;rw[ha]at h1;obtain rfl:=bM h1;exact h.apart h2 (by decide) (by decide) (by decide) (by decide) (by decide)
def dz.yw{S:Nat->Prop}{w':World}{p:Option Addr}{n c:Nat}{V:List A.Vr}(hv:A.dz w p n c V)(hm:Mod S w w')(hS:0<n->∀a,p=some a->¬S a.block):A.dz w' p n c V:=by
 rcases pK n with h0|h0
 .exact⟨hv.1,hv.2.1,λh=>by omega,λh=>by omega⟩
 .exact hv.mod hm (hS h0)
def aJ_.mod{S:Nat->Prop}{w':World}(h:aJ_ w w0 K s)(hm:Mod S w w')(hS:∀k,S k->k<w.heap.size->k≠K.hb/\k≠K.sb/\k≠K.pb/\k≠K.fm/\∀t cs,Row w k t cs->t≠aIX/\t≠5/\t≠32):aJ_ w' w0 K s:=by
 obtain⟨vp,vc,hh,hv⟩:=h.aIx;obtain⟨x,hx⟩:=h.gG;obtain⟨xs,hs⟩:=hx.mo;refine⟨h.sY,h.iM.mod hm λhs=>(hS _ hs h.iM.lt).2.2.1 rfl,h.fns.mod hm λhs=>(hS _ hs h.fns.lt).2.2.2.1 rfl,⟨vp,vc,hh.mod hm λhs=>(hS _ hs hh.lt).1 rfl,dz.yw hv hm λh0 a ha hs=>?_⟩,⟨x,hx.hO.mod hm (λhs=>(hS _ hs hx.row.lt).2.1 rfl) λk hk hs=>?_,⟨xs,hs.mod hm λk hk V5=>?_⟩,hx.aIh⟩,h.low,h.CH⟩
 .obtain⟨a',cs,h1,h2⟩:=hv.2.2.2 h0
  rw[ha]at h1;obtain rfl:=bM h1;exact((hS _ hs h2.lt).2.2.2.2 _ _ h2).2.2 rfl
 .obtain⟨cur,hr⟩:=hx.hO.own.typed hk
  exact((hS _ hs hr.lt).2.2.2.2 _ _ hr).2.1 rfl
 .obtain⟨cur,hr⟩:=hs.typed hk
  exact((hS _ V5 hr.lt).2.2.2.2 _ _ hr).1 rfl
def aJ_.still{w':World}(h:aJ_ w w0 K s)(hm:Still w w'):aJ_ w' w0 K s:=h.mod hm λ_ h _=>h.elim
def bF.still{w':World}(h:bF w w0 K s)(hm:Still w w'):bF w' w0 K s:=⟨h.toaJ_.still hm,h.dh.still hm⟩
def Fc.same{w':World}{k:Nat}(hc:∀o,w'.cell? ⟨K.sb,o,none⟩=w.cell? ⟨K.sb,o,none⟩):Fc K w' k↔Fc K w k:=by unfold Fc;rw[hc 8,hc 16]
def bF.G1{S:Nat->Prop}{w':World}(h:bF w w0 K s)(hm:Mod S w w')(hS:¬S K.sb)(o:Nat):w'.cell? ⟨K.sb,o,none⟩=w.cell? ⟨K.sb,o,none⟩:=by obtain⟨x,hx⟩:=h.gG;exact World.cell?_of_block (hm.block _ hx.row.lt hS)
def bF.gone{w':World}(h:bF w w0 K s)(hm:Still w w'):cA (Ft K w) w (Ft K w') w':=by
 refine⟨hm.weaken λ_ h=>h.elim,λk hk=>?_⟩;rcases hk with hk|hk
 .exact .inl (.inl hk)
 .exact .inl (.inr ((Fc.same λo=>h.G1 hm (λh=>h) o).1 hk))
end
end Go.Proofs.YtihaaoehhgmphaaGreatDoor
namespace Go.Proofs.YtihaaoehhgmphaaGreatDoor
open IntKind Go.RowKit Vc
set_option maxRecDepth 100000
variable{w w0:World}{K:Kx}{s:Sh}
def cA.refl{F:Nat->Prop}(w:World):cA F w F w:=⟨Mod.refl _ _,λ_ h=>.inl h⟩
def bF.tys(h:bF w w0 K s):K.hb≠K.sb/\K.hb≠K.a/\K.hb≠K.g/\K.hb≠K.pb/\K.hb≠K.fm/\K.sb≠K.a/\K.sb≠K.g/\K.sb≠K.pb/\K.sb≠K.fm/\K.a≠K.pb/\K.a≠K.fm/\K.g≠K.pb/\K.g≠K.fm:=by obtain⟨vp,vc,hh,hv⟩:=h.aIx;obtain⟨x,hx⟩:=h.gG;exact⟨hh.ne hx.row (by decide),hh.ne h.dh.top (by decide),aIY h.dh.now hh,hh.ne h.iM (by decide),aIY h.fns hh,hx.row.ne h.dh.top (by decide),aIY h.dh.now hx.row,hx.row.ne h.iM (by decide),aIY h.fns hx.row,h.dh.top.ne h.iM (by decide),aIY h.fns h.dh.top,(aIY h.dh.now h.iM).symm,h.CH⟩
def bF.put(h:bF w w0 K s){s':Sh}(e1:s'.T=s.T)(e2:s'.fuel=s.fuel)(e3:s'.aJI=s.aJI)(e4:s'.err=s.err)(e5:s'.b_=s.b_){vp:Option Addr}{vc:Nat}{w':World}(hm:Mod (λk=>k=K.hb) w w')(hr:Row w' K.hb fX ⟨iu K vp vc s'⟩)(hv:A.dz w vp s'.V.length vc s'.V):
  bF w' w0 K s'/\cA (Ft K w) w (Ft K w') w':=by
 obtain⟨t1,t2,t3,t4,t5,_⟩:=h.tys;obtain⟨vp0,vc0,hh,_⟩:=h.aIx;obtain⟨x,hx⟩:=h.gG;obtain⟨xs,hs⟩:=hx.mo;have es:oJ K x s'=oJ K x s:=by simp only[oJ,e2,e3]
 have hx':nV w' w0 K x s':=by
  refine⟨?_,⟨xs,hs.mod hm λk hk e=>?_⟩,by rw[e4,e2,e5];exact hx.aIh⟩
  .rw[es,e4]
   exact hx.hO.mod hm (λe=>t1 e.symm) λk hk e=>hx.hO.own.cY hh (by decide) (by rw[hk,e])
  .exact hs.cY hh (by decide) (by rw[hk,e])
 refine⟨⟨⟨by rw[e1];exact h.sY,h.iM.mod hm (λe=>t4 e.symm),h.fns.mod hm (λe=>t5 e.symm),⟨vp,vc,hr,dz.yw hv hm λh0 a ha e=>h.Th hv h0 a ha (.inl e)⟩,⟨x,hx'⟩,h.low,h.CH⟩,?_⟩,?_⟩
 .rw[e1]
  refine h.dh.mod hm λk hk e=>?_;rcases hk with rfl|rfl|⟨t,ht,_⟩
  .exact t2 e.symm
  .exact t3 e.symm
  .cases ht
 .refine⟨hm.weaken λk hk=>.inl hk,λk hk=>.inl ?_⟩
  rcases hk with hk|hk
  .exact .inl hk
  .exact .inr ((Fc.same λo=>h.G1 hm (λe=>t1 e.symm) o).1 hk)
def bF.cell{i:Nat}{v:Value}(h:bF w w0 K s)(hv:∀vp vc,(iu K vp vc s)[i]?=some v):w.cell? ⟨K.hb,i,none⟩=some v:=by obtain⟨vp,vc,hh,_⟩:=h.aIx;exact hh.aj (hv vp vc)
section
variable{P:World->Prop}
def bF.Mr(h:bF w w0 K s)(x:Int)(hK:∀w',bF w' w0 K {s with st:=x}->cA (Ft K w) w (Ft K w') w'->Mod (λk=>k=K.hb) w w'->P w'):cJ (Addr.mk K.hb 5 none) P 0 [.int .i64 x] w:=by obtain⟨vp,vc,hh,hv⟩:=h.aIx;refine aH5 (g:=K.hb) (o:=5) hh (by simp[iu]) (by simp[Value.oneCell']) λw' r' m' z'=>?_;obtain⟨h1,h2⟩:=h.put (s':={s with st:=x}) rfl rfl rfl rfl rfl m' r' hv;exact hK w' h1 h2 m'
def bF.afF(h:bF w w0 K s)(x:ag)(hK:∀w',bF w' w0 K {s with aG:=x}->cA (Ft K w) w (Ft K w') w'->Mod (λk=>k=K.hb) w w'->P w'):cJ (Addr.mk K.hb 7 none) P 0 [.string (S x)] w:=by obtain⟨vp,vc,hh,hv⟩:=h.aIx;refine aH5 (g:=K.hb) (o:=7) hh (by simp[iu]) (by simp[Value.oneCell']) λw' r' m' z'=>?_;obtain⟨h1,h2⟩:=h.put (s':={s with aG:=x}) rfl rfl rfl rfl rfl m' r' hv;exact hK w' h1 h2 m'
def bF.L8(h:bF w w0 K s)(x:ag)(hK:∀w',bF w' w0 K {s with out:=x}->cA (Ft K w) w (Ft K w') w'->Mod (λk=>k=K.hb) w w'->P w'):cJ (Addr.mk K.hb 8 none) P 0 [.string (S x)] w:=by obtain⟨vp,vc,hh,hv⟩:=h.aIx;refine aH5 (g:=K.hb) (o:=8) hh (by simp[iu]) (by simp[Value.oneCell']) λw' r' m' z'=>?_;obtain⟨h1,h2⟩:=h.put (s':={s with out:=x}) rfl rfl rfl rfl rfl m' r' hv;exact hK w' h1 h2 m'
def bF.axJ(h:bF w w0 K s)(x:Int)(hK:∀w',bF w' w0 K {s with way:=x}->cA (Ft K w) w (Ft K w') w'->Mod (λk=>k=K.hb) w w'->P w'):cJ (Addr.mk K.hb 9 none) P 0 [.int .i64 x] w:=by obtain⟨vp,vc,hh,hv⟩:=h.aIx;refine aH5 (g:=K.hb) (o:=9) hh (by simp[iu]) (by simp[Value.oneCell']) λw' r' m' z'=>?_;obtain⟨h1,h2⟩:=h.put (s':={s with way:=x}) rfl rfl rfl rfl rfl m' r' hv;exact hK w' h1 h2 m'
def bF.setLast(h:bF w w0 K s)(x:Int)(hK:∀w',bF w' w0 K {s with last:=x}->cA (Ft K w) w (Ft K w') w'->Mod (λk=>k=K.hb) w w'->P w'):cJ (Addr.mk K.hb 13 none) P 0 [.int .i64 x] w:=by obtain⟨vp,vc,hh,hv⟩:=h.aIx;refine aH5 (g:=K.hb) (o:=13) hh (by simp[iu]) (by simp[Value.oneCell']) λw' r' m' z'=>?_;obtain⟨h1,h2⟩:=h.put (s':={s with last:=x}) rfl rfl rfl rfl rfl m' r' hv;exact hK w' h1 h2 m'
def bF.agP(h:bF w w0 K s){q:Option Addr}{D:Nat}{V:List A.Vr}(hq:A.dz w q V.length D V)(hK:∀w',bF w' w0 K {s with V:=V}->cA (Ft K w) w (Ft K w') w'->Mod (λk=>k=K.hb) w w'->P w'):cJ (Addr.mk K.hb 3 none) P 0 [.slice q V.length D] w:=by obtain⟨vp,vc,hh,hv⟩:=h.aIx;refine aH5 (g:=K.hb) (o:=3) hh (by simp[iu]) (by simp[Value.oneCell']) λw' r' m' z'=>?_;obtain⟨h1,h2⟩:=h.put (s':={s with V:=V}) rfl rfl rfl rfl rfl m' r' hq;exact hK w' h1 h2 m'
def bF.setState(h:bF w w0 K s){q:Option Addr}{D:Nat}{V:List A.Vr}(hq:A.dz w q V.length D V)(x:Int)(hK:∀w',bF w' w0 K {s with V:=V,st:=x}->cA (Ft K w) w (Ft K w') w'->Mod (λk=>k=K.hb) w w'->P w'):cJ (Addr.mk K.hb 3 none) P 0 [.slice q V.length D,.slice none 0 0,.int .i64 x] w:=by obtain⟨vp,vc,hh,hv⟩:=h.aIx;refine aH5 (g:=K.hb) (o:=3) hh (by simp[iu]) (by simp[Value.oneCell']) λw' r' m' z'=>?_;obtain⟨h1,h2⟩:=h.put (s':={s with V:=V,st:=x}) rfl rfl rfl rfl rfl m' r' hq;exact hK w' h1 h2 m'
end
def bF.UL(h:bF w w0 K s){s':Sh}(eT:s'.T=s.T){w':World}(hm:Mod (Fc K w) w w'){x':Sx}(hx:nV w' w0 K x' s')(es:∀vp vc,iu K vp vc s'=iu K vp vc s)(eV:s'.V=s.V)(hst:cQ w' w0.heap.size K.a K.g none 0 s.T)
  (hn:∀k,((Value.slice x'.sp x'.sn x'.sc).ownBlock=some k\/x'.buf.ownBlock=some k)->Fc K w k\/w.heap.size<=k):bF w' w0 K s'/\cA (Ft K w) w (Ft K w') w':=by
 obtain⟨t1,t2,t3,t4,t5,t6,t7,t8,t9,t10,t11,t12,t13⟩:=h.tys;obtain⟨vp,vc,hh,hv⟩:=h.aIx;obtain⟨x,hx0⟩:=h.gG;obtain⟨xs,hs0⟩:=hx0.mo;have nC:∀{k:Nat} {t:TypeId} {cs:Array Value},Row w k t cs->t≠kY->t≠aIX->t≠5->t≠j5->¬Fc K w k:=by
  intro k t cs hr h2 h3 h4 h5 hk;rcases hx0.own hk with rfl|rfl|rfl|hk|hk
  .exact hr.ne h.dh.top h5 rfl
  .exact aIY h.dh.now hr rfl
  .exact hr.ne hx0.row h2 rfl
  .exact hs0.cY hr (λe=>h3 e.symm) hk
  .exact hx0.hO.own.cY hr (λe=>h4 e.symm) hk
 refine⟨⟨⟨by rw[eT];exact h.sY,h.iM.mod hm (nC h.iM (by decide) (by decide) (by decide) (by decide)),?_,⟨vp,vc,by rw[es];exact hh.mod hm (nC hh (by decide) (by decide) (by decide) (by decide)),?_⟩,⟨x',hx⟩,h.low,h.CH⟩,by rw[eT];exact hst⟩,?_⟩
 .refine h.fns.mod hm λhk=>?_
  rcases hx0.own hk with hk|hk|hk|hk|hk
  .exact t11 hk.symm
  .exact t13 hk.symm
  .exact t9 hk.symm
  .obtain⟨cur,hr⟩:=hs0.typed hk
   exact h.fns.cY hr rfl
  .obtain⟨cur,hr⟩:=hx0.hO.own.typed hk
   exact h.fns.cY hr rfl
 .rw[eV]
  refine dz.yw hv hm λh0 a ha hk=>h.Th hv h0 a ha (.inr hk)
 .refine⟨hm.weaken λk hk=>.inr hk,λk hk=>?_⟩
  rcases hk with hk|hk
  .exact .inl (.inl hk)
  .rcases hx.own hk with hk|hk|hk|hk|hk
   .exact .inl (.inr (.inl hk))
   .exact .inl (.inr (.inr (.inl hk)))
   .exact .inl (.inr (.inr (.inr (.inl hk))))
   .exact(hn k (.inl hk)).imp (λh=>.inr h) id
   .exact(hn k (.inr hk)).imp (λh=>.inr h) id
def nV.dh{x:Sx}(hx:nV w w0 K x s)(h:bF w w0 K s){S:Nat->Prop}{w':World}(hm:Mod S w w')(hS:∀k,S k->k=K.sb\/(Value.slice x.sp x.sn x.sc).ownBlock=some k\/x.buf.ownBlock=some k):cQ w' w0.heap.size K.a K.g none 0 s.T:=by
 obtain⟨xs,hs0⟩:=hx.mo;refine h.dh.mod hm λk hk hsk=>?_;rcases hk with rfl|rfl|⟨t,ht,_⟩
 .rcases hS _ hsk with e|e|e
  .exact hx.row.ne h.dh.top (by decide) e.symm
  .exact hs0.cY h.dh.top (by decide) e
  .exact hx.hO.own.cY h.dh.top (by decide) e
 .rcases hS _ hsk with e|e|e
  .exact aIY h.dh.now hx.row e.symm
  .obtain⟨cur,hr⟩:=hs0.typed e
   exact h.dh.now.cY hr rfl
  .obtain⟨cur,hr⟩:=hx.hO.own.typed e
   exact h.dh.now.cY hr rfl
 .cases ht
section
variable{P:World->Prop}
def bF.afG(h:bF w w0 K s){s':Sh}(eT:s'.T=s.T)(es:∀vp vc,iu K vp vc s'=iu K vp vc s)(eV:s'.V=s.V)(ee:s'.err=s.err)(eb:s'.b_=s.b_)(hf:s'.fuel<=1000000){o:Nat}{v:Value}(ho:o+1<=17)(h1:v.oneCell'=true)(hx':∀x,nV w w0 K x s->∃x',oJ K x' s'=(oJ K x s).set o v/\x'.buf=x.buf/\x'.sp=x.sp/\x'.sn=x.sn/\x'.sc=x.sc)(AX:o≠15)(aIH:o≠16)
  (hK:∀w',bF w' w0 K s'->cA (Ft K w) w (Ft K w') w'->P w'):cJ (Addr.mk K.sb o none) P 0 [v] w:=by
 obtain⟨x,hx⟩:=h.gG;obtain⟨x',e1,e2,e3,e4,e5⟩:=hx' x hx;obtain⟨xs,hs0⟩:=hx.mo;refine aH5 (g:=K.sb) (o:=o) hx.row (by simpa[oJ]using ho) (by simpa using h1) λw' r' m' z'=>?_;have r'':Row w' K.sb kY ⟨oJ K x' s'⟩:=by rw[e1];exact r'
 have hx2:nV w' w0 K x' s':=by refine⟨?_,⟨xs,by rw[e3,e4,e5];exact hs0.mod m' λk hk e=>hs0.cY hx.row (by decide) (by rw[hk,e])⟩,by rw[e4,ee,eb];exact⟨hx.aIh.1,hx.aIh.2.1,hf⟩⟩;rw[e2,ee];exact hx.hO.other r'' m' (by rw[e1,pJ AX]) (by rw[e1,pJ aIH])
 obtain⟨a1,a2⟩:=h.UL eT (m'.weaken λk hk=>.inr (.inr (.inl hk))) hx2 es eV (hx.dh h m' λk hk=>.inl hk) (λk hk=>.inl (hx.xT (by rw[e2,e3,e4,e5]at hk;exact .inr (.inr (.inr hk)))));exact hK w' a1 a2
def bF.awk(h:bF w w0 K s)(n:Nat)(hn:n<=1000000)(hK:∀w',bF w' w0 K {s with fuel:=n}->cA (Ft K w) w (Ft K w') w'->P w'):cJ (Addr.mk K.sb 14 none) P 0 [.int .i64 (n:Int)] w:=
 h.afG (s':={s with fuel:=n}) rfl (λ_ _=>rfl) rfl rfl rfl hn (by decide) rfl (λx _=>⟨x,rfl,rfl,rfl,rfl,rfl⟩) (by decide) (by decide) hK
def bF.axK(h:bF w w0 K s)(n:Int)(hK:∀w',bF w' w0 K s->cA (Ft K w) w (Ft K w') w'->P w'):cJ (Addr.mk K.sb 10 none) P 0 [.int .i64 n] w:=by obtain⟨x,hx⟩:=h.gG;exact h.afG (s':=s) rfl (λ_ _=>rfl) rfl rfl rfl hx.aIh.2.2 (by decide) rfl (λx _=>⟨{x with ran:=n},rfl,rfl,rfl,rfl,rfl⟩) (by decide) (by decide) hK
end
def anT{T g o B:Nat}{cs:List Value}{v:Value}{bs:List UInt8}(h:ef w T g o B cs v bs)(hl:mS T cs.length o)(s:List UInt8)(hB:B<=w.heap.size)(hs:bs.length+s.length<=140737488355328):
  aH3 iA #[.pointer (some ⟨g,o,none⟩),.string (S s)] w (λe w'=>e=.returned (.tuple #[.int .i64 (s.length:Int),.nilIface])/\
   ∃v',ef w' T g o B ((cs.set o (.pointer (some ⟨g,o,none⟩))).set (o+1) v') v' (bs++s)/\Mod (λk=>k=g\/v.ownBlock=some k) w w'/\∀k,v'.ownBlock=some k->v.ownBlock=some k\/w.heap.size<=k):=by
 refine Xk _ _ _ _ ?_;refine(QH h.torj hl).mono ?_;rintro _ w1 ⟨rfl,h1,aId,hz1⟩;have hroom:=h.room;have aGC:=h.ne;obtain⟨p,c,rfl⟩:=h1.own.form;have hlt:=h.lt;refine .inl ⟨rfl,_,_,_,by rw[bR];exact h1.row.aj h1.buf,?_⟩;refine abo h1.own (by omega) (by omega) (by omega) λp' c' w2 iX hm2 gE=>?_;have hr2:=h1.row.mod hm2 (λe=>h1.ne e);show cJ (Addr.add _ 1) _ _ _ _
 rw[bR];refine aH5 hr2 (by simp;omega) (by simp[Value.oneCell']) λw3 hr3 dD vl=>⟨rfl,_,⟨⟨hr3,?_,?_,?_,?_⟩,?_⟩,?_,?_⟩
 .exact .inr (by show((cs.set o _).set (o+1) _)[o]?=_;rw[pJ (by omega),qV (by omega)])
 .exact qV (by simp;omega)
 .have hne:(Value.slice p' (bs.length+s.length) c').ownBlock≠some g:=by
   rcases gE.own (n:=bs.length)with e|e
   .rw[e];exact h1.ne
   .rw[e];have:=h1.row.lt;exact λe=>by injection e with e;omega
  have:=iX.mod dD (λk hk e=>hne (by rw[hk,e]));rw[<-DB]at this;rw[aIa];exact this
 .rcases gE.own (n:=bs.length)with e|e
  .rw[e];exact h1.ne
  .rw[e];have:=h1.row.lt;exact λe=>by injection e with e;omega
 .rw[Roomy,aIa]
  exact Su gE rfl hroom iX
 .exact Mod.trans aId (Mod.trans hm2 dD (U:=λk=>k=g\/(Value.slice p bs.length c).ownBlock=some k) (λ_ h=>.inr h) (λ_ _ h=>.inl h)) (λ_ h=>.inl h) (λ_ _ h=>h)
 .intro k hk
  rcases gE.own (n:=bs.length)with e|e
  .exact .inl (e.symm.trans hk)
  .rw[hk]at e
   exact .inr (by have:=bM e;omega)
def awl:mS kY 17 15:=by unfold mS;kernel_rfl
def bF.acQ(h:bF w w0 K s)(hz:w0.heap.size<=w.heap.size)(x:ag)(hl:s.err.length+x.length<=1000000):
  aH3 iA #[.pointer (some ⟨K.sb,15,none⟩),.string (S x)] w (λe w'=>e=.returned (.tuple #[.int .i64 (x.length:Int),.nilIface])/\bF w' w0 K {s with err:=s.err++x}/\cA (Ft K w) w (Ft K w') w'):=by
 obtain⟨y,hy⟩:=h.gG;obtain⟨xs,hs0⟩:=hy.mo;refine(anT hy.hO awl x hz (by omega)).mono ?_;rintro _ w' ⟨rfl,v',h1,m1,n1⟩;refine⟨rfl,?_⟩;have hy2:nV w' w0 K {y with bp:=some ⟨K.sb,15,none⟩,buf:=v'} {s with err:=s.err++x}:=by
  refine⟨h1,⟨xs,hs0.mod m1 λk hk e=>?_⟩,hy.aIh.1,by simp;omega,hy.aIh.2.2⟩;rcases e with e|e
  .exact hs0.cY hy.row (by decide) (by rw[hk,e])
  .exact hs0.apart hy.hO.own (by decide) hk e
 refine h.UL (s':={s with err:=s.err++x}) rfl (m1.weaken λk hk=>?_) hy2 (λ_ _=>rfl) rfl (hy.dh h m1 λk hk=>hk.imp id .inr) λk hk=>?_
 .rcases hk with hk|hk
  .exact hy.xT (.inr (.inr (.inl hk)))
  .exact hy.xT (.inr (.inr (.inr (.inr hk))))
 .rcases hk with hk|hk
  .exact .inl (hy.xT (.inr (.inr (.inr (.inl hk)))))
  .exact(n1 k hk).imp (λh=>hy.xT (.inr (.inr (.inr (.inr h))))) id
def bF.adV(h:bF w w0 K s)(hz:w0.heap.size<=w.heap.size){x:Sx}(hx:nV w w0 K x s){q:Addr}{u v:Value}(hu:u.oneCell'=true)(hv:v.oneCell'=true)(h0:w.cell? q=some u)(h1:w.cell? (q.add 1)=some v)(hb:0<s.b_){C:Option Addr->Nat->World->Prop}
  (hC:∀p c w1,Mod (λk=>(Value.slice x.sp x.sn x.sc).ownBlock=some k) w w1->(∀P:World->Prop,(∀w',bF w' w0 K {s with b_:=s.b_-1}->cA (Ft K w) w (Ft K w') w'->P w')->cJ (Addr.mk K.sb 8 none) P 0 [.slice p (x.sn+1) c] w1)->C p c w1):
  dA w aIX 2 48 x.sp x.sn x.sc (some q) 1 C:=by
 obtain⟨xs,hs0⟩:=hx.mo;have hf:=hx.aIh.1;refine qq hs0 hz [u,v] rfl (λz hz=>by simp only[iQ,vO,vZ]at hz;rcases hz with rfl|rfl<;>assumption) (λ_=>⟨q,rfl,λj z hj=>?_⟩) (by omega) (by omega) λp c w1 o1 m1 bk=>hC p c w1 m1 λP hP=>?_
 ·match j,hj with
  |0,hj=>obtain rfl:=bM hj;exact h0
  |1,hj=>obtain rfl:=bM hj;exact h1
 have hne:(Value.slice x.sp x.sn x.sc).ownBlock≠some K.sb:=hs0.cY hx.row (by decide);have r1:=hx.row.mod m1 hne;refine aH5 (g:=K.sb) (o:=8) r1 (by simp[oJ]) (by simp[Value.oneCell']) λw2 r2 m2 z2=>?_;have m12:Mod (λk=>k=K.sb\/(Value.slice x.sp x.sn x.sc).ownBlock=some k) w w2:=Mod.trans m1 m2 (λ_ h=>.inr h) (λ_ _ h=>.inl h);have hy2:nV w2 w0 K {x with sp:=p,sn:=x.sn+1,sc:=c} {s with b_:=s.b_-1}:=by
  refine⟨?_,⟨_,o1.mod m2 λk hk e=>?_⟩,by dsimp only;omega,hx.aIh.2⟩
  .have b1:=hx.hO.mod m1 hne λk hk e=>hs0.apart hx.hO.own (by decide) e hk
   exact b1.other (cs':=oJ K {x with sp:=p,sn:=x.sn+1,sc:=c} {s with b_:=s.b_-1}) r2 m2 rfl rfl
  .exact o1.cY r1 (by decide) (by rw[hk,e])
 have V6:∀k,k=K.sb\/(Value.slice x.sp x.sn x.sc).ownBlock=some k->Fc K w k:=λk hk=>by
  rcases hk with hk|hk
  .exact hx.xT (.inr (.inr (.inl hk)))
  .exact hx.xT (.inr (.inr (.inr (.inl hk))))
 have hn:∀k,((Value.slice p (x.sn+1) c).ownBlock=some k\/x.buf.ownBlock=some k)->Fc K w k\/w.heap.size<=k:=λk hk=>by
  rcases hk with hk|hk
  .rcases bk.own (n:=x.sn)with e|e
   .exact .inl (hx.xT (.inr (.inr (.inr (.inl (e.symm.trans hk))))))
   .have hk':(Value.slice p (x.sn+1) c).ownBlock=some k:=hk
    rw[hk']at e;exact .inr (by have:=bM e;omega)
  .exact .inl (hx.xT (.inr (.inr (.inr (.inr hk)))))
 obtain⟨a1,a2⟩:=h.UL (s':={s with b_:=s.b_-1}) rfl (m12.weaken V6) hy2 (λ_ _=>rfl) rfl (hx.dh h m12 λk hk=>hk.imp id .inl) hn;exact hP w2 a1 a2
def cA.trans'{F F' G I1:Nat->Prop}{w' w'':World}(h:cA F w F' w')(h':cA G w' I1 w'')(hG:∀k,k<w.heap.size->G k->F' k\/F k):cA F w I1 w'':=
 ⟨Mod.trans h.mod h'.mod (λ_ h=>h) (λi hi hg=>(hG i hi hg).elim (λh1=>(h.new i h1).elim id λhn=>by omega) id),λk hk=>by
  rcases h'.new k hk with hk|hk
  .rcases aJd k w.heap.size with hl|hl
   .exact(hG k hl hk).elim (λh1=>h.new k h1) .inl
   .exact .inr hl
  .have:=h.mod.size;exact .inr (by omega)⟩
structure Aside(w w0:World)(K:Kx)(X:Nat->Prop):Prop where
 lt:∀k,X k->w0.heap.size<=k/\k<w.heap.size
 ne:∀k,X k->k≠K.hb/\k≠K.sb/\k≠K.pb/\k≠K.fm/\k≠K.a/\k≠K.g
 ty:∀k,X k->∀t cs,Row w k t cs->t≠aIX/\t≠5/\t≠32
def aaJ(aH9:fN w0)(h0:Still w0 w)(h:bF w w0 K s)(hb:0<s.b_){f:FuncId}{cap:List Value}(hc:dP aM f=true){X:Nat->Prop}(hX:Aside w w0 K X){T1:Tree}(hT:iV T1){Q:World->Prop}(hQ:∀wa wb,Q wa->Mod (λk=>¬X k) wa wb->Q wb)
  (I2:∀w1 t,Mod (λk=>k=K.a) w w1->cQ w1 w0.heap.size K.a K.g (some t) 0 s.T->(∀k,SF K.a K.g (some t) k->k=K.a\/k=K.g\/w.heap.size<=k)->aH3 f ⟨cap⟩ w1 λe w2=>e=.returned (.int .i64 0)/\(∃n,n<=12/\cQ w2 w0.heap.size K.a K.g (some t) n T1)/\Mod (λk=>SF K.a K.g (some t) k\/X k) w1 w2/\Q w2):
  aH3 Dc #[.pointer (some ⟨K.hb,0,none⟩),.func (.func f) #[] ⟨cap⟩] w λe w'=>e=.returned (.int .i64 0)/\bF w' w0 K {s with T:=T1,b_:=s.b_-1}/\cA (λk=>Ft K w k\/X k) w (Ft K w') w'/\Q w':=by
 obtain⟨t1,t2,t3,t4,t5,t6,t7,t8,t9,t10,t11,t12,t13⟩:=h.tys;have hz0:=h0.size;refine ala _ _ _ _ ?_;obtain⟨x0,hx0⟩:=h.gG;refine⟨_,h.cell λ_ _=>rfl,_,hx0.row.aj rfl,(aaC h.dh h0).mono ?_⟩;rintro _ w1 ⟨rfl,t,h1,m1,g1,g2,g3,g4⟩;have low:∀k,SF K.a K.g (some t) k->k=K.a\/k=K.g\/w.heap.size<=k:=λk hk=>by
  rcases hk with e|e|⟨t',ht',hk⟩
  .exact .inl e
  .exact .inr (.inl e)
  .obtain rfl:=bM ht'
   rcases hk with rfl|rfl|rfl|rfl<;>exact .inr (.inr (by assumption))
 refine .inl ⟨rfl,zG (aB (λ_=>?_) (λh=>by rw[hc]at h;cases h))⟩;refine(I2 w1 t m1 h1 low).mono ?_;rintro _ w2 ⟨rfl,⟨n,hn,h2⟩,m2,q2⟩;have xd:Mod (λk=>k=K.a\/k=K.g\/X k) w w2:=Mod.trans m1 m2 (λ_ h=>.inl h) λk hk hS=>by
  rcases hS with hS|hS
  .rcases low k hS with e|e|e
   .exact .inl e
   .exact .inr (.inl e)
   .omega
  .exact .inr (.inr hS)
 have ap:∀k,(k=K.a\/k=K.g\/X k)->k<w.heap.size->k≠K.hb/\k≠K.sb/\k≠K.pb/\k≠K.fm/\∀t cs,Row w k t cs->t≠aIX/\t≠5/\t≠32:=λk hk _=>by
  rcases hk with rfl|rfl|hk
  .refine⟨λe=>t2 e.symm,λe=>t6 e.symm,t10,t11,λt cs hr=>?_⟩
   have e:t=j5:=Fj λhne=>hr.ne h.dh.top hne rfl;subst e;exact⟨by decide,by decide,by decide⟩
  .exact⟨λe=>t3 e.symm,λe=>t7 e.symm,t12,t13,λt cs hr=>absurd rfl (h.dh.now.cY hr)⟩
  .obtain⟨a1,a2,a3,a4,_,_⟩:=hX.ne k hk
   exact⟨a1,a2,a3,a4,hX.ty k hk⟩
 have hR2:aJ_ w2 w0 K s:=h.toaJ_.mod xd ap;have yU:Still w0 w2:=Mod.trans h0 xd (λ_ h=>h) λk hk hS=>by
  rcases hS with e|e|e
  .have:=h.dh.low.1;omega
  .have:=h.dh.low.2;omega
  .have:=(hX.lt k e).1;omega
 obtain⟨x2,hx2⟩:=hR2.gG;have c2:w2.cell? ⟨K.hb,0,none⟩=some (.pointer (some ⟨K.sb,0,none⟩)):=by obtain⟨vp,vc,hh,_⟩:=hR2.aIx;exact hh.aj rfl
 refine .inl ⟨_,rfl,_,c2,_,hx2.row.aj rfl,(acK aH9.env yU h2 hn).mono ?_⟩;rintro _ w3 ⟨⟨p1,n1,c1,p2,n2,V7,rfl⟩,h3,m3⟩;have A3:Mod (λk=>k=K.a\/k=K.g\/X k) w w3:=Mod.trans xd m3 (λ_ h=>h) (λ_ _ h=>.inl h);have rU:aJ_ w3 w0 K s:=h.toaJ_.mod A3 ap;have hS3:bF w3 w0 K {s with T:=T1}:=⟨⟨hT,rU.iM,rU.fns,rU.aIx,by
  obtain⟨x,hx⟩:=rU.gG;exact⟨x,hx.hO,hx.mo,hx.aIh⟩,rU.low,rU.CH⟩,by
  refine⟨h3.top,h3.now,h3.aIh,h3.low,λt ht=>by cases ht⟩⟩
 have V8:∀k,Ft K w3 k->Ft K w k:=λk hk=>by
  rcases hk with hk|hk
  .exact .inl hk
  .refine .inr ((Fc.same λo=>World.cell?_of_block (A3.block _ hx0.row.lt λhs=>?_)).1 hk)
   rcases hs with e|e|e
   .exact t6 e
   .exact t7 e
   .exact(hX.ne _ e).2.1 rfl
 have MT:=hS3.still (Still.refl _).cK;obtain⟨x3,hx3⟩:=MT.gG;obtain⟨vq,aKa,aII,_⟩:=MT.aIx;have yW:Still w0 w3.drew:=Mod.drew (Mod.trans yU m3 (λ_ h=>h) λk hk e=>by have:=h.dh.low.1;omega);have vl:=yW.size;refine .inl ⟨_,_,_,_,_,_,rfl,λwq=>Row wq K.hb fX ⟨iu K vq aKa {s with T:=T1}⟩/\∃x,Row wq K.sb kY ⟨oJ K x3 {s with T:=T1}⟩/\x=x3,⟨aII,x3,hx3.row,rfl⟩,_,λwq hq=>hq.1.aj rfl,_,λwq hq=>hq.1.aj rfl,_,_,_,λwq hq=>by obtain⟨_,x,hr,rfl⟩:=hq;exact hr.aj rfl,?_⟩;refine aP λw4 r4 s4 z4=>⟨⟨aII.still s4,x3,hx3.row.still s4,rfl⟩,?_⟩;have V9:=MT.still s4;have yX:nV w4 w0 K x3 {s with T:=T1}:=by obtain⟨xs,hs⟩:=hx3.mo;exact⟨hx3.hO.still s4,⟨xs,hs.still s4⟩,hx3.aIh⟩
 have gS4:cA (Ft K w3.drew) w3.drew (Ft K w4) w4:=MT.gone s4;refine V9.adV (by have:=s4.size;omega) yX (q:=⟨w3.drew.heap.size,0,none⟩) (u:=.slice p1 n1 c1) (v:=.slice p2 n2 V7) rfl rfl (r4.aj rfl) (r4.aj rfl) hb λp c w5 m5 hst=>⟨?_,hst _ λw6 h6 g6=>?_⟩
 .obtain⟨xs,hs⟩:=yX.mo
  exact⟨(aII.still s4).mod m5 λe=>hs.cY (aII.still s4) (by decide) e,x3,yX.row.mod m5 λe=>hs.cY yX.row (by decide) e,rfl⟩
 .have g34:cA (Ft K w3) w3 (Ft K w4) w4:=⟨s4.aeB.weaken λ_ h=>h.elim,gS4.new⟩
  have V_:=g34.trans g6;refine⟨rfl,h6,⟨Mod.trans A3 V_.mod (λk hk=>?_) (λk _ hk=>.inl (V8 k hk)),λk hk=>?_⟩,hQ w2 w6 q2 ?_⟩
  .rcases hk with e|e|e
   .exact .inl (.inr (.inl e))
   .exact .inl (.inr (.inr (.inl e)))
   .exact .inr e
  .rcases V_.new k hk with hk|hk
   .exact .inl (.inl (V8 k hk))
   .exact .inr (by have:=A3.size;omega)
  .refine Mod.trans m3 V_.mod (λk e hk=>(hX.ne k hk).2.2.2.2.1 e) λk _ hk hx=>?_
   rcases V8 k hk with e|e
   .exact(hX.ne k hx).1 e
   .rcases hx0.own e with e|e|e|e|e
    .exact(hX.ne k hx).2.2.2.2.1 e
    .exact(hX.ne k hx).2.2.2.2.2 e
    .exact(hX.ne k hx).2.1 e
    .obtain⟨xs,hs⟩:=hx0.mo
     obtain⟨cur,hr⟩:=hs.typed e;exact(hX.ty k hx _ _ hr).1 rfl
    .obtain⟨cur,hr⟩:=hx0.hO.own.typed e
     exact(hX.ty k hx _ _ hr).2.1 rfl
end Go.Proofs.YtihaaoehhgmphaaGreatDoor
namespace Go.Proofs
open Go.Shelf
def Tryz.asY:Go.Shelf.Ren:=⟨λ|4=>371|n=>n,λ|22=>25|25=>9|3=>3|4=>4|9=>9|20=>20|0=>0|n=>n,λ|n=>n⟩
def Tryz.afH:Go.Proofs.Lays8.n4 aM Tryz.asY:={
 mixed:=by kernel_rfl
 f4:=⟨Tryz.f371.name,by decide,bg Tryz.func371⟩
 t0:=Tryz.underlying0
 a0:=Tryz.isAgg0
 z0:=Tryz.sizeOf0
 v0:=Tryz.zeroValue0
 t3:=Tryz.underlying3
 a3:=Tryz.isAgg3
 z3:=Tryz.sizeOf3
 v3:=Tryz.zeroValue3
 t4:=Tryz.underlying4
 a4:=Tryz.isAgg4
 z4:=Tryz.sizeOf4
 v4:=Tryz.zeroValue4
 t9:=Tryz.underlying9
 a9:=Tryz.isAgg9
 z9:=Tryz.sizeOf9
 v9:=Tryz.zeroValue9
 t20:=Tryz.underlying20
 a20:=Tryz.isAgg20
 z20:=Tryz.sizeOf20
 v20:=Tryz.zeroValue20
 t22:=Tryz.underlying25
 a22:=Tryz.isAgg25
 z22:=Tryz.sizeOf25
 v22:=Tryz.zeroValue25}
end Go.Proofs
namespace Go.Proofs.YtihaaoehhgmphaaGreatDoor
open IntKind Go.RowKit Vc
set_option maxRecDepth 100000
variable{w w0:World}
def arc(n:Nat)(hn:n<1000000):aH3 Xs #[.slice none 0 0,.int .i64 (n:Int)] w (λe w'=>∃p C,e=.returned (.slice p 0 C)/\aV w' w.heap.size b6 1 (.slice p 0 C) 0 []/\Still w w'):=by
 rcases pK n with rfl|h0
 .refine(Any8.slices_Grow_room Tryz.afH none 0 0 0 w (aW _) (by decide) (by decide) (by decide)).mono ?_
  rintro _ w' ⟨rfl,rfl⟩;exact⟨none,0,rfl,aV.nil _ _ _ _,Mod.refl _ _⟩
 .have hi:Tryz.prog.info? b6=some ((Tryz.prog.info? b6).getD default):=by kernel_rfl
  have hz:((Tryz.prog.info? b6).getD default).zero=some (.string (S [])):=by kernel_rfl
  have hs:((Tryz.prog.info? b6).getD default).size=1:=by kernel_rfl
  have hb:((Tryz.prog.info? b6).getD default).bytes=16:=by kernel_rfl
  refine(Any8.slices_Grow_grow Tryz.afH _ _ hi hz (by rw[hs];decide) none 0 0 n [] w (aW _) (by omega) (by rw[hb];omega) (by omega) (by simp) (λ_=>rfl) (λa h=>by cases h)).mono ?_;rintro _ w' ⟨rfl,rfl⟩;refine⟨_,_,rfl,⟨rfl,.inr ⟨w.heap.size,_,_,rfl,aW _,Row.new w.drew _ _,dx _,?_,?_,rfl⟩⟩,((Mod.refl _ _).drew).alloc _⟩
  .exact grownCap_le_maxLen _ _ _ _ (by simp only[maxLen];omega)
  .have hge:=grownCap_ge w (0+n) 0 b6
   have hzc:(Value.string (S [])).cells.size=1:=rfl;show(_:Nat)=grownCap w (0+n) 0 b6*1
   simp only[X_,xz,cm,size_zeroCells,hzc];show 0+(0+n-0)*1+(grownCap w (0+n) 0 b6-(0+n))*1=grownCap w (0+n) 0 b6*1
   omega
def apc{g:Nat}{p1 p2:Option Addr}{c1 c2:Nat}{l1 l2:List ag}(hr:Row w g Dv ⟨[.slice p1 l1.length c1,.slice p2 l2.length c2]⟩)(h1:c_ w p1 l1.length l1)(h2:c_ w p2 l2.length l2)(hs:l1.length+l2.length<1000000):
  aH3 OA #[.slice (some (Addr.mk g 0 none)) 2 2] w (λe w'=>∃p C,e=.returned (.slice p (l1++l2).length C)/\aV w' w.heap.size b6 1 (.slice p (l1++l2).length C) (l1++l2).length (bI (l1++l2))/\Still w w'):=by
 refine ajF _ _ _ _ _ ?_;have cl:∀{w1:World},Still w w1->w1.cell? ((Addr.mk g 0 none).add (Int.toNat 0*1))=some (.slice p1 l1.length c1)/\w1.cell? ((Addr.mk g 0 none).add (Int.toNat 1*1))=some (.slice p2 l2.length c2):=λhst=>⟨(hr.still hst).aj rfl,(hr.still hst).aj rfl⟩;refine⟨λsize x w1=>w1=w/\(x=0/\size=0\/x=1/\size=(l1.length:Int)\/x=2/\size=((l1.length+l2.length:Nat):Int)),λ_ x _=>(2-x).toNat,⟨rfl,.inl ⟨rfl,rfl⟩⟩,?_⟩;rintro size x _ w1 ⟨rfl,hx⟩;refine aB (λhl=>?_) (λhl=>?_)
 .have hl:x<2:=by simpa using hl
  rcases hx with⟨rfl,rfl⟩|⟨rfl,rfl⟩|⟨rfl,rfl⟩
  .refine⟨by decide,by decide,_,_,_,(cl (Still.refl _)).1,?_⟩
   try dsimp only[zR]
   rw[wrap_i64 (by omega) (by omega)];refine aB (λh=>by have:=aT h;omega) (λ_=>⟨⟨rfl,.inr (.inl ⟨by decide,by omega⟩)⟩,by show(2-i64.wrap (0+1)).toNat<(2-(0:Int)).toNat;decide⟩)
  .refine⟨by decide,by decide,_,_,_,(cl (Still.refl _)).2,?_⟩
   try dsimp only[zR]
   rw[wrap_i64 (by omega) (by omega)];refine aB (λh=>by have:=aT h;omega) (λ_=>⟨⟨rfl,.inr (.inr ⟨by decide,by omega⟩)⟩,by show(2-i64.wrap (1+1)).toNat<(2-(1:Int)).toNat;decide⟩)
  .omega
 .have hl:¬x<2:=by simpa using hl
  rcases hx with⟨rfl,rfl⟩|⟨rfl,rfl⟩|⟨rfl,rfl⟩
  .omega
  .omega
  refine(arc (l1.length+l2.length) hs).mono ?_;rintro _ w2 ⟨p,C,rfl,iX,h2'⟩;refine .inl ⟨_,_,_,rfl,λq L D x w3=>Still w1 w3/\(x=0/\L=0/\aV w3 w1.heap.size b6 1 (.slice q L D) L []\/x=1/\L=l1.length/\aV w3 w1.heap.size b6 1 (.slice q L D) L (bI l1)\/x=2/\L=(l1++l2).length/\aV w3 w1.heap.size b6 1 (.slice q L D) L (bI (l1++l2))),λ_ _ _ x _=>(2-x).toNat,⟨h2',.inl ⟨rfl,rfl,iX⟩⟩,?_⟩;rintro q L D x _ w3 ⟨s3,hx⟩;have hz:=s3.size;have app:∀{l:List ag} {p':Option Addr} {K:Option Addr->Nat->World->Prop} {L:Nat} {xs:List Value},aV w3 w1.heap.size b6 1 (.slice q L D) L xs->c_ w1 p' l.length l->L+l.length<1000000->(∀p c w4,aV w4 w1.heap.size b6 1 (.slice p (L+l.length) c) (L+l.length) (xs++bI l)->Still w1 w4->K p c w4)->dA w3 b6 1 16 q L D p' l.length K:=by intro l p' K L xs ho hst hlen hK;have yx:=hst.still s3;refine qq ho hz (bI l) (by simp[bI]) (λu hu=>by obtain⟨x,_,rfl⟩:=eo.1 hu;rfl) (λhp=>yx.2 hp) (by omega) (by omega) λp c w4 o4 m4 bk=>hK p c w4 o4 (Mod.trans s3 m4 (λ_ h=>h) λi hi hk=>by have:=(ho.lt i hk).1;omega)
  refine aB (λhl=>?_) (λhl=>?_)
  .have hl:x<2:=by simpa using hl
   rcases hx with⟨rfl,rfl,o⟩|⟨rfl,rfl,o⟩|⟨rfl,rfl,o⟩
   .refine⟨by decide,by decide,_,_,_,(cl s3).1,app o h1 (by omega) λp c w4 o4 s4=>⟨⟨s4,.inr (.inl ⟨by decide,by omega,?_⟩)⟩,by show(2-i64.wrap (0+1)).toNat<(2-(0:Int)).toNat;decide⟩⟩
    exact o4
   .refine⟨by decide,by decide,_,_,_,(cl s3).2,app o h2 (by omega) λp c w4 o4 s4=>⟨⟨s4,.inr (.inr ⟨by decide,by simp,?_⟩)⟩,by show(2-i64.wrap (1+1)).toNat<(2-(1:Int)).toNat;decide⟩⟩
    rw[KS];exact o4
   .omega
  .have hl:¬x<2:=by simpa using hl
   rcases hx with⟨rfl,rfl,o⟩|⟨rfl,rfl,o⟩|⟨rfl,rfl,o⟩
   .omega
   .omega
   .exact⟨q,D,rfl,o,s3⟩
end Go.Proofs.YtihaaoehhgmphaaGreatDoor
namespace Go.Proofs.YtihaaoehhgmphaaGreatDoor
open IntKind Go.RowKit Vc
variable{w:World}
def jq(c:UInt8)(nw s:List UInt8):List UInt8:=s.flatMap λb=>if b=c then nw else[b]
def KN(c:UInt8)(nw s t:List UInt8):jq c nw (s++t)=jq c nw s++jq c nw t:=by simp[jq]
def Gf{c:UInt8}{nw:List UInt8}:∀{s:List UInt8},s.count c=0->jq c nw s=s
 |[],_=>rfl
 |b::s,h=>by
  have hb:b≠c:=by rintro rfl;simp at h
  rw[JJ hb]at h;have:=Gf (nw:=nw) h;simp only[jq,oS,aL hb]at this⊢;rw[this];rfl
def KO{c:UInt8}{nw:List UInt8}:∀s:List UInt8,(jq c nw s).length+s.count c=s.length+nw.length*s.count c
 |[]=>by simp[jq]
 |b::s=>by
  have ih:=KO (c:=c) (nw:=nw) s;have e:jq c nw (b::s)=(if b=c then nw else[b])++jq c nw s:=rfl
  by_cases hb:b=c
  .subst hb
   rw[e,aR rfl,aIa,List.count_cons_self,bf,Nat.mul_add];omega
  .rw[e,aL hb,aIa,JJ hb,bf]
   simp only[bf,cm];omega
def count_le{c:UInt8}(s:List UInt8):s.count c<=s.length:=O9
def SB{c:UInt8}:∀{s:List UInt8},0<s.count c->∃k:Nat,Lib.indexByte s c=(k:Int)/\k<s.length/\(s.take k).count c=0/\s[k]?=some c
 |b::s,h=>by
  by_cases hb:b=c
  .subst hb
   exact⟨0,by simp[Lib.indexByte],by simp,by simp,rfl⟩
  .rw[JJ hb]at h
   obtain⟨k,h1,h2,h3,h4⟩:=SB h;refine⟨k+1,?_,by simp;omega,by rw[XN,JJ hb];exact h3,by simpa using h4⟩;simp only[Lib.indexByte,h1];have:(b==c)=false:=by simpa using hb
   rw[this];have h2:(((k:Nat):Int)== -1)=false:=by rw[XP];omega
   simp[h2]
def DE:mS 86 2 0:=by unfold mS;kernel_rfl
def apd(c:UInt8)(nw s:List UInt8)(hs:s.length<=1000000)(h0:nw≠[])(h1:nw.length<=100)(hne:nw≠[c]):
  aH3 PX #[.string (S s),.string (S [c]),.string (S nw),.int .i64 (-1)] w (λe w'=>e=.returned (.string (S (jq c nw s)))/\Still w w'):=by
 refine alG _ _ _ _ _ _ ?_;have hcl:=count_le (c:=c) s;have hrl:=KO (c:=c) (nw:=nw) s;have CE:0<nw.length:=mJ.2 h0;refine aB (λh=>absurd (aT h).symm hne) (λ_=>aB (λh=>by simp at h) (λ_=>?_));refine⟨λm w1=>m=(s.count c:Int)/\0<s.count c/\w1=w,(Tryz.strings_Count_one (S s) c w).mono ?_,?_⟩
 .rintro _ w1 ⟨rfl,rfl⟩
  refine .inl ⟨_,rfl,aB (λh=>?_) (λh=>?_)⟩
  .have h:s.count c=0:=by have:=aT h;exact Int.ofNat_eq_zero.1 this
   exact⟨by rw[Gf h],Mod.refl _ _⟩
  .have h:s.count c≠0:=by
    have:=a_ h;exact λe=>this (by show((Lib.countByte s c:Nat):Int)=0;unfold Lib.countByte;rw[e];rfl)
   refine⟨λx w2=>x=true/\w2=w1,aB (λ_=>⟨rfl,rfl⟩) (λh=>by simp at h),?_⟩;rintro _ _ w2 ⟨rfl,rfl⟩;exact aB (λ_=>⟨rfl,by omega,rfl⟩) (λh=>by cases h)
 rintro _ _ w1 ⟨rfl,hpos,rfl⟩;have hmul:nw.length*s.count c<=100*1000000:=Nat.mul_le_mul h1 (by omega);have aym:s.count c*nw.length=nw.length*s.count c:=Kv _ _;have aGx:s.count c<=nw.length*s.count c:=Nat.le_mul_of_pos_left _ CE;have eg:i64.wrap ((s.length:Int)+i64.wrap ((s.count c:Int)*i64.wrap ((nw.length:Int)-(([c]:List UInt8).length:Int))))=((s.length+(nw.length*s.count c-s.count c):Nat):Int):=by
  have e1:i64.wrap ((nw.length:Int)-(([c]:List UInt8).length:Int))=((nw.length-1:Nat):Int):=by simp only[bf,cm];rw[wrap_i64 (by omega) (by omega)];omega
  have e2:(s.count c:Int)*((nw.length-1:Nat):Int)=((nw.length*s.count c-s.count c:Nat):Int):=by rw[<-Int.natCast_mul,Nat.mul_sub,eX,aym]
  have e3:=wrap_i64 (n:=((nw.length*s.count c-s.count c:Nat):Int)) (by omega) (by omega);rw[e1,e2,e3,wrap_i64 (by omega) (by omega)];omega
 rw[eg];show cS _ _
 unfold cS;have hbk:(w1.alloc (.cells #[(.pointer none),(.slice none 0 0)] 86)).heap[w1.heap.size]?=some (.cells #[(.pointer none),(.slice none 0 0)] 86 (0,0)):=heap_alloc_new w1 _;have hsz:(w1.alloc (.cells #[(.pointer none),(.slice none 0 0)] 86)).heap.size=w1.heap.size+1:=World.size_alloc ..;have aKE:Still w1 (w1.alloc (.cells #[(.pointer none),(.slice none 0 0)] 86)):=(Mod.refl _ _).alloc _;generalize hw2:w1.alloc (.cells #[(.pointer none),(.slice none 0 0)] 86)=w2 at*;refine(Tryz.Builder_Grow_fresh w1.heap.size w1.heap.size _ w2 (aW _) hbk (by omega) (by omega)).mono ?_;rintro _ w3 ⟨rfl,Wa,aI_⟩;refine .inl ⟨rfl,aB (λ_=>?_) (λh=>by simp at h)⟩;obtain⟨_,v3,azt,ayn,azu⟩:=Wa;have yx:Still w1 w3:=aKE.trans' aI_ (by omega);have hB:rj w3 86 w1.heap.size 0 w1.heap.size [.pointer (some ⟨w1.heap.size,0,none⟩),v3] v3 []:=⟨Row.Vg azt,.inr rfl,rfl,aV.of ayn,azu⟩;have l1:∀a b,mS 86 (([a,b]:List Value).length) 0:=λ_ _=>DE;refine⟨λst i w4=>∃(k n:Nat) (v:Value),st=(k:Int)/\i=(n:Int)/\k<=s.length/\n=(s.take k).count c/\n<=s.count c/\rj w4 86 w1.heap.size 0 w1.heap.size [.pointer (some ⟨w1.heap.size,0,none⟩),v] v (jq c nw (s.take k))/\Still w1 w4,
  λ_ i _=>s.count c-i.toNat,⟨0,0,v3,rfl,rfl,dx _,rfl,dx _,hB,yx⟩,?_⟩
 rintro _ _ _ w4 ⟨k,n,v,rfl,rfl,hk,hn,hnm,NJ,jC⟩;have aGr:(s.take k).count c+(s.drop k).count c=s.count c:=by rw[<-PI,oQ]
 have Wb:=KN c nw (s.take k) (s.drop k);rw[oQ]at Wb;have azv:(jq c nw (s.take k)).length+(jq c nw (s.drop k)).length=(jq c nw s).length:=by rw[Wb,aIa]
 have hdl:(s.drop k).length=s.length-k:=jx;have hrd:=KO (c:=c) (nw:=nw) (s.drop k);simp only[bT];refine aB (λhx=>?_) (λhx=>?_)
 .have hx:n<s.count c:=by have:=aT hx;omega
  obtain⟨j,hj1,hj2,hj3,Wc⟩:=SB (c:=c) (s:=s.drop k) (by omega);have hkj:s.drop k=(s.drop k).take j++c::s.drop (k+j+1):=by
   have h:=(jj.1 Wc);obtain⟨h,h'⟩:=h
   conv=>lhs;rw[<-oQ j (s.drop k)]
   rw[mI h,h',Dh];rfl
  have DZ:s.take (k+j+1)=s.take k++((s.drop k).take j++[c]):=by have h:=(jj.1 Wc);obtain⟨h,h'⟩:=h;rw[FN,List.take_add,Fz,Wc];rfl
  have hrt:jq c nw (s.take (k+j+1))=jq c nw (s.take k)++(s.drop k).take j++nw:=by rw[DZ,KN,KN,Gf hj3,mL];simp[jq]
  have azw:(jq c nw (s.take (k+j+1))).length<=(jq c nw s).length:=by have:=KN c nw (s.take (k+j+1)) (s.drop (k+j+1));rw[oQ]at this;rw[this,aIa];omega
  rw[hrt,aIa,aIa]at azw;refine⟨by omega,by omega,(Tryz.strings_Index_one (S (s.drop k)) c w4).mono ?_⟩;rintro _ w5 ⟨rfl,rfl⟩;have e5:Lib.indexByte (S (s.drop k)).data.toList c=(j:Int):=hj1;rw[e5];have ej:i64.wrap ((k:Int)+(j:Int))=((k+j:Nat):Int):=by rw[wrap_i64 (by omega) (by omega)];omega
  have ej1:i64.wrap (((k+j:Nat):Int)+(([c]:List UInt8).length:Int))=((k+j+1:Nat):Int):=by simp only[bf,cm];rw[wrap_i64 (by omega) (by omega)];omega
  have en:i64.wrap ((n:Int)+1)=((n+1:Nat):Int):=by rw[wrap_i64 (by omega) (by omega)];omega
  refine .inl ⟨_,rfl,by omega,by rw[ej];omega,by rw[ej];omega,?_⟩;rw[ej,ej1,en,bT,aLa];refine(Kh NJ (l1 _ _) _ (by have:=jC.size;omega) (by omega)).mono ?_;rintro _ w6 ⟨rfl,v6,ER,_,k5⟩;have MU:Still w1 w6:=Mod.trans jC k5 (λ_ h=>h) (λi hi e=>by
   rcases e with rfl|e
   .omega
   .have:=NJ.own.mR e;omega)
  refine .inl ⟨_,_,rfl,rfl,(Kh ER (l1 _ _) nw (by have:=MU.size;omega) (by rw[aIa];omega)).mono ?_⟩;rintro _ w7 ⟨rfl,v7,hB7,_,ES⟩;have azx:Still w1 w7:=Mod.trans MU ES (λ_ h=>h) (λi hi e=>by
   rcases e with rfl|e
   .omega
   .have:=ER.own.mR e;omega)
  refine .inl ⟨_,_,rfl,rfl,⟨k+j+1,n+1,v7,rfl,rfl,by omega,?_,hx,?_,azx⟩,by omega⟩
  .rw[DZ,PI,PI,hj3,hn]
   simp
  .rw[hrt]
   exact hB7
 .have hx:n=s.count c:=by have:=a_ hx;omega
  have hd0:(s.drop k).count c=0:=by omega
  refine⟨by omega,by omega,(Kh NJ (l1 _ _) _ (by have:=jC.size;omega) (by rw[Gf hd0]at azv;omega)).mono ?_⟩;rintro _ w6 ⟨rfl,v6,ER,_,k5⟩;have MU:Still w1 w6:=Mod.trans jC k5 (λ_ h=>h) (λi hi e=>by
   rcases e with rfl|e
   .omega
   .have:=NJ.own.mR e;omega)
  have e:jq c nw (s.take k)++s.drop k=jq c nw s:=by rw[Wb,Gf hd0]
  rw[e]at ER;have hnil:jq c nw s≠[]:=by intro e;rw[e]at hrl;simp only[cm]at hrl;omega
  refine .inl ⟨_,_,rfl,rfl,(xF (ER.roomy hnil) (by omega)).mono ?_⟩;rintro _ w7 ⟨rfl,ES⟩;exact .inl ⟨_,rfl,rfl,Mod.trans MU ES (λ_ h=>h) (λi hi e=>by have:=ER.own.mR e;omega)⟩
def Y0(c:UInt8)(nw s:List UInt8)(hs:s.length<=1000000)(h0:nw≠[])(h1:nw.length<=100)(hne:nw≠[c]):
  aH3 JR #[.string (S s),.string (S [c]),.string (S nw)] w (λe w'=>e=.returned (.string (S (jq c nw s)))/\Still w w'):=by
 refine akI _ _ _ _ _ ((apd c nw s hs h0 h1 hne).mono ?_);rintro _ w1 ⟨rfl,h⟩;exact .inl ⟨_,rfl,rfl,h⟩
end Go.Proofs.YtihaaoehhgmphaaGreatDoor
namespace Go.Proofs.YtihaaoehhgmphaaGreatDoor.F
open IntKind Go.RowKit Vc
def xU(s:ag):ag:=jq 92 [92,92] s
def escape(s:ag):ag:=s.flatMap λc=>[92,c]
def Dx(s:ag):(xU s).length<=2*s.length:=by have h:=KO (c:=92) (nw:=[92,92]) s;have:=count_le (c:=92) s;simp only[bf,cm]at h;unfold xU;omega
def K5(s:ag):(escape s).length=2*s.length:=by
 unfold escape
 induction s with
 |nil=>rfl
 |cons a r ih=>simp only[oS,aIa,ih,bf,cm];omega
structure Sg where
 kind:Nat
 text:ag
structure St where
 out:List ag
 cur:ag
 has:Bool
 yY:Bool
def St.zero:St:=⟨[],[],false,false⟩
def St.put(x:St)(p:ag):St:=⟨x.out,x.cur++p,true,false⟩
def St.fin(x:St):St:=⟨x.out++[x.cur],[],false,x.yY⟩
def St.mark(x:St)(g:Bool):St:=⟨x.out,x.cur,x.has,g⟩
def blank(c:UInt8):Bool:=decide (c=32)||decide (c=9)||decide (c=10)
def uT(ifs:ag)(x:St)(c:UInt8):St:=
 if decide (c∈ifs)=true then
  if blank c=true then(if x.has=true then x.fin.mark true else x)
  else if x.has=true\/x.yY=false then x.fin.mark false else x.mark false
 else x.put (xU [c])
def rB(ifs:ag)(x:St)(s:ag):St:=s.foldl (uT ifs) x
def ld(ifs:ag)(x:St)(p:Sg):St:=
 if p.kind=0 then(if p.text=[]then x else x.put (xU p.text))
 else if p.kind=1 then x.put (escape p.text)
 else if p.kind=2 then rB ifs x p.text
 else if p.kind=3 then(if x.has=true then x.fin.mark false else x.mark false)
 else x
def UM(x:St):List ag:=if x.has=true then x.fin.out else x.out
def yy(ifs:ag)(l:List Sg):St:=l.foldl (ld ifs) St.zero
def pQ(ifs:ag)(l:List Sg):List ag:=UM (yy ifs l)
def aJf(p:Bool)(x:Sg):ag:=if x.kind=3 then[32]else if p=true then(if x.kind=1 then escape x.text else xU x.text)else x.text
def joined(p:Bool)(l:List Sg):ag:=l.flatMap (aJf p)
def St.size(x:St):Nat:=(x.out.map (λt=>t.length+1)).sum+x.cur.length
def St.size_put(x:St)(p:ag):(x.put p).size=x.size+p.length:=by simp[St.size,St.put];omega
def St.acR(x:St):x.fin.size=x.size+1:=by simp[St.size,St.fin];omega
def St.abQ(x:St)(g:Bool):(x.mark g).size=x.size:=rfl
def ard(ifs:ag)(x:St)(c:UInt8):(uT ifs x c).size<=x.size+2:=by
 unfold uT;have h1:=Dx [c];simp only[bf,cm]at h1
 repeat' split
 all_goals try simp only[St.abQ,St.acR,St.size_put]
 all_goals omega
def Rk(ifs:ag):∀(s:ag) (x:St),(rB ifs x s).size<=x.size+2*s.length
 |[],x=>aW _
 |c::s,x=>by have h1:=ard ifs x c;have h2:=Rk ifs s (uT ifs x c);simp only[rB,vQ,bf]at h2⊢;omega
def are(ifs:ag)(x:St)(p:Sg):(ld ifs x p).size<=x.size+2*p.text.length+1:=by
 unfold ld;have h1:=Dx p.text;have h2:=K5 p.text;have h3:=Rk ifs p.text x
 repeat' split
 all_goals try simp only[St.abQ,St.acR,St.size_put]
 all_goals omega
def awm(x:St):x.out.length<=x.size:=by
 unfold St.size;have:∀l:List ag,l.length<=(l.map (λt=>t.length+1)).sum:=by
  intro l
  induction l with
  |nil=>exact aW _
  |cons a l ih=>simp only[fW,aIV,bf];omega
 have:=this x.out;omega
def Ti(x:St):x.cur.length<=x.size:=Nat.le_add_left _ _
def aeR:ag:=[32,9,10]
def GD(c:UInt8):decide (c∈aeR)=blank c:=by
 simp only[aeR,iQ,vO,vZ,blank]
 by_cases h1:c=32<;>by_cases h2:c=9<;>by_cases h3:c=10<;>simp[h1,h2,h3]
end Go.Proofs.YtihaaoehhgmphaaGreatDoor.F
namespace Go.Proofs.YtihaaoehhgmphaaGreatDoor.F
open IntKind Go.RowKit Vc
variable{w:World}
def ap4(l:ag)(c:UInt8):escape (l++[c])=escape l++[92,c]:=by simp[escape]
def ZZ(s:ag)(hs:s.length<1000000):aH3 Kf #[.string (S s)] w (λe w'=>e=.returned (.string (S (escape s)))/\Still w w'):=by
 refine al7 _ _ _ ?_;have e1:i64.wrap (2*(s.length:Int))=((2*s.length:Nat):Int):=by rw[wrap_i64 (by omega) (by omega)];omega
 unfold YB;rw[e1,bT];have hmk:aV (w.alloc (.cells (madeCells #[(.int .u8 (0:Int))] (2*s.length*1)) 5)) w.heap.size 5 1 (.slice (some ⟨w.heap.size,0,none⟩) 0 (2*s.length)) 0 []:=
  ⟨rfl,.inr ⟨w.heap.size,_,_,rfl,aW _,Row.new w _ _,by omega,by simp only[maxLen];omega,by rw[size_madeCells],rfl⟩⟩
 refine⟨by decide,by omega,by omega,by omega,l9 ⟨λp L C x w1=>∃i:Nat,x=(i:Int)/\i<=s.length/\L=2*i/\aV w1 w.heap.size 5 1 (.slice p L C) L (bc (escape (s.take i)))/\Still w w1,λ_ _ _ x _=>s.length-x.toNat,
  ⟨0,rfl,by omega,rfl,hmk,(Mod.refl _ _).alloc _⟩,?_⟩⟩
 rintro p _ C _ _ w1 ⟨i,rfl,hi,rfl,ho,hst⟩;refine aB (λhx=>?_) (λhx=>?_)
 .have hx:i<s.length:=by have:=aT hx;omega
  refine⟨by omega,s[i],by rw[bT];exact getD_some hx,aP λw2 hr2 hs2 jU=>?_⟩;refine qq (ho.still hs2) (by have:=hst.size;omega) (bc [92,s[i]]) rfl (Tv _) (λ_=>⟨_,rfl,λj u hu=>?_⟩) (by omega) (by omega) λp' c' w3 aJ8 dD _=>?_
  .rw[bR,cE]
   exact hr2.aj hu
  .have e2:i64.wrap ((i:Int)+1)=((i+1:Nat):Int):=by rw[wrap_i64 (by omega) (by omega)];omega
   rw[e2];refine⟨⟨i+1,rfl,hx,by omega,?_,(hst.trans hs2).own (ho.still hs2) (aW _) dD⟩,by dsimp only;omega⟩;rw[DC hx,ap4,DB];exact aJ8
 .have hx:i=s.length:=by have:=a_ hx;omega
  subst hx;rw[oT]at ho;exact⟨escape s,ho.bytes,rfl,hst⟩
def Rl(s:ag)(hs:s.length<=1000000):aH3 FM #[.string (S s)] w (λe w'=>e=.returned (.string (S (xU s)))/\Still w w'):=by refine amn _ _ _ ((Y0 92 [92,92] s hs (by decide) (by decide) (by decide)).mono ?_);rintro _ w1 ⟨rfl,h⟩;exact .inl ⟨_,rfl,rfl,h⟩
def BJ(x:Sg):List Value:=[.int .i64 (x.kind:Int),.string (S x.text)]
def CI(l:List Sg):List Value:=l.flatMap BJ
def Ac(w:World)(p:Option Addr)(n:Nat)(l:List Sg):Prop:=l.length=n/\At w p n (CI l)
def Ac.get{p:Option Addr}{n:Nat}{l:List Sg}(h:Ac w p n l){k:Nat}(hk:k<n):∃a x,p=some a/\l[k]?=some x/\w.cell? (a.add (k*2))=some (.int .i64 (x.kind:Int))/\w.cell? ((a.add (k*2)).add 1)=some (.string (S x.text)):=by obtain⟨h1,h2⟩:=h;obtain⟨a,rfl,h3⟩:=h2 (by omega);have hx:=getD_some (p:=l) (i:=k) (by omega);refine⟨a,_,rfl,hx,h3 _ _ (by have:=DH (f:=BJ) (sz:=2) (λ_=>rfl) hx 0 (by decide);exact this),?_⟩;rw[rH];exact h3 _ _ (by have:=DH (f:=BJ) (sz:=2) (λ_=>rfl) hx 1 (by decide);exact this)
def Ac.still{w':World}{p:Option Addr}{n:Nat}{l:List Sg}(h:Ac w p n l)(hm:Still w w'):Ac w' p n l:=⟨h.1,h.2.still hm⟩
structure ayo(w:World)(g:Nat)(ifs:ag)(x:St)(q:Option Addr)(v:Value)(pa:Option Addr)(co:Nat):Prop where
 hO:ef w 407 g 2 (g+1) [.string (S ifs),.slice pa x.out.length co,.pointer q,v,.bool x.has,.bool x.yY] v x.cur
 own:aV w (g+1) 9 1 (.slice pa x.out.length co) x.out.length (bI x.out)
def ju(w:World)(g:Nat)(ifs:ag)(x:St):Prop:=∃q v pa co,ayo w g ifs x q v pa co
def awn:mS 407 6 2:=by unfold mS;kernel_rfl
abbrev Up(g:Nat)(w w':World):Prop:=Mod (λk=>g<=k) w w'
def Up.trans{g:Nat}{a b c:World}(h:Up g a b)(k:Up g b c):Up g a c:=Mod.trans h k (λ_ h=>h) (λ_ _ h=>h)
def Up.refl(g:Nat)(w:World):Up g w w:=Mod.refl _ _
def Up.of{g:Nat}{a b:World}(h:Still a b):Up g a b:=h.weaken (λ_ h=>h.elim)
def ju.still{w':World}{g:Nat}{ifs:ag}{x:St}(h:ju w g ifs x)(hm:Still w w'):ju w' g ifs x:=by obtain⟨q,v,pa,co,h1,h2⟩:=h;exact⟨q,v,pa,co,h1.still hm,h2.still hm⟩
def ju.lt{g:Nat}{ifs:ag}{x:St}(h:ju w g ifs x):g<w.heap.size:=by obtain⟨q,v,pa,co,h1,h2⟩:=h;exact h1.row.lt
def wu{g:Nat}{ifs:ag}{x:St}(h:ju w g ifs x)(p:ag)(hs:x.cur.length+p.length<=1000000000):
  aH3 Fp #[.pointer (some ⟨g,0,none⟩),.string (S p)] w (λe w'=>e=.returned (.tuple #[])/\ju w' g ifs (x.put p)/\Up g w w'):=by
 have hlt:=h.lt;obtain⟨q,v,pa,co,hb,ho⟩:=h;refine akD _ _ _ _ ?_;show Calls _ _ #[.pointer (some (Addr.add _ 2)),_] _ _
 rw[bR];refine(aKu hb awn p hlt (by omega)).mono ?_;rintro _ w1 ⟨rfl,v1,jg,aId⟩;have mj:=ho.mod aId (λk hk e=>by
  rcases e with rfl|e
  .exact ho.cY hb.row (by decide) hk
  .exact ho.apart hb.own (by decide) hk e)
 have hu1:Up g w w1:=aId.weaken (λk e=>by
  rcases e with rfl|e
  .exact aW _
  .have:=hb.own.mR e;omega)
 refine .inl ⟨_,_,rfl,rfl,?_⟩;show cJ (Addr.add _ 4) _ _ _ _
 rw[bR];refine aH5 jg.row (by simp) (by simp[Value.oneCell']) λw2 hr2 hm2 jU=>?_;show cJ (Addr.add _ 5) _ _ _ _
 rw[bR];have gE:=jg.other hr2 hm2 rfl rfl;have iX:=mj.mod hm2 (λk hk e=>by subst e;exact mj.cY jg.row (by decide) hk);refine aH5 hr2 (by simp[fR]) (by simp[Value.oneCell']) λw3 hr3 dD vl=>⟨rfl,?_,?_⟩
 .have aI_:=gE.other hr3 dD rfl rfl
  exact⟨_,_,_,_,aI_,iX.mod dD (λk hk e=>by subst e;exact iX.cY hr2 (by decide) hk)⟩
 .exact(hu1.trans (hm2.weaken (λk e=>by omega))).trans (dD.weaken (λk e=>by omega))
def GF{g:Nat}{ifs:ag}{x:St}(h:ju w g ifs x)(hs:x.size<=1000000000):
  aH3 Bh #[.pointer (some ⟨g,0,none⟩)] w (λe w'=>e=.returned (.tuple #[])/\ju w' g ifs x.fin/\Up g w w'):=by
 have hlt:=h.lt;have hf1:=awm x;have hf2:=Ti x;obtain⟨q,v,pa,co,hb,ho⟩:=h;refine akz _ _ _ ?_;refine⟨λwq=>Row wq g 407 ⟨[.string (S ifs),.slice pa x.out.length co,.pointer q,v,.bool x.has,.bool x.yY]⟩,hb.row,_,_,_,λwq hq=>by rw[bR];exact hq.aj rfl,?_⟩;show Calls _ _ #[.pointer (some (Addr.add _ 2))] _ _
 rw[bR];have hbd:ef w.drew 407 g 2 (g+1) [.string (S ifs),.slice pa x.out.length co,.pointer q,v,.bool x.has,.bool x.yY] v x.cur:=hb.still (Still.refl w).cK;refine(xF hbd (by omega)).mono ?_;rintro _ w1 ⟨rfl,aId⟩;have cG:=hbd.row.mod aId (λe=>hb.ne e);have CJ:=ho.still (Still.refl w).cK;have mj:=CJ.mod aId (λk hk e=>ho.apart hb.own (by decide) hk e);have hu1:Up g w w1:=Mod.trans (Still.refl w).cK aId (λ_ h=>h.elim) (λk _ e=>by have:=hb.own.mR e;omega);refine .inl ⟨_,rfl,cG,aP λw2 hr2 hs2 jU=>⟨cG.still hs2,?_⟩⟩;refine qq (mj.still hs2) (by have:=cG.lt;omega) [.string (S x.cur)] rfl (one_one rfl) (λ_=>⟨_,rfl,λj u hu=>?_⟩) (by omega) (by omega) λp' c' w3 aJ8 dD aI_=>?_
 .rw[bR,cE]
  exact hr2.aj hu
 have iX:=mj.still hs2;have hr3:=(cG.still hs2).mod dD (λe=>iX.cY (cG.still hs2) (by decide) e);have yZ:Up g w w3:=(hu1.trans (Up.of hs2)).trans (dD.weaken (λk e=>by have:=iX.mR e;omega));show cJ (Addr.add _ 1) _ _ _ _
 rw[bR];refine aH5 hr3 (by simp) (by simp[Value.oneCell']) λw4 hr4 k4 CK=>?_;have p_:=aJ8.mod k4 (λk hk e=>by subst e;exact aJ8.cY hr3 (by decide) hk);show Calls _ _ #[.pointer (some (Addr.add _ 2))] _ _
 rw[bR];refine(aqU (B:=g+1) (o:=2) hr4 (by simp[fR])).mono ?_;rintro _ w5 ⟨rfl,aKF,xe⟩;have qO:=p_.mod xe (λk hk e=>by subst e;exact p_.cY hr4 (by decide) hk);refine .inl ⟨rfl,?_⟩;show cJ (Addr.add _ 4) _ _ _ _
 rw[bR];refine aH5 aKF.row (by simp[fR]) (by simp[Value.oneCell']) λw6 A4 k5 IZ=>⟨rfl,?_,?_⟩
 .have aKG:=aKF.other A4 k5 rfl rfl
  have yS:=qO.mod k5 (λk hk e=>by subst e;exact qO.cY aKF.row (by decide) hk);refine⟨none,.slice none 0 0,p',c',?_,?_⟩
  .have e:x.fin.out.length=x.out.length+1:=by simp[St.fin]
   rw[e];exact aKG
  .have e:x.fin.out.length=x.out.length+1:=by simp[St.fin]
   have e2:bI x.fin.out=bI x.out++[.string (S x.cur)]:=by simp[St.fin,bI]
   rw[e,e2];exact yS
 .exact((yZ.trans (k4.weaken (λk e=>by omega))).trans (xe.weaken (λk e=>by omega))).trans (k5.weaken (λk e=>by omega))
end Go.Proofs.YtihaaoehhgmphaaGreatDoor.F
namespace Go.Proofs.YtihaaoehhgmphaaGreatDoor.F
open IntKind Go.RowKit Vc
variable{w:World}
def _root_.Go.Proofs.YtihaaoehhgmphaaGreatDoor.Still.up{w w1 w2:World}{g:Nat}(h:Still w w1)(hm:Up g w1 w2)(hg:w.heap.size<=g):Still w w2:=Mod.trans h hm (λ_ h=>h) (λi hi e=>by omega)
section
variable{g:Nat}{ifs:ag}{x:St}
def ju.c0(h:ju w g ifs x):w.cell? ⟨g,0,none⟩=some (.string (S ifs)):=by obtain⟨q,v,pa,co,hb,ho⟩:=h;exact hb.row.aj rfl
def ju.c4(h:ju w g ifs x):w.cell? ((Addr.mk g 0 none).add 4)=some (.bool x.has):=by obtain⟨q,v,pa,co,hb,ho⟩:=h;rw[bR];exact hb.row.aj rfl
def ju.c5(h:ju w g ifs x):w.cell? ((Addr.mk g 0 none).add 5)=some (.bool x.yY):=by obtain⟨q,v,pa,co,hb,ho⟩:=h;rw[bR];exact hb.row.aj rfl
def Eu{K:World->Prop}(h:ju w g ifs x)(b:Bool)(hK:∀w',ju w' g ifs (x.mark b)->Up g w w'->K w'):cJ ((Addr.mk g 0 none).add 5) K 0 [.bool b] w:=by obtain⟨q,v,pa,co,hb,ho⟩:=h;rw[bR];refine aH5 hb.row (by simp) (by simp[Value.oneCell']) λw3 hr3 dD vl=>hK _ ⟨q,v,pa,co,hb.other hr3 dD rfl rfl,ho.mod dD (λk hk e=>by subst e;exact ho.cY hb.row (by decide) hk)⟩ (dD.weaken (λk e=>by omega))
def Dt(s:ag)(c:UInt8):aH3 J1 #[.string (S s),.string (S [c])] w (λe w'=>e=.returned (.bool (decide (c∈s)))/\w'=w):=by
 refine(Tryz.strings_Contains_one (S s) c w).mono ?_;rintro _ w1 ⟨rfl,rfl⟩;refine⟨?_,rfl⟩;have e:decide (0<=Lib.indexByte (S s).data.toList c)=decide (c∈s):=by
  show decide (0<=Lib.indexByte s c)=_
  by_cases h:c∈s
  .obtain⟨k,hk,_⟩:=SB (List.count_pos_iff.2 h)
   rw[hk,fV h,fV (by omega)]
  .have h1:=Lib.indexByte_ge s c
   rw[aIl h,aIl];intro h0;obtain⟨o,ho⟩:=ON h0;exact h (tq (Lib.indexByte_some ho).1)
 rw[e]
def au4{c:UInt8}(h:decide (c∈ifs)=true):uT ifs x c=if blank c=true then(if x.has=true then x.fin.mark true else x)else if x.has=true\/x.yY=false then x.fin.mark false else x.mark false:=by unfold uT;rw[aR h]
def ap5(s:ag)(c:UInt8):rB ifs x (s++[c])=uT ifs (rB ifs x s) c:=by simp[rB]
def Ge(h:ju w g ifs x)(s:ag)(hs:x.size+2*s.length<=1000000)(hi:ifs.length<=1000000):
  aH3 OV #[.pointer (some ⟨g,0,none⟩),.string (S s)] w (λe w'=>e=.returned (.tuple #[])/\ju w' g ifs (rB ifs x s)/\Up g w w'):=by
 refine aj8 _ _ _ _ ?_;refine⟨λi w1=>∃k:Nat,i=(k:Int)/\k<=s.length/\ju w1 g ifs (rB ifs x (s.take k))/\Up g w w1,λi _=>s.length-i.toNat,⟨0,rfl,dx _,h,Up.refl _ _⟩,?_⟩;rintro _ _ w1 ⟨k,rfl,hk,hsp,hu⟩;refine aB (λhx=>?_) (λhx=>?_)
 .have hx:k<s.length:=by have:=aT hx;omega
  have e1:i64.wrap ((k:Int)+1)=((k+1:Nat):Int):=by rw[wrap_i64 (by omega) (by omega)];omega
  rw[e1];simp only[bT];rw[aqL hx];have hsz:=Rk ifs (s.take k) x;have hstep:rB ifs x (s.take (k+1))=uT ifs (rB ifs x (s.take k)) s[k]:=by rw[DC hx,ap5]
  rw[eH,vR (by omega)]at hsz;generalize rB ifs x (s.take k)=y at*;generalize s[k]=c at*;have next:∀w',ju w' g ifs (uT ifs y c)->Up g w1 w'->(∃j:Nat,((k+1:Nat):Int)=(j:Int)/\j<=s.length/\ju w' g ifs (rB ifs x (s.take j))/\Up g w w')/\s.length-(k+1)<s.length-k:=
   λw' h1 h2=>⟨⟨k+1,rfl,hx,by rw[hstep];exact h1,hu.trans h2⟩,by omega⟩
  refine⟨by omega,by omega,by omega,_,hsp.c0,(Dt ifs c).mono ?_⟩;rintro _ w2 ⟨rfl,rfl⟩;refine .inl ⟨_,rfl,aB (λhin=>?_) (λhin=>?_)⟩
  .have hin:¬decide (c∈ifs)=true:=by simpa using hin
   have he:uT ifs y c=y.put (xU [c]):=by unfold uT;rw[aL hin]
   rw[he]at next;refine(Rl [c] (by simp)).mono ?_;rintro _ w3 ⟨rfl,hs3⟩;have hal:=Dx [c];simp only[bf,cm]at hal;have Wd:=Ti y;refine .inl ⟨_,rfl,(wu (hsp.still hs3) _ (by omega)).mono ?_⟩;rintro _ w4 ⟨rfl,hs4,vt⟩;exact .inl ⟨rfl,next _ hs4 ((Up.of hs3).trans vt)⟩
  .have hin:decide (c∈ifs)=true:=by simpa using hin
   have he:=au4 (x:=y) hin;refine(Dt [32,9,10] c).mono ?_;rintro _ w3 ⟨rfl,rfl⟩;refine .inl ⟨_,rfl,aB (λhb=>⟨_,hsp.c4,aB (λhh=>?_) (λhh=>?_)⟩) (λhb=>⟨_,hsp.c4,aB (λhh=>?_) (λhh=>⟨_,hsp.c5,aB (λhg=>?_) (λhg=>?_)⟩)⟩)⟩
   .have hb:blank c=true:=by rw[<-GD];exact hb
    rw[aR hb,aR hh]at he;rw[he]at next;refine(GF hsp (by omega)).mono ?_;rintro _ w4 ⟨rfl,hs4,vt⟩;exact .inl ⟨rfl,Eu hs4 true λw5 hs5 vu=>next _ hs5 (vt.trans vu)⟩
   .have hb:blank c=true:=by rw[<-GD];exact hb
    rw[aR hb,aL (by rw[hh];decide)]at he;rw[he]at next;exact next _ hsp (Up.refl _ _)
   .have hb:¬blank c=true:=by rw[<-GD];exact λe=>by rw[show decide (c∈[32,9,10])=true from e]at hb;cases hb
    rw[aL hb,aR (.inl hh)]at he;rw[he]at next;refine aB (λ_=>?_) (λh=>by rw[hh]at h;cases h);refine(GF hsp (by omega)).mono ?_;rintro _ w4 ⟨rfl,hs4,vt⟩;exact .inl ⟨rfl,Eu hs4 false λw5 hs5 vu=>next _ hs5 (vt.trans vu)⟩
   .have hb:¬blank c=true:=by rw[<-GD];exact λe=>by rw[show decide (c∈[32,9,10])=true from e]at hb;cases hb
    have hg:y.yY=false:=by simpa using hg
    rw[aL hb,aR (.inr hg)]at he;rw[he]at next;refine(GF hsp (by omega)).mono ?_;rintro _ w4 ⟨rfl,hs4,vt⟩;exact .inl ⟨rfl,Eu hs4 false λw5 hs5 vu=>next _ hs5 (vt.trans vu)⟩
   .have hb:¬blank c=true:=by rw[<-GD];exact λe=>by rw[show decide (c∈[32,9,10])=true from e]at hb;cases hb
    have hg:y.yY=true:=by simpa using hg
    rw[aL hb,aL (by rw[hh,hg];decide)]at he;rw[he]at next;exact Eu hsp false λw5 hs5 vu=>next _ hs5 vu
 .have hx:k=s.length:=by have:=a_ hx;omega
  subst hx;rw[oT]at hsp;exact⟨rfl,hsp,hu⟩
def wh(h:ju w g ifs x)(p:Sg)(hs:x.size+2*p.text.length<=900000)(hi:ifs.length<=1000000):
  aH3 O4 #[.pointer (some ⟨g,0,none⟩),.agg #[.int .i64 (p.kind:Int),.string (S p.text)]] w (λe w'=>e=.returned (.tuple #[])/\ju w' g ifs (ld ifs x p)/\Up g w w'):=by
 refine akf _ _ _ _ _ ?_;have Wd:=Ti x;refine aP λw1 cG hs1 hz1=>⟨_,cG.aj rfl,?_⟩;have h1:=h.still hs1;have hu1:Up g w w1:=Up.of hs1;have hal:=Dx p.text;have hel:=K5 p.text;refine aB (λhk=>⟨_,cG.aj rfl,aB (λht=>⟨_,cG.aj rfl,?_⟩) (λht=>?_)⟩) (λhk=>aB (λhk1=>⟨_,cG.aj rfl,?_⟩) (λhk1=>aB (λhk2=>⟨_,cG.aj rfl,?_⟩) (λhk2=>aB (λqb=>⟨_,h1.c4,aB (λhh=>?_) (λhh=>?_)⟩) (λqb=>?_))))
 .have hk:p.kind=0:=by have:=aT hk;omega
  have ht:p.text≠[]:=by simpa using ht
  have e:ld ifs x p=x.put (xU p.text):=by unfold ld;rw[aR hk,aL ht]
  rw[e];refine(Rl _ (by omega)).mono ?_;rintro _ w2 ⟨rfl,hs2⟩;refine .inl ⟨_,rfl,(wu (h1.still hs2) _ (by omega)).mono ?_⟩;rintro _ w3 ⟨rfl,hs3,yZ⟩;exact .inl ⟨rfl,rfl,hs3,(hu1.trans (Up.of hs2)).trans yZ⟩
 .have hk:p.kind=0:=by have:=aT hk;omega
  have ht:p.text=[]:=by simpa using ht
  have e:ld ifs x p=x:=by unfold ld;rw[aR hk,aR ht]
  rw[e];exact⟨rfl,h1,hu1⟩
 .have hk:¬p.kind=0:=by have:=a_ hk;omega
  have hk1:p.kind=1:=by have:=aT hk1;omega
  have e:ld ifs x p=x.put (escape p.text):=by unfold ld;rw[aL hk,aR hk1]
  rw[e];refine(ZZ _ (by omega)).mono ?_;rintro _ w2 ⟨rfl,hs2⟩;refine .inl ⟨_,rfl,(wu (h1.still hs2) _ (by omega)).mono ?_⟩;rintro _ w3 ⟨rfl,hs3,yZ⟩;exact .inl ⟨rfl,rfl,hs3,(hu1.trans (Up.of hs2)).trans yZ⟩
 .have hk:¬p.kind=0:=by have:=a_ hk;omega
  have hk1:¬p.kind=1:=by have:=a_ hk1;omega
  have hk2:p.kind=2:=by have:=aT hk2;omega
  have e:ld ifs x p=rB ifs x p.text:=by unfold ld;rw[aL hk,aL hk1,aR hk2]
  rw[e];refine(Ge h1 _ (by omega) hi).mono ?_;rintro _ w3 ⟨rfl,hs3,yZ⟩;exact .inl ⟨rfl,rfl,hs3,hu1.trans yZ⟩
 .have hk:¬p.kind=0:=by have:=a_ hk;omega
  have hk1:¬p.kind=1:=by have:=a_ hk1;omega
  have hk2:¬p.kind=2:=by have:=a_ hk2;omega
  have qb:p.kind=3:=by have:=aT qb;omega
  have e:ld ifs x p=x.fin.mark false:=by unfold ld;rw[aL hk,aL hk1,aL hk2,aR qb,aR hh]
  rw[e];refine(GF h1 (by omega)).mono ?_;rintro _ w3 ⟨rfl,hs3,yZ⟩;exact .inl ⟨rfl,Eu hs3 false λw5 hs5 vu=>⟨rfl,hs5,(hu1.trans yZ).trans vu⟩⟩
 .have hk:¬p.kind=0:=by have:=a_ hk;omega
  have hk1:¬p.kind=1:=by have:=a_ hk1;omega
  have hk2:¬p.kind=2:=by have:=a_ hk2;omega
  have qb:p.kind=3:=by have:=aT qb;omega
  have e:ld ifs x p=x.mark false:=by unfold ld;rw[aL hk,aL hk1,aL hk2,aR qb,aL (by rw[hh];decide)]
  rw[e];exact Eu h1 false λw5 hs5 vu=>⟨rfl,hs5,hu1.trans vu⟩
 .have hk:¬p.kind=0:=by have:=a_ hk;omega
  have hk1:¬p.kind=1:=by have:=a_ hk1;omega
  have hk2:¬p.kind=2:=by have:=a_ hk2;omega
  have qb:¬p.kind=3:=by have:=a_ qb;omega
  have e:ld ifs x p=x:=by unfold ld;rw[aL hk,aL hk1,aL hk2,aL qb]
  rw[e];exact⟨rfl,h1,hu1⟩
end
def eZ(l:List Sg):Nat:=(l.map λp=>2*p.text.length+1).sum
def arf(l m:List Sg):eZ (l++m)=eZ l+eZ m:=by simp[eZ]
def asZ(ifs:ag)(l:List Sg)(p:Sg):yy ifs (l++[p])=ld ifs (yy ifs l) p:=by simp[yy]
def as0(ifs:ag)(l:List Sg):(yy ifs l).size<=eZ l:=by
 have:∀(l:List Sg) (x:St),(l.foldl (ld ifs) x).size<=x.size+eZ l:=by
  intro l
  induction l with
  |nil=>intro x;exact aW _
  |cons p l ih=>intro x;have h1:=are ifs x p;have h2:=ih (ld ifs x p);simp only[vQ,eZ,fW,aIV]at h2⊢;omega
 have:=this l St.zero;simp only[St.size,St.zero,qZ,aLm,cm]at this;unfold yy;exact lH this (by omega)
def acS{l:List Sg}{k:Nat}(h:k<l.length):eZ (l.take k)+2*l[k].text.length+1<=eZ l:=by
 have e:l=l.take k++l[k]::l.drop (k+1):=by rw[<-mI h,oQ]
 have:eZ l=eZ (l.take k)+eZ (l[k]::l.drop (k+1)):=(gK eZ e).trans (arf _ _);rw[this];simp only[eZ,fW,aIV];omega
def Told(w:World)(l:List ag)(e:Ending)(w':World):Prop:=∃q D,e=.returned (.slice q l.length D)/\c_ w' q l.length l/\Still w w'
def ap6{p:Option Addr}{n C:Nat}{l:List Sg}(h:Ac w p n l)(ifs:ag)(hn:n<=1000)(hl:eZ l<=500000)(hi:ifs.length<=1000000):
  aH3 Qg #[.slice p n C,.string (S ifs)] w (Told w (pQ ifs l)):=by
 refine amh _ _ _ _ _ _ ?_;have h1:=h.1;refine aP λw1 cG hs1 hz1=>?_;have h0:ju w1 w.heap.size ifs St.zero:=⟨none,.slice none 0 0,none,0,ef.fresh cG rfl rfl,aV.nil _ _ _ _⟩;refine⟨λi w2=>∃k:Nat,i=(k:Int)/\k<=n/\ju w2 w.heap.size ifs (yy ifs (l.take k))/\Still w w2,λi _=>n-i.toNat,⟨0,rfl,dx _,h0,hs1⟩,?_⟩;rintro _ _ w2 ⟨k,rfl,hk,hsp,hst⟩;have hsz:=as0 ifs (l.take k);refine aB (λhx=>?_) (λhx=>?_)
 .have hx:k<n:=by have:=aT hx;omega
  have e1:i64.wrap ((k:Int)+1)=((k+1:Nat):Int):=by rw[wrap_i64 (by omega) (by omega)];omega
  rw[e1];simp only[bT];obtain⟨a,y,rfl,hy,c1,c2⟩:=(h.still hst).get hx;have I3:l[k]'(by omega)=y:=(jj.1 hy).2;have sZ:=acS (l:=l) (k:=k) (by omega);rw[I3]at sZ;refine⟨by omega,by omega,_,_,c1,c2,wQ rfl (by simp[Value.oneCell']) λw3 hr3 hs3 vl=>⟨_,_,hr3.aj rfl,hr3.aj rfl,?_⟩⟩;refine(wh (hsp.still hs3) y (by omega) hi).mono ?_;rintro _ w4 ⟨rfl,hs4,vt⟩;refine .inl ⟨rfl,⟨k+1,rfl,hx,?_,(hst.trans hs3).up vt (aW _)⟩,by omega⟩;rw[DC (by omega),asZ,I3];exact hs4
 .have hx:k=n:=by have:=a_ hx;omega
  subst hx;rw[vK (by omega)]at hsp hsz;refine⟨_,by have:=hsp.c4;rwa[bR]at this,aB (λhh=>?_) (λhh=>?_)⟩
  .refine(GF hsp (by omega)).mono ?_
   rintro _ w4 ⟨rfl,hs4,vt⟩;obtain⟨q,v,pa,co,hb,ho⟩:=hs4;have e:pQ ifs l=(yy ifs l).fin.out:=by unfold pQ UM;rw[aR hh]
   refine .inl ⟨rfl,_,_,_,hb.row.aj rfl,?_⟩
   try dsimp only[zR]
   rw[Told,e];exact⟨_,_,rfl,c_.of ho,hst.up vt (aW _)⟩
  .obtain⟨q,v,pa,co,hb,ho⟩:=hsp
   have e:pQ ifs l=(yy ifs l).out:=by unfold pQ UM;rw[aL (by rw[hh];decide)]
   refine⟨_,_,_,hb.row.aj rfl,?_⟩
   try dsimp only[zR]
   rw[Told,e];exact⟨_,_,rfl,c_.of ho,hst⟩
def aoF(p:Bool)(l m:List Sg):joined p (l++m)=joined p l++joined p m:=by simp[joined]
def Z0(p:Bool)(x:Sg):(aJf p x).length<=2*x.text.length+1:=by
 have h1:=Dx x.text;have h2:=K5 x.text;unfold aJf
 repeat' split
 all_goals first|omega|(simp only[bf,cm];omega)
def aaK(p:Bool):∀l:List Sg,(joined p l).length<=eZ l
 |[]=>aW _
 |x::l=>by have h1:=Z0 p x;have h2:=aaK p l;simp only[joined,oS,aIa,eZ,fW,aIV]at h2⊢;omega
def ap7{p:Option Addr}{n C:Nat}{l:List Sg}(h:Ac w p n l)(b:Bool)(hn:n<=1000)(hl:eZ l<=500000):
  aH3 Qh #[.slice p n C,.bool b] w (λe w'=>e=.returned (.string (S (joined b l)))/\Still w w'):=by
 refine aml _ _ _ _ _ _ ?_;have h1:=h.1;refine aP λw1 cG hs1 hz1=>?_;have l1:∀a b,mS 86 (([a,b]:List Value).length) 0:=λ_ _=>DE;refine⟨λi w2=>∃(k:Nat) (q:Option Addr) (v:Value),i=(k:Int)/\k<=n/\ef w2 86 w.heap.size 0 (w.heap.size+1) [.pointer q,v] v (joined b (l.take k))/\Still w w2,λi _=>n-i.toNat,
  ⟨0,none,.slice none 0 0,rfl,dx _,ef.fresh cG rfl rfl,hs1⟩,?_⟩
 rintro _ _ w2 ⟨k,q,v,rfl,hk,hb,hst⟩;have hjl:=aaK b (l.take k);refine aB (λhx=>?_) (λhx=>?_)
 .have hx:k<n:=by have:=aT hx;omega
  have e1:i64.wrap ((k:Int)+1)=((k+1:Nat):Int):=by rw[wrap_i64 (by omega) (by omega)];omega
  rw[e1];simp only[bT];obtain⟨a,y,rfl,hy,c1,c2⟩:=(h.still hst).get hx;have I3:l[k]'(by omega)=y:=(jj.1 hy).2;have sZ:=acS (l:=l) (k:=k) (by omega);rw[I3]at sZ;have hjs:joined b (l.take (k+1))=joined b (l.take k)++aJf b y:=by rw[DC (by omega),aoF,I3];simp[joined]
  have hj1:=Z0 b y;have hal:=Dx y.text;have hel:=K5 y.text;have next:∀w3 w4 v',Still w2 w3->(∃q',ef w4 86 w.heap.size 0 (w.heap.size+1) [.pointer q',v'] v' (joined b (l.take k)++aJf b y))->Mod (λi=>i=w.heap.size\/v.ownBlock=some i) w3 w4->
    ∃(k':Nat) (q':Option Addr) (v':Value),((k+1:Nat):Int)=(k':Int)/\k'<=n/\ef w4 86 w.heap.size 0 (w.heap.size+1) [.pointer q',v'] v' (joined b (l.take k'))/\Still w w4:=by
   rintro w3 w4 v' hs3 ⟨q',hb'⟩ hm;refine⟨k+1,q',v',rfl,hx,by rw[hjs];exact hb',Mod.trans (hst.trans hs3) hm (λ_ h=>h) (λi hi e=>?_)⟩;rcases e with rfl|e
   .omega
   .have:=hb.own.mR e;omega
  refine⟨λw5=>∃(k':Nat) (q':Option Addr) (v':Value),((k+1:Nat):Int)=(k':Int)/\k'<=n/\ef w5 86 w.heap.size 0 (w.heap.size+1) [.pointer q',v'] v' (joined b (l.take k'))/\Still w w5,
   ⟨by omega,by omega,_,_,c1,c2,wQ rfl (by simp[Value.oneCell']) λw3 hr3 hs3 vl=>⟨_,hr3.aj rfl,?_⟩⟩,λ_ w5 h5=>⟨h5,by omega⟩⟩
  have aI_:=hb.still hs3;have Wa:=aI_.row.lt;refine aB (λh3=>?_) (λh3=>⟨λc w4=>c=(b&&decide (y.kind=1))/\w4=w3,aB (λsZ=>⟨_,hr3.aj rfl,?_,rfl⟩) (λA5=>⟨by rw[A5];rfl,rfl⟩),?_⟩)
  .have h3:y.kind=3:=by have:=aT h3;omega
   have e:aJf b y=[32]:=by unfold aJf;rw[aR h3]
   rw[e]at next;refine(Y3 aI_ (l1 _ _) 32 Wa (by omega)).mono ?_;rintro _ w4 ⟨rfl,v4,hb4,k4⟩;exact .inl ⟨_,rfl,rfl,next _ _ _ hs3 ⟨_,hb4⟩ k4⟩
  .rw[sZ]
   simp only[zu]
   by_cases hy1:y.kind=1
   .rw[fV hy1,fV (by omega)]
   .rw[aIl hy1,aIl (by omega)]
  have h3:¬y.kind=3:=by have:=a_ h3;omega
  rintro c _ w4 ⟨rfl,rfl⟩;refine aB (λhc=>⟨_,hr3.aj rfl,?_⟩) (λhc=>aB (λsZ=>⟨_,hr3.aj rfl,?_⟩) (λA5=>⟨_,hr3.aj rfl,?_⟩))
  .obtain⟨hc1,hc2⟩:=Bool.and_eq_true_iff.1 hc
   have hc2:=aT hc2;have e:aJf b y=escape y.text:=by unfold aJf;rw[aL h3,aR hc1,aR hc2]
   rw[e]at next;refine(ZZ y.text (by omega)).mono ?_;rintro _ w5 ⟨rfl,hs5⟩;refine .inl ⟨_,rfl,(aKu (aI_.still hs5) (l1 _ _) _ (aI_.still hs5).row.lt (by omega)).mono ?_⟩;rintro _ w6 ⟨rfl,v6,aKG,k5⟩;exact .inl ⟨_,_,rfl,rfl,next _ _ _ (hs3.trans hs5) ⟨_,aKG⟩ k5⟩
  .have hc2:¬y.kind=1:=by rw[sZ]at hc;simpa using hc
   have e:aJf b y=xU y.text:=by unfold aJf;rw[aL h3,aR sZ,aL hc2]
   rw[e]at next;refine(Rl y.text (by omega)).mono ?_;rintro _ w5 ⟨rfl,hs5⟩;refine .inl ⟨_,rfl,(aKu (aI_.still hs5) (l1 _ _) _ (aI_.still hs5).row.lt (by omega)).mono ?_⟩;rintro _ w6 ⟨rfl,v6,aKG,k5⟩;exact .inl ⟨_,_,rfl,rfl,next _ _ _ (hs3.trans hs5) ⟨_,aKG⟩ k5⟩
  .have e:aJf b y=y.text:=by unfold aJf;rw[aL h3,aL (by rw[A5];decide)]
   rw[e]at next;refine(aKu aI_ (l1 _ _) _ aI_.row.lt (by omega)).mono ?_;rintro _ w6 ⟨rfl,v6,aKG,k5⟩;exact .inl ⟨_,_,rfl,rfl,next _ _ _ hs3 ⟨_,aKG⟩ k5⟩
 .have hx:k=n:=by have:=a_ hx;omega
  subst hx;rw[vK (by omega)]at hb hjl;refine(xF hb (by omega)).mono ?_;rintro _ w3 ⟨rfl,dD⟩;exact .inl ⟨_,rfl,rfl,Mod.trans hst dD (λ_ h=>h) (λi hi e=>by have:=hb.own.mR e;omega)⟩
end Go.Proofs.YtihaaoehhgmphaaGreatDoor.F
namespace Go.Proofs.YtihaaoehhgmphaaGreatDoor
open IntKind Go.RowKit Vc
set_option maxRecDepth 100000
variable{w wb:World}
abbrev Ms:TypeId:=408
abbrev wT:TypeId:=356
structure iD(wb w:World)(xb:Nat)(V:List A.Vr)(st:Int)(l:List F.Sg):Prop where
 still:Still wb w
 low:wb.heap.size<=xb
 row:∃vp vc op oc,Row w xb wT ⟨[.slice vp V.length vc,.slice none 0 0,.int .i64 st,.slice none 0 0,.slice op l.length oc]⟩/\A.dz w vp V.length vc V/\aV w wb.heap.size Ms 2 (.slice op l.length oc) l.length (F.CI l)
def kL(xb:Nat)(w:World)(k:Nat):Prop:=k=xb\/∃v,w.cell? ⟨xb,4,none⟩=some v/\v.ownBlock=some k
section
variable{xb:Nat}{V:List A.Vr}{st:Int}{l:List F.Sg}
def iD.me(h:iD wb w xb V st l){k:Nat}(hk:kL xb w k):wb.heap.size<=k/\k<w.heap.size:=by
 obtain⟨vp,vc,op,oc,hr,hv,ho⟩:=h.row;rcases hk with rfl|⟨v,hv,hk⟩
 .exact⟨h.low,hr.lt⟩
 .have:w.cell? ⟨xb,4,none⟩=some (.slice op l.length oc):=hr.aj rfl
  rw[this]at hv;obtain rfl:=bM hv;exact ho.lt k hk
def iD.gone(h:iD wb w xb V st l){w':World}(hm:Still w w'):cA (kL xb w) w (kL xb w') w':=by
 obtain⟨vp,vc,op,oc,hr,hv,ho⟩:=h.row;refine⟨hm.weaken λ_ h=>h.elim,λk hk=>.inl ?_⟩;rcases hk with hk|⟨v,hv,hk⟩
 .exact .inl hk
 .exact .inr ⟨v,(World.cell?_of_block (hm.block _ hr.lt λh=>h)).symm.trans hv,hk⟩
def iD.on(h:iD wb w xb V st l){w':World}(hm:Still w w'):iD wb w' xb V st l:=by obtain⟨vp,vc,op,oc,h1,h2,h3⟩:=h.row;exact⟨h.still.trans hm,h.low,vp,vc,op,oc,h1.still hm,h2.still hm,h3.still hm⟩
abbrev ptV(k:Int)(q:Bool)(t n o:ag)(p:Option Addr)(m c:Nat):Value:=.agg #[.int .i64 k,.bool q,.string (S t),.string (S n),.string (S o),.slice p m c]
def iD.push(h:iD wb w xb V st l)(hl:l.length<=1000)(x:F.Sg){q:Addr}(hq:∀j u,(F.BJ x)[j]?=some u->w.cell? (q.add j)=some u){vp:Option Addr}{vc:Nat}{op:Option Addr}{oc:Nat}(hr:Row w xb wT ⟨[.slice vp V.length vc,.slice none 0 0,.int .i64 st,.slice none 0 0,.slice op l.length oc]⟩)(hv:A.dz w vp V.length vc V)(ho:aV w wb.heap.size Ms 2 (.slice op l.length oc) l.length (F.CI l))
  {P:World->Prop}(hK:∀w',iD wb w' xb V st (l++[x])->cA (kL xb w) w (kL xb w') w'->P w'){C:Option Addr->Nat->World->Prop}(hC:∀p c w1,cJ (Addr.mk xb 4 none) P 0 [.slice p (l.length+1) c] w1->C p c w1):dA w Ms 2 24 op l.length oc (some q) 1 C:=by
 have hz:=h.still.size;refine qq ho hz (F.BJ x) rfl (by simp[F.BJ,Value.oneCell']) (λ_=>⟨q,rfl,hq⟩) (by omega) (by omega) λp c w1 o1 m1 bk=>hC p c w1 ?_;have r1:=hr.mod m1 λe=>ho.cY hr (by decide) e;have v1:A.dz w1 vp V.length vc V:=by
  rcases pK V.length with e|e
  .exact⟨hv.1,hv.2.1,λh=>by omega,λh=>by omega⟩
  .refine hv.mod m1 λa ha hk=>?_
   obtain⟨a',cs,h1,h2⟩:=hv.2.2.2 e;rw[ha]at h1;obtain rfl:=bM h1;exact ho.cY h2 (by decide) hk
 refine aH5 (g:=xb) (o:=4) r1 (by simp) (by simp[Value.oneCell']) λw2 r2 m2 z2=>?_;have hf:∀k,(Value.slice op l.length oc).ownBlock=some k->kL xb w k:=λk hk=>.inr ⟨_,hr.aj rfl,hk⟩;refine hK w2 ⟨Mod.trans (Mod.trans h.still m1 (λ_ h=>h) λi hi hk=>by have:=(ho.lt i hk).1;omega) m2 (λ_ h=>h) (λi hi e=>by have:=h.low;omega),h.low,vp,vc,p,c,by rw[aIa];exact r2,?_,?_⟩ ⟨Mod.trans m1 m2 hf (λk _ e=>.inl e),λk hk=>?_⟩
 .rcases pK V.length with e|e
  .exact⟨v1.1,v1.2.1,λh=>by omega,λh=>by omega⟩
  .refine v1.mod m2 λa ha hk=>?_
   obtain⟨a',cs,h1,h2⟩:=v1.2.2.2 e;rw[ha]at h1;obtain rfl:=bM h1;exact h2.ne r1 (by decide) hk
 .have e:F.CI (l++[x])=F.CI l++F.BJ x:=by simp[F.CI]
  rw[e,aIa];exact o1.mod m2 λk hk e=>o1.cY r1 (by decide) (by rw[hk,e])
 .rcases hk with hk|⟨v,hv,hk⟩
  .exact .inl (.inl hk)
  .have:w2.cell? ⟨xb,4,none⟩=some (.slice p (l.length+1) c):=r2.aj rfl
   rw[this]at hv;obtain rfl:=bM hv;rcases bk.own (n:=l.length)with e|e
   .exact .inl (hf k (e.symm.trans hk))
   .have hk':(Value.slice p (l.length+1) c).ownBlock=some k:=hk
    rw[hk']at e;exact .inr (by have:=bM e;omega)
def as1(h:iD wb w xb V st l)(hl:l.length<=1000)(k:Int)(q:Bool)(t n o s:ag)(p:Option Addr)(m c:Nat):
  aH3 Ph #[.pointer (some ⟨xb,0,none⟩),ptV k q t n o p m c,.string (S s)] w (λe w'=>e=.returned (.tuple #[])/\iD wb w' xb V st (l++[⟨if q then 1 else 2,s⟩])/\cA (kL xb w) w (kL xb w') w'):=by
 refine akC _ _ _ _ _ _ _ _ _ _ _ _ ?_;refine aP λw1 r1 s1 z1=>⟨_,r1.aj rfl,?_⟩;have h1:=h.on s1;obtain⟨vp,vc,op,oc,hr,hv,ho⟩:=h1.row;cases q with
 |true=>refine⟨_,_,_,hr.aj rfl,aP λw2 r2 s2 z2=>?_⟩;refine(h1.on s2).push hl ⟨1,s⟩ (λj u hu=>?_) (hr.still s2) (hv.still s2) (ho.still s2) (P:=λw'=>_/\_/\_) (λw' h' g'=>⟨rfl,h',((h.gone (s1.trans s2)).trans g')⟩) λ_ _ _ h=>h;rw[bR,cE];exact r2.aj hu
 |false=>refine⟨_,_,_,hr.aj rfl,aP λw2 r2 s2 z2=>?_⟩;refine(h1.on s2).push hl ⟨2,s⟩ (λj u hu=>?_) (hr.still s2) (hv.still s2) (ho.still s2) (P:=λw'=>_/\_/\_) (λw' h' g'=>⟨rfl,h',((h.gone (s1.trans s2)).trans g')⟩) λ_ _ _ h=>h;rw[bR,cE];exact r2.aj hu
end
end Go.Proofs.YtihaaoehhgmphaaGreatDoor
namespace Go.Proofs.YtihaaoehhgmphaaGreatDoor
open IntKind Go.RowKit Vc
set_option maxRecDepth 100000
variable{w wb:World}
def azy(k:Nat):List PanicEntry:=[{v:=.iface 28 (.int .i64 (k:Int)),recovered:=false}]
structure rV(V:List A.Vr):Prop where
 agO:A.BV V
 aKq:∀v∈V,v.value.length<=140737488355328
def aJJ(V:List A.Vr)(p:L.Pt):Option (Pr (F.Sg×List A.Vr)):=
 if p.k=0 then some (.ok (⟨if p.q then 1 else 0,p.t⟩,V))else none
section
variable{xb:Nat}{V:List A.Vr}{st:Int}{l:List F.Sg}
def iD.agP(h:iD wb w xb V st l){q:Option Addr}{D:Nat}{V':List A.Vr}(hq:A.dz w q V'.length D V'){P:World->Prop}(hK:∀w',iD wb w' xb V' st l->cA (kL xb w) w (kL xb w') w'->P w'):cJ (Addr.mk xb 0 none) P 0 [.slice q V'.length D] w:=by
 obtain⟨vp,vc,op,oc,hr,hv,ho⟩:=h.row;refine aH5 (g:=xb) (o:=0) hr (by simp) (by simp[Value.oneCell']) λw2 r2 m2 z2=>hK w2 ⟨Mod.trans h.still m2 (λ_ h=>h) (λi hi e=>by have:=h.low;omega),h.low,q,D,op,oc,r2,?_,ho.mod m2 λk hk e=>ho.cY hr (by decide) (by rw[hk,e])⟩ ⟨m2.weaken λk e=>.inl e,λk hk=>.inl ?_⟩
 .rcases pK V'.length with e|e
  .exact⟨hq.1,hq.2.1,λh=>by omega,λh=>by omega⟩
  .refine hq.mod m2 λa ha hk=>?_
   obtain⟨a',cs,h1,h2⟩:=hq.2.2.2 e;rw[ha]at h1;obtain rfl:=bM h1;exact h2.ne hr (by decide) hk
 .rcases hk with hk|⟨v,hv,hk⟩
  .exact .inl hk
  .have:w2.cell? ⟨xb,4,none⟩=some (.slice op l.length oc):=r2.aj rfl
   rw[this]at hv;obtain rfl:=bM hv;exact .inr ⟨_,hr.aj rfl,hk⟩
def iD.same(h:iD wb w xb V st l){w':World}(hm:Still w w'){k:Nat}(hk:kL xb w' k):kL xb w k:=by
 obtain⟨vp,vc,op,oc,hr,hv,ho⟩:=h.row;rcases hk with hk|⟨v,hv,hk⟩
 .exact .inl hk
 .exact .inr ⟨v,(World.cell?_of_block (hm.block _ hr.lt λh=>h)).symm.trans hv,hk⟩
def cA.free{F F':Nat->Prop}{w w':World}(h:cA F w F' w'){k:Nat}(hk:k<w.heap.size)(hn:¬F k):¬F' k:=λhf=>(h.new k hf).elim hn λe=>by omega
end
end Go.Proofs.YtihaaoehhgmphaaGreatDoor
namespace Go.Proofs.YtihaaoehhgmphaaGreatDoor
open IntKind Go.RowKit Vc
set_option maxRecDepth 100000
variable{w wb:World}
def aJ3:List L.Pt->List A.Vr->Option (Pr (List F.Sg×List A.Vr))
 |[],V=>some (.ok ([],V))
 |p::r,V=>match aJJ V p with
  |none=>none
  |some (.bad k)=>some (.bad k)
  |some (.ok g)=>match aJ3 r g.2 with
   |none=>none
   |some (.bad k)=>some (.bad k)
   |some (.ok q)=>some (.ok (g.1::q.1,q.2))
def nW(l:List L.Pt):Nat:=(l.map λp=>p.t.length+1).sum
def axL(wb w:World)(xb:Nat)(st:Int)(l:List F.Sg)(n:Nat)(r:Pr (List F.Sg×List A.Vr))(e:Ending)(w':World):Prop:=match r with
 |.ok p=>e=.returned (.tuple #[])/\iD wb w' xb p.2 st (l++p.1)/\rV p.2/\p.2.length<=n/\cA (kL xb w) w (kL xb w') w'
 |.bad k=>e=.panicked (azy k)/\Still wb w'/\Mod (kL xb w) w w'
section
variable{xb:Nat}{V:List A.Vr}{st:Int}{l:List F.Sg}
def as2(he:Env wb)(h:iD wb w xb V st []){ps:List L.Pt}{p:Option Addr}{n c:Nat}{D:Nat->Prop}(hs:L.cv wb D ps (.slice p n c))(hV:rV V)(hb:V.length+nW ps<=50000)(hn:ps.length<=900){r:Pr (List F.Sg×List A.Vr)}(hr:aJ3 ps V=some r):
  aH3 Pf #[.pointer (some ⟨xb,0,none⟩),.slice p n c] w (axL wb w xb st [] (V.length+nW ps) r):=by
 obtain⟨rfl,hc⟩:=hs.len;refine aky _ _ _ _ _ _ ?_;refine⟨λx w1=>∃(i:Nat) (Vi:List A.Vr) (li:List F.Sg),x=(i:Int)/\i<=ps.length/\iD wb w1 xb Vi st li/\rV Vi/\li.length=i/\Vi.length+nW (ps.drop i)<=V.length+nW ps/\cA (kL xb w) w (kL xb w1) w1/\
  (match aJ3 (ps.drop i) Vi with
  |none=>False
  |some (.bad k)=>r=.bad k
  |some (.ok q)=>r=.ok (li++q.1,q.2)),λx _=>(ps.length-x).toNat,⟨0,V,[],rfl,dx _,h,hV,rfl,by simp,cA.refl _,?_⟩,?_⟩
 .rw[Ki,hr]
  cases r with
  |ok q=>rfl
  |bad k=>rfl
 rintro x _ w1 ⟨i,Vi,li,rfl,hi,h1,We,rW,Wf,g1,ng⟩;refine aB (λhx=>?_) (λhx=>?_)
 .have hx:i<ps.length:=by have:=aT hx;omega
  have hd:ps.drop i=ps[i]::ps.drop (i+1):=mI hx;have hpz:nW (ps.drop i)=ps[i].t.length+1+nW (ps.drop (i+1)):=by rw[hd];simp only[nW,fW,aIV]
  obtain⟨b,v,rfl,hD,hcell,hsv⟩:=(hs.still h1.still).get (gJ hx);obtain⟨wp,wc,rfl⟩:=hsv.form;have cl:∀(j:Nat) (u:Value),(L.h_ ps[i] (.slice wp ps[i].w.length wc))[j]?=some u->w1.cell? ((b.add (Int.toNat (i:Int)*6)).add j)=some u:=λj u hu=>by rw[bT];exact hcell j u hu
  have c0:w1.cell? (b.add (Int.toNat (i:Int)*6))=some (.int .i64 ps[i].k):=cl 0 _ rfl;refine⟨by omega,by omega,_,_,_,_,_,_,_,_,c0,cl 1 _ rfl,cl 2 _ rfl,cl 3 _ rfl,cl 4 _ rfl,cl 5 _ rfl,?_⟩;refine aP λw2 r2 s2 z2=>aH5 (g:=w1.heap.size) (o:=0) r2 (by simp) (by simp[Value.oneCell']) λw3 r3 m3 z3=>?_;have gy:Still w1 w3:=s2.box (aW _) m3;have h3:=h1.on gy;have g13:=g1.trans (h1.gone gy);rw[hd,aJ3]at ng;have step:∀(g:F.Sg×List A.Vr),aJJ Vi ps[i]=some (.ok g)->g.2.length<=Vi.length+ps[i].t.length->rV g.2->∀w4,iD wb w4 xb g.2 st (li++[g.1])->cA (kL xb w3) w3 (kL xb w4) w4->
    (∃(i':Nat) (Vi:List A.Vr) (li:List F.Sg),i64.wrap ((i:Int)+1)=(i':Int)/\i'<=ps.length/\iD wb w4 xb Vi st li/\rV Vi/\li.length=i'/\Vi.length+nW (ps.drop i')<=V.length+nW ps/\cA (kL xb w) w (kL xb w4) w4/\
    (match aJ3 (ps.drop i') Vi with
    |none=>False
    |some (.bad k)=>r=.bad k
    |some (.ok q)=>r=.ok (li++q.1,q.2)))/\(ps.length-i64.wrap ((i:Int)+1)).toNat<(ps.length-(i:Int)).toNat:=λg hg rS hgV w4 h4 g4=>by
   rw[wrap_i64 (by omega) (by omega)];refine⟨⟨i+1,g.2,li++[g.1],by omega,by omega,h4,hgV,by simp[rW],by omega,g13.trans g4,?_⟩,by omega⟩;rw[hg]at ng;dsimp only at ng;cases hrp:aJ3 (ps.drop (i+1)) g.2 with
   |none=>rw[hrp]at ng;exact ng.elim
   |some rr=>
    rw[hrp]at ng;cases rr with
    |bad k=>exact ng
    |ok q=>dsimp only at ng⊢;rw[ng];simp
  refine⟨_,r3.aj rfl,aB (λhk=>?_) (λhk1=>aB (λhk=>?_) (λhk2=>aB (λhk=>?_) (λqb=>?_)))⟩
  .have hk:ps[i].k=1:=aT hk
   rw[show aJJ Vi ps[i]=none by unfold aJJ;rw[aL (by omega)]]at ng;exact ng.elim
  .have hk:ps[i].k=2:=aT hk
   rw[show aJJ Vi ps[i]=none by unfold aJJ;rw[aL (by omega)]]at ng;exact ng.elim
  .have hk:ps[i].k=3:=aT hk
   rw[show aJJ Vi ps[i]=none by unfold aJJ;rw[aL (by omega)]]at ng;exact ng.elim
  ·by_cases hk0:ps[i].k=0
   .have hp:aJJ Vi ps[i]=some (.ok (⟨if ps[i].q then 1 else 0,ps[i].t⟩,Vi)):=by
     unfold aJJ;rw[aR hk0]
    have agQ:li.length<=1000:=by omega
    refine⟨_,r3.aj rfl,aB (λhq=>?_) (λhq=>?_)⟩
    .refine⟨_,_,_,_,_,_,_,_,r3.aj rfl,r3.aj rfl,r3.aj rfl,r3.aj rfl,r3.aj rfl,r3.aj rfl,_,r3.aj rfl,(as1 h3 agQ _ _ _ _ _ _ _ _ _).mono ?_⟩
     rintro _ w4 ⟨rfl,h4,g4⟩;rw[hq]at h4 hp;exact .inl ⟨rfl,step _ hp (J5 _ _) We w4 h4 g4⟩
    .rw[hq]at hp
     have sD:Still w3 w3.drew:=(Still.refl _).cK;have aIK:=h3.on sD;obtain⟨vp,vc,op,oc,hrow,hv,ho⟩:=aIK.row;refine⟨λwq=>wq.cell? ⟨xb,4,none⟩=some (.slice op li.length oc)/\wq.cell? ⟨w1.heap.size,2,none⟩=some (.string (S ps[i].t)),⟨hrow.aj rfl,(r3.still sD).aj rfl⟩,_,_,_,λwq hq=>hq.1,_,λwq hq=>hq.2,?_⟩;refine aP λw4 r4 s4 z4=>⟨⟨(hrow.still s4).aj rfl,((r3.still sD).still s4).aj rfl⟩,?_⟩;refine(aIK.on s4).push agQ ⟨0,ps[i].t⟩ (λj u hu=>?_) (hrow.still s4) (hv.still s4) (ho.still s4) (P:=λw'=>_/\_) (λw5 h5 g5=>?_) λ_ _ _ h=>h
     .rw[bR,cE]
      exact r4.aj hu
     .exact step _ hp (J5 _ _) We w5 h5 ((h3.gone (sD.trans s4)).trans g5)
   .have hp:aJJ Vi ps[i]=none:=by
     unfold aJJ;rw[aL hk0]
    rw[hp]at ng;exact ng.elim
 .have hx:i=ps.length:=by have:=a_ hx;omega
  subst hx;rw[vP]at ng Wf;have e:r=.ok (li++[],Vi):=ng;rw[e];have hbz:Vi.length<=V.length+nW ps:=by simp only[nW,qZ,aLm]at Wf;simpa[nW]using Wf
  exact⟨rfl,by simpa using h1,We,hbz,g1⟩
end
def as3(p q r:Addr)(w:World):
  CallsD aM Kr #[.pointer (some p),.pointer (some q),.pointer (some r)] .returning w λe u' w'=>e=.returned (.tuple #[])/\u'=.returning/\w'=w:=by
 refine callsD_of_wpS Tryz.func367 rfl λc₀ cs hu=>?_;apply wpS_seq;apply wpS_region;simp[wpOpsS,go_sem,recoverD,hu,Tryz.ntmps367,Exit.thenS];apply wpS_seq;apply wpS_region;simp[wpOpsS,go_sem,Tryz.ntmps367,Exit.thenS];refine wpS_cond (t:=false) (by simp[Act.eval,Array.replicate]) ?_;simp only[kP,iR];refine wpS_of_wp (wp_skip ?_);cases c₀;simp_all [bodyPostS,results,Tryz.results367]
def ap8(p q r:Addr)(n:Int)(w:World)(K:World->Prop)
  (h:∃Sw:World->Prop,Sw w.drew/\∃(jB:Option Addr) (jy jz:Nat),∃(l8:Option Addr) (lV lW:Nat),∃dK:Int,(∀wq:World,Sw wq->wq.cell? p=some (.slice jB jy jz))/\(∀wq:World,Sw wq->wq.cell? (p.add 1)=some (.slice l8 lV lW))/\(∀wq:World,Sw wq->wq.cell? (p.add 2)=some (.int .i64 dK))/\(cS (w.drew.alloc (.cells #[(.slice jB jy jz),(.slice l8 lV lW),(.int .i64 dK),(.slice none 0 0),(.slice none 0 0)] wT)) (λ(w1:World)=>(Sw w1/\cJ q (λ(w2:World)=>cJ r (λ(w3:World)=>K w3) 0 [(.int .i64 n)] w2) 0 [(.pointer (some (Addr.mk w.drew.heap.size 0 none)))] w1)/\(cJ q (λ(w4:World)=>Sw w4/\cJ r (λ(w5:World)=>K w5) 0 [(.int .i64 n)] w4) 0 [(.pointer (some (Addr.mk w.drew.heap.size 0 none)))] w1)))/\(Sw w.drew/\cS (w.drew.alloc (.cells #[(.slice jB jy jz),(.slice l8 lV lW),(.int .i64 dK),(.slice none 0 0),(.slice none 0 0)] wT)) (λ(w6:World)=>cJ q (λ(w7:World)=>cJ r (λ(w8:World)=>K w8) 0 [(.int .i64 n)] w7) 0 [(.pointer (some (Addr.mk w.drew.heap.size 0 none)))] w6))):
  CallsD aM Kr #[.pointer (some p),.pointer (some q),.pointer (some r)] (.panicking [{v:=.iface 28 (.int .i64 n),recovered:=false}]) w λe u' w'=>e=.returned (.tuple #[])/\settle u'=.returning/\K w':=by
 refine callsD_of_wpS Tryz.func367 rfl λc₀ cs hu=>?_;apply wpS_seq;apply wpS_region;simp[wpOpsS,go_sem,recoverD,hu,Tryz.ntmps367,Exit.thenS];apply wpS_seq;apply wpS_region;simp[wpOpsS,go_sem,Tryz.ntmps367,Exit.thenS];refine wpS_cond (t:=true) (by simp[Act.eval,Array.replicate]) ?_;simp only[oV];refine wpS_of_wp ?_;have et:(#[Value.pointer (some p),Value.pointer (some q),Value.pointer (some r)]++((((Array.replicate 9 undef).setIfInBounds 1 (Value.iface 28 (Value.int i64 n))).setIfInBounds 0 (Value.iface 28 (Value.int i64 n))).setIfInBounds 2 (Value.iface 28 (Value.int i64 n))).setIfInBounds 3 (Value.bool true))=
   ⟨[.pointer (some p),.pointer (some q),.pointer (some r),.iface 28 (.int .i64 n),.iface 28 (.int .i64 n),.iface 28 (.int .i64 n),.bool true,undef,undef,undef,undef,undef]⟩:=by rfl
 rw[et];refine F7 (P:=aM) (m:=.held) (ds:=[]) (l:=[.pointer (some p),.pointer (some q),.pointer (some r),.iface 28 (.int .i64 n),.iface 28 (.int .i64 n),.iface 28 (.int .i64 n),.bool true,undef,undef,undef,undef,undef]) (K:=λl' w'=>K w') (E:=λ_ _=>False) (Eq.mp (α:=∃Sw:World->Prop,Sw w.drew/\∃(jB:Option Addr) (jy jz:Nat),∃(l8:Option Addr) (lV lW:Nat),∃dK:Int,(∀wq:World,Sw wq->wq.cell? p=some (.slice jB jy jz))/\(∀wq:World,Sw wq->wq.cell? (p.add 1)=some (.slice l8 lV lW))/\(∀wq:World,Sw wq->wq.cell? (p.add 2)=some (.int .i64 dK))/\(cS (w.drew.alloc (.cells #[(.slice jB jy jz),(.slice l8 lV lW),(.int .i64 dK),(.slice none 0 0),(.slice none 0 0)] wT)) (λ(w1:World)=>(Sw w1/\cJ q (λ(w2:World)=>cJ r (λ(w3:World)=>K w3) 0 [(.int .i64 n)] w2) 0 [(.pointer (some (Addr.mk w.drew.heap.size 0 none)))] w1)/\(cJ q (λ(w4:World)=>Sw w4/\cJ r (λ(w5:World)=>K w5) 0 [(.int .i64 n)] w4) 0 [(.pointer (some (Addr.mk w.drew.heap.size 0 none)))] w1)))/\(Sw w.drew/\cS (w.drew.alloc (.cells #[(.slice jB jy jz),(.slice l8 lV lW),(.int .i64 dK),(.slice none 0 0),(.slice none 0 0)] wT)) (λ(w6:World)=>cJ q (λ(w7:World)=>cJ r (λ(w8:World)=>K w8) 0 [(.int .i64 n)] w7) 0 [(.pointer (some (Addr.mk w.drew.heap.size 0 none)))] w6))) (by kernel_rfl) h) ?_ ?_
 .rintro l' w' _ hk
  cases c₀;simp_all [bodyPostS,results,Tryz.results367,act,settle]
 .intro l' c w' _ h
  exact h.elim
def Q8{a:Addr}{K K':World->Prop}:∀{vs:List Value} {i:Nat} {w:World},cJ a K i vs w->(∀w,K w->K' w)->cJ a K' i vs w
 |[],_,w,h,hk=>hk w h
 |v::r,i,w,h,hk=>by obtain⟨hv,h1,h2⟩:=dR h;exact aB (λ_=>⟨h1,Q8 h2 hk⟩) (λh=>by rw[hv]at h;cases h)
def axM(w:World)(V:List A.Vr)(st:Int)(n:Nat)(r:Pr (List F.Sg×List A.Vr))(e:Ending)(w':World):Prop:=match r with
 |.ok p=>∃xb,e=.returned (.tuple #[.pointer (some ⟨xb,0,none⟩),.int .i64 0])/\iD w w' xb p.2 st p.1/\rV p.2/\p.2.length<=n
 |.bad k=>∃xb,e=.returned (.tuple #[.pointer (some ⟨xb,0,none⟩),.int .i64 (k:Int)])/\iD w w' xb V st []
def SC{V:List A.Vr}{st:Int}(he:Env w){vp:Option Addr}{vc:Nat}(hv:A.dz w vp V.length vc V){ps:List L.Pt}{p:Option Addr}{n c:Nat}{D:Nat->Prop}(hs:L.cv w D ps (.slice p n c))(hV:rV V)(hb:V.length+nW ps<=50000)(hn:ps.length<=900){r:Pr (List F.Sg×List A.Vr)}(hr:aJ3 ps V=some r):
  aH3 KH #[.slice p n c,.agg #[.slice vp V.length vc,.slice none 0 0,.int .i64 st],.slice none 0 0] w (axM w V st (V.length+nW ps) r):=by
 refine anm _ _ _ _ _ _ _ _ _ _ _ _ _ _ _ ?_;refine aP λw1 r1 s1 z1=>aP λw2 r2 s2 z2=>aP λw3 r3 s3 z3=>?_;have q1:=(r1.still s2).still s3;have q2:=r2.still s3;refine⟨_,_,_,_,_,_,_,q1.aj rfl,q1.aj rfl,q1.aj rfl,aP λw4 r4 s4 z4=>?_⟩;refine aH5 (g:=w1.heap.size) (o:=0) (q2.still s4) (by simp[fR]) (by simp[Value.oneCell']) λw5 r5 m5 z5=>?_;have iL:Still w w4:=((s1.trans s2).trans s3).trans s4;have od:Still w w5:=iL.box (by omega) m5;have h5:iD w w5 w3.heap.size V st []:=⟨od,by omega,vp,vc,none,0,r4.mod m5 (by omega),hv.still od,aV.nil _ _ _ _⟩;refine⟨_,r5.aj rfl,(as2 he h5 hs hV hb hn hr).mono ?_⟩;have nF:∀k,k<w3.heap.size->w.heap.size<=k->¬kL w3.heap.size w5 k:=λk h1 h2 hf=>by
  rcases hf with e|⟨v,hv,hk⟩
  .omega
  .have:w5.cell? ⟨w3.heap.size,4,none⟩=some (.slice none 0 0):=(r4.mod m5 (by omega)).aj rfl
   rw[this]at hv;obtain rfl:=bM hv;cases hk
 have p5:Row w5 w.heap.size 109 ⟨[.slice vp V.length vc,.slice none 0 0,.int .i64 st]⟩:=(q1.still s4).mod m5 (by omega);have e5:Row w5 w2.heap.size 28 ⟨[.int .i64 0]⟩:=(r3.still s4).mod m5 (by omega);intro e w6 h6;cases r with
 |bad k=>
  obtain⟨rfl,s6,m6⟩:=h6;have p6:=p5.mod m6 (nF _ (by omega) (by omega));have x6:=r5.mod m6 (nF _ (by omega) (by omega));have e6:=e5.mod m6 (nF _ (by omega) (by omega));refine .inr ⟨_,rfl,?_⟩;have sD:Still w6 w6.drew:=(Still.refl _).cK;have IZ:=m6.size;refine(ap8 ⟨w.heap.size,0,none⟩ ⟨w1.heap.size,0,none⟩ ⟨w2.heap.size,0,none⟩ k w6 (λw9=>Row w9 w1.heap.size 350 ⟨[.pointer (some ⟨w6.heap.size,0,none⟩)]⟩/\Row w9 w2.heap.size 28 ⟨[.int .i64 (k:Int)]⟩/\iD w w9 w6.heap.size V st []) ?_).mono ?_
  .have go:∀{w7:World} {Q:World->Prop},Row w7 w6.heap.size wT ⟨[.slice vp V.length vc,.slice none 0 0,.int .i64 st,.slice none 0 0,.slice none 0 0]⟩->Still w6 w7->(∀w8,Row w8 w.heap.size 109 ⟨[.slice vp V.length vc,.slice none 0 0,.int .i64 st]⟩->Q w8)->cJ ⟨w1.heap.size,0,none⟩ (λw8=>Q w8/\cJ ⟨w2.heap.size,0,none⟩ (λw9=>Row w9 w1.heap.size 350 ⟨[.pointer (some ⟨w6.heap.size,0,none⟩)]⟩/\Row w9 w2.heap.size 28 ⟨[.int .i64 (k:Int)]⟩/\iD w w9 w6.heap.size V st []) 0 [.int .i64 (k:Int)] w8) 0 [.pointer (some ⟨w6.heap.size,0,none⟩)] w7:=by
    intro w7 Q r7 s7 hQ;refine aH5 (g:=w1.heap.size) (o:=0) (x6.still s7) (by simp[fR]) (by simp[Value.oneCell']) λw8 r8 m8 z8=>⟨hQ w8 ((p6.still s7).mod m8 (by omega)),?_⟩;refine aH5 (g:=w2.heap.size) (o:=0) ((e6.still s7).mod m8 (by omega)) (by simp[fR]) (by simp[Value.oneCell']) λw9 r9 m9 z9=>⟨r8.mod m9 (by omega),r9,?_⟩;have s9:Still w w9:=((s6.trans s7).box (by omega) m8).box (by omega) m9;exact⟨s9,by have:=s6.size;omega,vp,vc,none,0,(r7.mod m8 (by omega)).mod m9 (by omega),hv.still s9,aV.nil _ _ _ _⟩
   refine⟨λwq=>Row wq w.heap.size 109 ⟨[.slice vp V.length vc,.slice none 0 0,.int .i64 st]⟩,p6.still sD,_,_,_,_,_,_,_,λwq hq=>hq.aj rfl,λwq hq=>hq.aj rfl,λwq hq=>hq.aj rfl,aP λw7 r7 s7 z7=>⟨⟨(p6.still sD).still s7,?_⟩,?_⟩,p6.still sD,aP λw7 r7 s7 z7=>?_⟩
   .have:=go (Q:=λ_=>True) r7 (sD.trans s7) λ_ _=>trivial
    exact Q8 this λw8 h=>h.2
   .exact go r7 (sD.trans s7) λ_ h=>h
   .have:=go (Q:=λ_=>True) r7 (sD.trans s7) λ_ _=>trivial
    exact Q8 this λw8 h=>h.2
  .rintro _ u w9 ⟨rfl,hu,a1,a2,a3⟩
   exact⟨⟨_,rfl⟩,hu,_,a1.aj rfl,_,a2.aj rfl,_,rfl,a3⟩
 |ok q=>
  obtain⟨rfl,h6,hV6,hl6,g6⟩:=h6;have m6:=g6.mod;have x6:=r5.mod m6 (nF _ (by omega) (by omega));have e6:=e5.mod m6 (nF _ (by omega) (by omega));have f6:∀k,k<w3.heap.size->w.heap.size<=k->¬kL w3.heap.size w6 k:=λk h1 h2=>g6.free (by have:=r4.lt;omega) (nF k h1 h2);obtain⟨vp6,vc6,op,oc,hrow,NK,ho⟩:=h6.row;refine .inl ⟨rfl,_,x6.aj rfl,aH5 (g:=w1.heap.size) (o:=0) x6 (by simp[fR]) (by simp[Value.oneCell']) λw7 r7 m7 z7=>?_⟩;refine aH5 (g:=w2.heap.size) (o:=0) (e6.mod m7 (by omega)) (by simp[fR]) (by simp[Value.oneCell']) λw8 r8 m8 z8=>?_;have NL:Mod (λk=>k=w1.heap.size\/k=w2.heap.size) w6 w8:=Mod.trans m7 m8 (λ_ h=>.inl h) (λ_ _ h=>.inr h);refine(as3 _ _ _ w8).mono ?_;rintro _ u w9 ⟨rfl,rfl,rfl⟩;refine⟨⟨_,rfl⟩,rfl,_,(r7.mod m8 (by omega)).aj rfl,_,r8.aj rfl,_,rfl,⟨Mod.trans h6.still NL (λ_ h=>h) (λi hi e=>by omega),h6.low,vp6,vc6,op,oc,hrow.mod NL (λe=>by omega),?_,ho.mod NL λk hk e=>f6 k (by omega) (by omega) (.inr ⟨_,hrow.aj rfl,hk⟩)⟩,hV6,hl6⟩;rcases pK q.2.length with e|e
  .exact⟨NK.1,NK.2.1,λh=>by omega,λh=>by omega⟩
  .refine NK.mod NL λa ha hk=>?_
   obtain⟨a',cs,h1,h2⟩:=NK.2.2.2 e;rw[ha]at h1;obtain rfl:=bM h1;rcases hk with hk|hk
   .exact h2.ne x6 (by decide) hk
   .exact h2.ne e6 (by decide) hk
end Go.Proofs.YtihaaoehhgmphaaGreatDoor
