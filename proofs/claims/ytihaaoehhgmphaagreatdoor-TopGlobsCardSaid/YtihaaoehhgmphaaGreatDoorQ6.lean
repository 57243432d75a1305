/- Texts of one proof, one behind the other. Conditions: as each theorem names them. -/
import Derived.Test.YtihaaoehhgmphaaGreatDoorQ5
import Derived.Tactics
import Derived.Tactics2
import Derived.Defers
import Derived.Recover
import Derived.Shelf.Spec.SlicesGrow
import Derived.Laws.RangeAny
import Derived.Shelf.Strings.SlTrimAscii
import Derived.Lib.ItoaLen
import Derived.Lib.IndexLaws
import Derived.Laws.Pointers
set_option linter.all false
namespace Go.Proofs.YtihaaoehhgmphaaGreatDoor
open IntKind Go.RowKit Vc
set_option maxRecDepth 100000
variable{w w0:World}
def mO(b:Bool)(x:Int)(hb:b=true):an kg #[.bool b,.int .i64 x] w (λe w'=>e=.returned (.tuple #[])/\w'=w):=by subst hb;apply anx;exact ax (λh=>by cases h) (λ_=>⟨rfl,rfl⟩)
abbrev U0:TypeId:=186
abbrev yF:TypeId:=374
abbrev ga(w:World)(pb a:Nat):Prop:=Row w pb U0 ⟨[.pointer (some ⟨a,0,none⟩),.string (S []),.int .i64 0]⟩
def aKe{a:Nat}{um:Int}(hu:um=0):an vI #[.pointer (some ⟨a,0,none⟩),.string (S []),.int .i64 um] w (λe w'=>e=.returned (.pointer (some ⟨w.heap.size,0,none⟩))/\ga w' w.heap.size a/\Still w w'/\w'.heap.size=w.heap.size+1):=by
 subst hu;apply anT;refine aO λw1 r1 s1 z1=>?_;have:bits .and .i64 0 7=0:=by decide
 rw[this]at r1;exact⟨rfl,r1,s1,z1⟩
section
variable{a g n:Nat}{tr:Option Tb}{T:Tree}
def RF.new(h:cv w w0.heap.size a g tr n T){k:Nat}(hk:w.heap.size<=k):¬RF tr k:=λhr=>by have:=(h.aHO (RF.sf (a:=a) (g:=g) hr)).2;omega
def awS(he:Env w0)(h0:Still w0 w)(h:cv w w0.heap.size a g tr n T){p:ag}(hp:p.length<=1000){Sw:World->Prop}{xJ:Option Addr->World->Prop}{R:List PanicEntry->World->Prop}
  (NU:∀w',Mod (RF tr) w w'->Sw w')(hJ:∀b w',w.heap.size<=b->Row w' b qU ⟨uT (gz T p)⟩->cv w' w0.heap.size a g tr (n+1) T->Mod (RF tr) w w'->xJ (some ⟨b,0,none⟩) w'):
  an qQ #[.pointer (some ⟨a,0,none⟩),.string (S p)] w (λed w1=>(∃cM:Int,∃fA:Int,∃fB:List UInt8,ed=.returned (.agg #[(.int .i64 cM),(.int .i64 fA),(.string (S fB))])/\cP (w1.alloc (.cells #[(.int .i64 0),(.int .i64 0),(.string (S ([]:List UInt8)))] qU)) (λ(w2:World)=>Sw w2/\cA (Addr.mk w1.heap.size 0 none) (λ(w3:World)=>xJ (some (Addr.mk w1.heap.size 0 none)) w3) 0 [(.int .i64 cM),(.int .i64 fA),(.string (S fB))] w2))\/(∃ch,ed=.panicked ch/\R ch w1)):=by
 refine(TA he h0 h hp).mono ?_;rintro _ w1 ⟨rfl,h1,m1⟩;refine .inl ⟨_,_,_,rfl,aO λw2 r2 s2 z2=>?_⟩;have m2:Mod (RF tr) w w2:=Mod.trans m1 s2 (λ_ h=>h) (λ_ _ h=>h.elim);refine⟨NU _ m2,bF (g:=w1.heap.size) (o:=0) r2 λw3 r3 m3 z3=>?_⟩;refine hJ _ _ m1.size r3 ((h1.still s2).mod m3 λk hk e=>?_) (Mod.trans m2 m3 (λ_ h=>h) λi hi e=>?_)
 .have:=(h1.aHO hk).2;omega
 .have:=m1.size;omega
def adZ(he:Env w0)(h0:Still w0 w)(h:cv w w0.heap.size a g tr n T){p:ag}(hp:p.length<=1000){xJ:Option Addr->World->Prop}{R:List PanicEntry->World->Prop}{b:Nat}{cs:List Value}(hb:Row w b qU ⟨cs⟩)(hl:cs.length=3)(hn:∀k,SF a g tr k->k≠b)
  (hJ:∀w',Row w' b qU ⟨uT (gz T p)⟩->cv w' w0.heap.size a g tr (n+1) T->Mod (λk=>RF tr k\/k=b) w w'->xJ (some ⟨b,0,none⟩) w'):
  an qQ #[.pointer (some ⟨a,0,none⟩),.string (S p)] w (λed w1=>(∃cM:Int,∃fA:Int,∃fB:List UInt8,ed=.returned (.agg #[(.int .i64 cM),(.int .i64 fA),(.string (S fB))])/\cA (Addr.mk b 0 none) (λ(w6:World)=>xJ (some (Addr.mk b 0 none)) w6) 0 [(.int .i64 cM),(.int .i64 fA),(.string (S fB))] w1)\/(∃ch,ed=.panicked ch/\R ch w1)):=by
 refine(TA he h0 h hp).mono ?_;rintro _ w1 ⟨rfl,h1,m1⟩;have gy:=hb.mod m1 (λhr=>hn _ (RF.sf hr) rfl);refine .inl ⟨_,_,_,rfl,dL (g:=b) (o:=0) gy (by simp[hl]) (by simp[Value.oneCell']) λw3 r3 m3 z3=>?_⟩;have e:fF cs 0 [Value.int .i64 (gz T p).k,Value.int .i64 (gz T p).m,Value.string (S (gz T p).d)]=uT (gz T p):=by
  obtain⟨x,y,z,rfl⟩:∃x y z,cs=[x,y,z]:=by
   match cs,hl with
   |[x,y,z],_=>exact⟨x,y,z,rfl⟩
  rfl
 rw[e]at r3;exact hJ _ r3 (h1.mod m3 λk hk e=>hn k hk e) (Mod.trans m1 m3 (λ_ h=>.inl h) λi hi e=>.inr e)
def Ask(w w0:World)(a g n:Nat)(tr:Option Tb)(T:Tree)(p:ag)(ex:Option Addr)(w':World):Prop:=∃b,ex=some ⟨b,0,none⟩/\w.heap.size<=b/\Row w' b qU ⟨uT (gz T p)⟩/\cv w' w0.heap.size a g tr (n+1) T/\Mod (RF tr) w w'
def Ask.pre{v:World}(hs:Still v w){p:ag}{ex:Option Addr}{w':World}(h:Ask w w0 a g n tr T p ex w'):Ask v w0 a g n tr T p ex w':=by obtain⟨b,h1,h2,h3,h4,h5⟩:=h;exact⟨b,h1,kf hs.size h2,h3,h4,Mod.trans hs h5 (λ_ h=>h.elim) (λ_ _ h=>h)⟩
def aK8(he:Env w0)(h0:Still w0 w)(h:cv w w0.heap.size a g tr n T){p:ag}(hp:p.length<=1000){v:World}(hv:Still v w){Sw:World->Prop}{R R':List PanicEntry->World->Prop}
  (NU:∀w',Mod (RF tr) w w'->Sw w'):
  (an qQ #[.pointer (some ⟨a,0,none⟩),.string (S p)] w (λed w1=>(∃cM:Int,∃fA:Int,∃fB:List UInt8,ed=.returned (.agg #[(.int .i64 cM),(.int .i64 fA),(.string (S fB))])/\cP (w1.alloc (.cells #[(.int .i64 0),(.int .i64 0),(.string (S ([]:List UInt8)))] qU)) (λ(w2:World)=>Sw w2/\cA (Addr.mk w1.heap.size 0 none) (λ(w3:World)=>Ask v w0 a g n tr T p (some (Addr.mk w1.heap.size 0 none)) w3) 0 [(.int .i64 cM),(.int .i64 fA),(.string (S fB))] w2))\/(∃ch,ed=.panicked ch/\R ch w1)))/\
  (cP (w.alloc (.cells #[(.int .i64 0),(.int .i64 0),(.string (S ([]:List UInt8)))] qU)) (λ(w4:World)=>Sw w4/\an qQ #[.pointer (some ⟨a,0,none⟩),.string (S p)] w4 (λed w1=>(∃cM:Int,∃fA:Int,∃fB:List UInt8,ed=.returned (.agg #[(.int .i64 cM),(.int .i64 fA),(.string (S fB))])/\cA (Addr.mk w.heap.size 0 none) (λ(w6:World)=>Ask v w0 a g n tr T p (some (Addr.mk w.heap.size 0 none)) w6) 0 [(.int .i64 cM),(.int .i64 fA),(.string (S fB))] w1)\/(∃ch,ed=.panicked ch/\R' ch w1)))):=by
 refine⟨awS (xJ:=Ask v w0 a g n tr T p) he h0 h hp NU (λb w' hb hr h1 m1=>Ask.pre hv ⟨b,rfl,hb,hr,h1,m1⟩),aO λw1 r1 s1 z1=>⟨NU _ (s1.weaken λ_ h=>h.elim),?_⟩⟩;refine adZ (xJ:=Ask v w0 a g n tr T p) he (h0.trans s1) (h.still s1) hp r1 rfl (λk hk e=>by have:=(h.aHO hk).2;omega) λw2 r2 h2 m2=>Ask.pre hv ⟨_,rfl,aR _,r2,h2,Mod.trans s1 m2 (λ_ h=>h.elim) λi hi e=>?_⟩;rcases e with e|e
 .exact e
 .omega
def acW:gz T []=⟨2,7,[]⟩:=by simp[gz]
def apE(he:Env w0)(h0:Still w0 w)(h:cv w w0.heap.size a g tr n T){pb wb:Nat}(hp:ga w pb a){r:List Value}(hw:Row w wb yF ⟨.pointer (some ⟨pb,0,none⟩)::.string (S [])::r⟩)(hnp:¬RF tr pb)(CK:¬RF tr wb):
  an Qm #[.pointer (some ⟨wb,0,none⟩)] w (λe w'=>e=.returned (.tuple #[])/\cv w' w0.heap.size a g tr (n+1) T/\Mod (RF tr) w w'):=by
 apply alm;have sD:Still w w.drew:=(Still.refl w).cG;have hD:=h.still sD;have fin:∀wq,Mod (RF tr) w.drew wq->ga wq pb a/\Row wq wb yF ⟨.pointer (some ⟨pb,0,none⟩)::.string (S [])::r⟩:=λwq m=>⟨(hp.still sD).mod m hnp,(hw.still sD).mod m CK⟩;refine⟨Ask w w0 a g n tr T [],?_,?_⟩
 .refine⟨λwq=>ga wq pb a/\Row wq wb yF ⟨.pointer (some ⟨pb,0,none⟩)::.string (S [])::r⟩,fin _ (Mod.refl _ _),_,λwq hq=>hq.2.ai rfl,_,λwq hq=>hq.1.ai rfl,_,λwq hq=>hq.2.ai rfl,?_⟩
  exact aK8 he (h0.trans sD) hD (p:=[]) (dU _) sD fin
 .rintro _ _ w1 ⟨b,rfl,hb,hr,h1,m1⟩
  rw[acW]at hr;refine⟨_,hr.ai rfl,(mO _ _ (by decide)).mono ?_⟩;rintro _ _ ⟨rfl,rfl⟩;refine .inl ⟨rfl,_,hr.ai rfl,(mO _ _ (by decide)).mono ?_⟩;rintro _ _ ⟨rfl,rfl⟩;refine .inl ⟨rfl,_,hr.ai rfl,(mO _ _ (by decide)).mono ?_⟩;rintro _ _ ⟨rfl,rfl⟩;exact .inl ⟨rfl,rfl,h1,m1⟩
structure ny(path nm:ag):Prop where
 V8:DV path=[nm]
 ne:path≠[]
 len:path.length<=200
 U1:nm.length<=32
 qz:Lib.hasSuffix path [47]=false
 az9:nm≠[46,46]
def jr(nm:ag):ag:=if nm=[46]then[]else 47::nm
abbrev Ef(pb:Nat)(at':ag)(p:Option Addr)(l c:Nat)(b:Bool):List Value:=[.pointer (some ⟨pb,0,none⟩),.string (S at'),.slice p l c,.int .i64 0,.bool b,.bool false]
def asR(he:Env w0)(h0:Still w0 w)(h:cv w w0.heap.size a g tr n T){pb wb:Nat}(hp:ga w pb a){p:Option Addr}{c:Nat}{fo:Bool}{nm:ag}(hw:Row w wb yF ⟨Ef pb [] p 1 c fo⟩){B:Nat}(ho:aS w B bJ 1 (.slice p 1 c) 1 (strs [nm]))(hnp:¬RF tr pb)(CK:¬SF a g tr wb)(IL:pb≠wb)(hwb:w0.heap.size<=wb)(hl:nm.length<=32)(hd:nm≠[46,46]):
  an QH #[.pointer (some ⟨wb,0,none⟩)] w (λe w'=>e=.returned (.tuple #[])/\cv w' w0.heap.size a g tr (n+2) T/\(∃p' c',Row w' wb yF ⟨Ef pb (jr nm) p' 0 c' fo⟩)/\Mod (λk=>RF tr k\/k=wb) w w'):=by
 have ho':aS w B bJ 1 (.slice p ([nm]:List ag).length c) ([nm]:List ag).length (strs [nm]):=ho;obtain⟨gs,rfl,hc⟩:=ho'.aIT (j:=0) (by simp);apply alT;refine⟨_,_,_,hw.ai rfl,by decide,by decide,_,hc,_,_,_,hw.ai rfl,by decide,by decide,?_⟩;refine bF (g:=wb) (o:=2) hw λw1 r1 m1 z1=>?_;have h1:=h.mod m1 λk hk e=>CK (by rw[<-e];exact hk);have hp1:=hp.mod m1 IL;have U2:¬RF tr wb:=λhr=>CK (RF.sf hr);have rF:Still w0 w1:=Mod.trans h0 m1 (λ_ h=>h) λi hi e=>by omega
 refine(apE he rF h1 hp1 r1 hnp U2).mono ?_;rintro _ w2 ⟨rfl,h2,m2⟩;obtain⟨p2,c2,r2⟩:∃p2 c2,Row w2 wb yF ⟨Ef pb [] p2 0 c2 fo⟩:=⟨_,_,r1.mod m2 U2⟩;have hp2:=hp1.mod m2 hnp;have aJV:Still w0 w2:=Mod.trans rF m2 (λ_ h=>h) λi hi e=>by have:=(h1.aHO (RF.sf e)).1;omega
 have aJv:Mod (λk=>RF tr k\/k=wb) w w2:=Mod.trans m1 m2 (λ_ h=>.inr h) (λ_ _ h=>.inl h);refine .inl ⟨rfl,(mO _ _ (jc (by show(nm.length:Int)<=32;omega))).mono ?_⟩;rintro _ _ ⟨rfl,rfl⟩;refine .inl ⟨rfl,ax (λhb=>?_) (λhb=>ax (λfO=>absurd (aQ fO) hd) (λ_=>?_))⟩
 .have e:nm=[46]:=aQ hb
  exact⟨rfl,h2.up (aKn _),⟨p2,c2,by rw[jr,aN e];exact r2⟩,aJv⟩
 .have e:nm≠[46]:=aZ hb
  have e2:jr nm=47::nm:=aH e;have hle:([]++[47]++nm:ag).length<=1000:=by simp;omega
  refine⟨_,r2.ai rfl,by simp,by simp;omega,_,r2.ai rfl,_,hp2.ai rfl,(TA he aJV h2 (p:=[]++[47]++nm) hle).mono ?_⟩;rintro _ w3 ⟨rfl,h3,m3⟩;have ek:(gz T ([]++[47]++nm)).k≠3:=by rcases(T9 h3.cB.1 ([]++[47]++nm)).k with h|h|h<;>omega
  have r3:=r2.mod m3 U2;refine .inl ⟨_,_,_,rfl,aO λw4 r4 s4 z4=>bF (g:=w3.heap.size) (o:=0) r4 λw5 r5 m5 z5=>?_⟩;have IK:Still w3 w5:=s4.box (aR _) m5;have r35:=r3.still IK;have h5:=h3.still IK;refine⟨_,_,_,r35.ai rfl,λb wq=>b=false/\wq=w5,⟨_,r5.ai rfl,ax (λhb=>absurd (aQ hb) ek) (λ_=>⟨rfl,rfl⟩)⟩,?_⟩;rintro _ _ w6 ⟨rfl,rfl⟩;refine ax (λhb=>by cases hb) (λ_=>ax (λ_=>?_) (λhb=>absurd rfl (aZ hb)));refine(mO _ _ rfl).mono ?_;rintro _ _ ⟨rfl,rfl⟩;refine .inl ⟨rfl,bF (g:=wb) (o:=1) r35 λw7 r7 m7 z7=>?_⟩;refine⟨rfl,h5.mod m7 λk hk e=>CK (by rw[<-e];exact hk),⟨p2,c2,?_⟩,Mod.trans (Mod.trans (Mod.trans aJv m3 (λ_ h=>h) (λ_ _ h=>.inl h)) IK (λ_ h=>h) (λ_ _ h=>h.elim)) m7 (λ_ h=>h) (λ_ _ h=>.inr h)⟩;rw[e2];exact r7
def find_spec(bP:aHx w0)(h0:Still w0 w)(h:cv w w0.heap.size a g tr n T){pb:Nat}(hp:ga w pb a)(hnp:¬RF tr pb){path nm:ag}(o:ny path nm)(fo:Bool):
  an FP #[.pointer (some ⟨pb,0,none⟩),.string (S path),.bool fo] w (λe w'=>e=.returned (.tuple #[.string (S (jr nm)),qs (gz T (jr nm))])/\cv w' w0.heap.size a g tr (n+3) T/\Mod (RF tr) w w'):=by
 have he:=bP.env;apply alR;refine aO λw1 r1 s1 z1=>(mO _ _ (by simp[o.ne])).mono ?_;rintro _ _ ⟨rfl,rfl⟩;refine .inl ⟨rfl,(mO _ _ (jc (by have:=o.len;omega))).mono ?_⟩;rintro _ w1 ⟨rfl,rfl⟩;have hn0:∀k,w.heap.size<=k->¬SF a g tr k:=λk hk hr=>by have:=(h.aHO hr).2;omega
 have hwr:∀k,w.heap.size<=k->¬RF tr k:=λk hk hr=>hn0 k hk (RF.sf hr);have hpb:=hp.lt;have rF:=h0.trans s1;have hz0:=h0.size;have hp1:=hp.still s1;have h1:=h.still s1;have sD:Still w1 w1.drew:=(Still.refl _).cG;refine .inl ⟨rfl,λwq=>ga wq pb a,hp1.still sD,_,λwq hq=>hq.ai rfl,(aoT (bP.still (rF.trans sD)) (by have:=o.len;omega)).mono ?_⟩;rintro _ w2 ⟨p,c,rfl,ho,s2⟩;have dD:=sD.trans s2;rw[o.V8]at ho;refine .inl ⟨_,_,_,rfl,hp1.still dD,(Tryz.strings_HasSuffix (S path) (S [47]) w2 (by show path.length<=_;have:=o.len;omega)).mono ?_⟩;rintro _ w2 ⟨rfl,rfl⟩;refine .inl ⟨_,rfl,hp1.still dD,?_⟩;rw[show Lib.hasSuffix (S path).data.toList (S [47]).data.toList=false from o.qz,o.V8];refine aO λw3 r3 s3 z3=>?_;have jh:=dD.trans s3;have az_:=dD.size;refine⟨λwq=>Row wq w2.heap.size yF ⟨Ef pb [] p 1 c fo⟩/\Still w1 wq/\aS wq w1.drew.heap.size bJ 1 (.slice p 1 c) 1 (strs [nm]),⟨by decide,?_⟩,?_⟩
 .cases ay6:path with
  |nil=>exact absurd ay6 o.ne
  |cons x r=>refine⟨x,rfl,ax (λ_=>?_) (λ_=>⟨r3,jh,ho.still s3⟩)⟩;refine bF (g:=w2.heap.size) (o:=1) r3 λw4 r4 m4 z4=>⟨r4,jh.box az_ m4,(ho.still s3).mod m4 λk hk e=>?_⟩;have:=(ho.lt k hk).2;omega
 rintro _ w4 ⟨r4,s4,o4⟩;have IL:pb≠w2.heap.size:=by omega
 refine⟨λwq=>∃at' p' l c',(l=1/\at'=[]/\wq=w4/\p'=p/\c'=c\/l=0/\at'=jr nm)/\Row wq w2.heap.size yF ⟨Ef pb at' p' l c' fo⟩/\cv wq w0.heap.size a g tr (n+2) T/\Mod (RF tr) w1 wq,λwq=>match wq.cell? ⟨w2.heap.size,2,none⟩with
  |some (.slice _ l _)=>l
  |_=>0,⟨[],p,1,c,.inl ⟨rfl,rfl,rfl,rfl,rfl⟩,r4,(h1.still s4).up (by omega),s4.weaken λ_ h=>h.elim⟩,?_⟩
 rintro _ w5 ⟨at',p',l,c',hl,r5,h5,m5⟩;refine⟨_,_,_,r5.ai rfl,ax (λhb=>?_) (λhb=>?_)⟩
 .rcases hl with⟨rfl,rfl,rfl,rfl,rfl⟩|⟨rfl,_⟩
  .refine(asR he (rF.trans s4) (h1.still s4) (hp1.still s4) r5 o4 hnp (hn0 _ (by omega)) IL (by omega) o.U1 o.az9).mono ?_
   rintro _ w6 ⟨rfl,h6,⟨p6,c6,r6⟩,m6⟩;refine .inl ⟨rfl,⟨_,p6,0,c6,.inr ⟨rfl,rfl⟩,r6,h6,Mod.trans s4 m6 (λ_ h=>h.elim) λi hi e=>?_⟩,?_⟩
   .rcases e with e|e
    .exact e
    .omega
   .have e1:w6.cell? ⟨w2.heap.size,2,none⟩=some (.slice p6 0 c6):=r6.ai rfl
    have e2:w5.cell? ⟨w2.heap.size,2,none⟩=some (.slice p' 1 c'):=r5.ai rfl;dsimp only;rw[e1,e2];exact Nat.zero_lt_one
  .exact absurd (aQ hb) (by decide)
 .rcases hl with⟨rfl,_⟩|⟨rfl,rfl⟩
  .exact absurd (aZ hb) (by decide)
  have IM:Still w0 w5:=Mod.trans rF m5 (λ_ h=>h) λi hi e=>by have:=(h.aHO (RF.sf e)).1;omega
  have CL:Still w5 w5.drew:=(Still.refl _).cG;have vh:=hp1.mod m5 hnp;have agw:=hwr w2.heap.size (by omega);have ay7:(jr nm).length<=1000:=by
   unfold jr;split
   .simp
   .have:=o.U1;simp;omega
  refine⟨Ask w5 w0 a g (n+2) tr T (jr nm),⟨λwq=>ga wq pb a/\Row wq w2.heap.size yF ⟨Ef pb (jr nm) p' 0 c' fo⟩,⟨vh.still CL,r5.still CL⟩,_,λwq hq=>hq.1.ai rfl,_,λwq hq=>hq.2.ai rfl,aK8 he (IM.trans CL) (h5.still CL) ay7 CL λw' m=>⟨(vh.still CL).mod m hnp,(r5.still CL).mod m agw⟩⟩,?_⟩;rintro _ _ w6 ⟨b,rfl,hb,r6,h6,m6⟩;have rw6:=r5.mod m6 agw;refine⟨λwq=>wq=w6,⟨_,rw6.ai rfl,ax (λ_=>(mO _ _ rfl).mono (by rintro _ _ ⟨rfl,rfl⟩;exact .inl ⟨rfl,rfl⟩)) (λhb=>by cases hb)⟩,?_⟩;rintro _ w7 rfl;have CM:Still w7 w7.drew:=(Still.refl _).cG;have m17:Mod (RF tr) w1 w7:=Mod.trans m5 m6 (λ_ h=>h) (λ_ _ h=>h);have rr:=(r1.mod m17 (hwr _ (aR _))).still CM;refine⟨λwq=>wq=w7.drew,rfl,_,λwq hq=>by rw[hq];exact(rw6.still CM).ai rfl,_,_,_,λwq hq=>by rw[hq];exact(r6.still CM).ai rfl,λwq hq=>by rw[hq];exact(r6.still CM).ai rfl,λwq hq=>by rw[hq];exact(r6.still CM).ai rfl,?_⟩;refine bF (g:=w.heap.size) (o:=0) rr λw8 r8 m8 z8=>?_;refine⟨_,_,_,r8.ai rfl,r8.ai rfl,r8.ai rfl,rfl,(h6.still CM).mod m8 λk hk e=>hn0 _ (Q9 e.symm) hk,?_⟩;exact Mod.trans (Mod.trans (Mod.trans s1 m17 (λ_ h=>h.elim) (λ_ _ h=>h)) CM (λ_ h=>h) (λ_ _ h=>h.elim)) m8 (λ_ h=>h) (λi hi e=>by omega)
end
def asS(p:Addr)(w:World):
  CallsD aL qT #[.pointer (some p)] .returning w λe u' w'=>e=.returned (.tuple #[])/\u'=.returning/\w'=w:=by
 refine callsD_of_wpS Tryz.func247 rfl λc₀ cs hu=>?_;apply wpS_seq;apply wpS_region;simp[wpOpsS,go_sem,recoverD,hu,Tryz.ntmps247,Exit.thenS];apply wpS_seq;apply wpS_region;simp[wpOpsS,go_sem,Tryz.ntmps247,Exit.thenS];refine wpS_cond (t:=false) (by simp[Act.eval,Array.replicate]) ?_;simp only[l9,jq];refine wpS_of_wp (wp_skip ?_);cases c₀;simp_all [bodyPostS,results,Tryz.results247]
def LP{p:Addr}{w:World}{K:World->Prop}(h:K w):CallsD aL qT #[.pointer (some p)] .returning w λe ux w'=>(∃rv,e=.returned rv)/\settle ux=.returning/\K w':=by refine(asS p w).mono ?_;rintro _ _ _ ⟨rfl,rfl,rfl⟩;exact⟨⟨_,rfl⟩,rfl,h⟩
def aaR{place:ag}(hl:place.length<=1000)(h0:Lib.lastIndexByte (S place) 47=0):an KD #[.string (S place)] w (λe w'=>e=.returned (.string (S []))/\w'=w):=by apply anc;refine(Tryz.strings_LastIndexByte (S place) 47 (by show place.length<_;omega) w).mono ?_;rintro _ w1 ⟨rfl,rfl⟩;rw[h0];refine .inl ⟨_,rfl,by decide,by simp,?_⟩;simp[zR]
section
variable{a g n:Nat}{tr:Option Tb}{T:Tree}
def asT(he:Env w0)(h0:Still w0 w)(h:cv w w0.heap.size a g tr n T){pb:Nat}(hp:ga w pb a)(hnp:¬RF tr pb){place:ag}(hl:place.length<=1000)(hne:place≠[])(hi:Lib.lastIndexByte (S place) 47=0):
  an QG #[.pointer (some ⟨pb,0,none⟩),.string (S place)] w (λe w'=>e=.returned (.tuple #[])/\cv w' w0.heap.size a g tr (n+1) T/\Mod (RF tr) w w'):=by
 apply alS;have sD:Still w w.drew:=(Still.refl w).cG;have hD:=h.still sD;have IN:=hp.still sD;refine⟨Ask w w0 a g n tr T [],?_,?_⟩
 .refine⟨λwq=>ga wq pb a,IN,_,λwq hq=>hq.ai rfl,?_,?_⟩
  .refine(aaR hl hi).mono ?_
   rintro _ _ ⟨rfl,rfl⟩;refine .inl ⟨_,rfl,IN,?_⟩;exact aK8 he (h0.trans sD) hD (p:=[]) (dU _) sD λw' m=>IN.mod m hnp
  .refine aO λw1 r1 s1 z1=>⟨IN.still s1,(aaR hl hi).mono ?_⟩
   rintro _ w2 ⟨rfl,rfl⟩;refine .inl ⟨_,rfl,IN.still s1,?_⟩;refine adZ (xJ:=Ask w w0 a g n tr T []) he ((h0.trans sD).trans s1) (hD.still s1) (p:=[]) (dU _) r1 rfl (λk hk e=>by have:=(hD.aHO hk).2;omega) λw2 r2 h2 m2=>⟨_,rfl,aR _,r2,h2,Mod.trans (sD.trans s1) m2 (λ_ h=>h.elim) λi hi e=>?_⟩;rcases e with e|e
   .exact e
   .have:w.drew.heap.size=w.heap.size:=rfl
    omega
 .rintro _ _ w1 ⟨b,rfl,hb,hr,h1,m1⟩
  rw[acW]at hr;refine(mO _ _ (by simp[hne])).mono ?_;rintro _ _ ⟨rfl,rfl⟩;refine .inl ⟨rfl,_,hr.ai rfl,(mO _ _ (by decide)).mono ?_⟩;rintro _ _ ⟨rfl,rfl⟩;refine .inl ⟨rfl,_,hr.ai rfl,(mO _ _ (by decide)).mono ?_⟩;rintro _ _ ⟨rfl,rfl⟩;exact .inl ⟨rfl,rfl,h1,m1⟩
def aaS(bP:aHx w0)(h0:Still w0 w)(h:cv w w0.heap.size a g tr n T){pb:Nat}(hp:ga w pb a)(hnp:¬RF tr pb){path nm:ag}(o:ny path nm)(fo:Bool)(hk:(gz T (jr nm)).k≠0):
  an J3 #[.pointer (some ⟨pb,0,none⟩),.string (S path),.bool fo] w (λe w'=>e=.returned (.tuple #[.string (S (jr nm)),qs (gz T (jr nm))])/\cv w' w0.heap.size a g tr (n+3) T/\Mod (RF tr) w w'):=by
 apply alD;refine aO λw1 r1 s1 z1=>(find_spec bP (h0.trans s1) (h.still s1) (hp.still s1) hnp o fo).mono ?_;rintro _ w2 ⟨rfl,h2,m2⟩;have hwr:∀k,w.heap.size<=k->¬RF tr k:=λk hk hr=>RF.new h hk hr;refine .inl ⟨_,_,_,_,rfl,aO λw3 r3 s3 z3=>bF (g:=w2.heap.size) (o:=0) r3 λw4 r4 m4 z4=>?_⟩;have aHU:Still w2 w4:=s3.box (aR _) m4;refine⟨_,r4.ai rfl,(mO _ _ (by simp[hk])).mono ?_⟩;rintro _ w5 ⟨rfl,rfl⟩;have sD:Still w5 w5.drew:=(Still.refl _).cG;refine .inl ⟨rfl,λwq=>wq=w5.drew,rfl,_,_,_,λwq hq=>by rw[hq];exact(r4.still sD).ai rfl,λwq hq=>by rw[hq];exact(r4.still sD).ai rfl,λwq hq=>by rw[hq];exact(r4.still sD).ai rfl,?_⟩;have m15:Mod (RF tr) w1 w5.drew:=Mod.trans m2 (aHU.trans sD) (λ_ h=>h) (λ_ _ h=>h.elim);have ER:=r1.mod m15 (hwr _ (aR _));refine bF (g:=w.heap.size) (o:=0) ER λw6 r6 m6 z6=>?_;refine⟨_,_,_,r6.ai rfl,r6.ai rfl,r6.ai rfl,rfl,(h2.still (aHU.trans sD)).mod m6 λk hk e=>?_,?_⟩
 .have:=(h.aHO hk).2;omega
 .exact Mod.trans (Mod.trans s1 m15 (λ_ h=>h.elim) (λ_ _ h=>h)) m6 (λ_ h=>h) (λi hi e=>by omega)
def abX(bP:aHx w0)(h0:Still w0 w)(h:cv w w0.heap.size a g tr n T){pb:Nat}(hp:ga w pb a)(hnp:¬RF tr pb){path nm:ag}(o:ny path nm)(fo:Bool):
  an J_ #[.pointer (some ⟨pb,0,none⟩),.string (S path),.bool fo] w (λe w'=>e=.returned (.tuple #[.string (S (jr nm)),qs (gz T (jr nm)),.int .i64 0])/\cv w' w0.heap.size a g tr (n+3) T/\Mod (RF tr) w w'):=by
 apply alW;refine aO λw1 r1 s1 z1=>aO λw2 r2 s2 z2=>(find_spec bP (h0.trans (s1.trans s2)) (h.still (s1.trans s2)) (hp.still (s1.trans s2)) hnp o fo).mono ?_;rintro _ w3 ⟨rfl,h3,m3⟩;have hwr:∀k,w.heap.size<=k->¬RF tr k:=λk hk hr=>RF.new h hk hr;have hz:=s1.size;have q1:=(r1.still s2).mod m3 (hwr _ (aR _));have q2:=r2.mod m3 (hwr _ (by omega));refine .inl ⟨_,_,_,_,rfl,bF (g:=w.heap.size) (o:=0) q1 λw4 r4 m4 z4=>?_⟩;have sD:Still w4 w4.drew:=(Still.refl _).cG;refine⟨λwq=>wq=w4.drew,rfl,_,_,_,λwq hq=>by rw[hq];exact(r4.still sD).ai rfl,λwq hq=>by rw[hq];exact(r4.still sD).ai rfl,λwq hq=>by rw[hq];exact(r4.still sD).ai rfl,?_⟩;refine dL (g:=w.heap.size) (o:=0) (r4.still sD) (by simp[fF]) (by simp[Value.oneCell']) λw5 r5 m5 z5=>?_;have q5:=((q2.mod m4 (by omega)).still sD).mod m5 (by omega);refine bF (g:=w1.heap.size) (o:=0) q5 λw6 r6 m6 z6=>LP ?_;have q6:=r5.mod m6 (by omega);have fn:∀k,SF a g tr k->k<w.heap.size:=λk hk=>(h.aHO hk).2;refine⟨_,_,_,q6.ai rfl,q6.ai rfl,q6.ai rfl,_,r6.ai rfl,rfl,((((h3.mod m4 λk hk e=>by have:=fn k hk;omega).still sD).mod m5 λk hk e=>by have:=fn k hk;omega).mod m6 λk hk e=>by have:=fn k hk;omega),?_⟩;refine Mod.trans (Mod.trans (Mod.trans (Mod.trans (Mod.trans (s1.trans s2) m3 (λ_ h=>h.elim) (λ_ _ h=>h)) m4 (λ_ h=>h) (λi hi e=>by omega)) sD (λ_ h=>h) (λ_ _ h=>h.elim)) m5 (λ_ h=>h) (λi hi e=>by omega)) m6 (λ_ h=>h) (λi hi e=>by omega)
def abY(bP:aHx w0)(h0:Still w0 w)(h:cv w w0.heap.size a g tr n T){pb:Nat}(hp:ga w pb a)(hnp:¬RF tr pb){path nm d:ag}(o:ny path nm)(hf:gz T (jr nm)=⟨1,6,d⟩):
  an J9 #[.pointer (some ⟨pb,0,none⟩),.string (S path)] w (λe w'=>e=.returned (.tuple #[.string (S d),.int .i64 0])/\cv w' w0.heap.size a g tr (n+3) T/\Mod (RF tr) w w'):=by
 apply alQ;refine aO λw1 r1 s1 z1=>(aaS bP (h0.trans s1) (h.still s1) (hp.still s1) hnp o true (by rw[hf];exact QF)).mono ?_;rintro _ w2 ⟨rfl,h2,m2⟩;rw[hf];have hwr:∀k,w.heap.size<=k->¬RF tr k:=λk hk hr=>RF.new h hk hr;refine .inl ⟨_,_,_,_,rfl,aO λw3 r3 s3 z3=>bF (g:=w2.heap.size) (o:=0) r3 λw4 r4 m4 z4=>?_⟩;have aHU:Still w2 w4:=s3.box (aR _) m4;refine⟨_,r4.ai rfl,(mO _ _ (by show(!decide ((1:Int)=2))=true;decide)).mono ?_⟩;rintro _ _ ⟨rfl,rfl⟩;refine .inl ⟨rfl,_,r4.ai rfl,(mO _ _ (by show(!decide (bits .and .i64 6 4=0))=true;decide)).mono ?_⟩;rintro _ w5 ⟨rfl,rfl⟩;have m15:Mod (RF tr) w1 w5:=Mod.trans m2 aHU (λ_ h=>h) (λ_ _ h=>h.elim);refine .inl ⟨rfl,_,r4.ai rfl,bF (g:=w.heap.size) (o:=0) (r1.mod m15 (hwr _ (aR _))) λw6 r6 m6 z6=>LP ?_⟩;refine⟨_,r6.ai rfl,rfl,(h2.still aHU).mod m6 λk hk e=>?_,Mod.trans (Mod.trans s1 m15 (λ_ h=>h.elim) (λ_ _ h=>h)) m6 (λ_ h=>h) (λi hi e=>by omega)⟩;have:=(h.aHO hk).2;omega
def gu(T:Tree):Prop:=(∀x∈T,x.2.k=1/\x.2.m=6)/\T.length<=50
def Gv:∀{T:Tree},gu T->∀p,fU T p=B7\/fU T p=⟨1,6,(fU T p).d⟩
 |[],_,_=>.inl rfl
 |(q,e)::r,h,p=>by
  unfold fU;split
  .have:=h.1 (q,e) (by simp)
   obtain⟨k,m,d⟩:=e;obtain⟨rfl,rfl⟩:=this;exact .inr rfl
  .exact Gv ⟨λx hx=>h.1 x (by simp[hx]),by have:=h.2;simp only[a_]at this;omega⟩ p
def gu.put{T:Tree}(h:gu T)(p d:ag)(hl:T.length<50):gu (aH3 T p ⟨1,6,d⟩):=⟨λx hx=>by
 rcases BI hx with rfl|hx
 .exact⟨rfl,rfl⟩
 .exact h.1 x hx,by have:=BJ T p ⟨1,6,d⟩;omega⟩
def gu.nil:gu []:=⟨λx hx=>(by cases hx),by decide⟩
def avj{nm:ag}(hi:Lib.lastIndexByte (S (47::nm)) 47=0):(47:UInt8)∉nm:=by
 intro hm;obtain⟨k,hk⟩:=List.getElem?_of_mem hm;have hkl:k<nm.length:=(iw.1 hk).1;rcases Lib.lastIndexByte_spec (S (47::nm)) 47 with⟨e,_⟩|⟨i,_,e,_,h⟩
 .rw[hi]at e
  exact absurd e (by decide)
 .rw[hi]at e
  refine h (k+1) (by omega) (by show k+1<(47::nm).toArray.size;simp;omega) ?_;show(((47::nm).toArray[k+1]!).toNat:Int)=47
  rw[getElem!_pos _ _ (by simp;omega)];have e2:nm[k]=47:=(iw.1 hk).2;simp[e2]
def ij(T:Tree)(nm data:ag)(more:Bool):Tree:=aH3 T (47::nm) ⟨1,6,if more then(fU T (47::nm)).d++data else data⟩
def aaT(bP:aHx w0)(h0:Still w0 w)(h:cv w w0.heap.size a g tr n T){pb:Nat}(hp:ga w pb a)(hnp:¬RF tr pb){path nm:ag}(o:ny path nm)(hnm:nm≠[46])(hi:Lib.lastIndexByte (S (47::nm)) 47=0)(hT:gu T)(data:ag)(more:Bool)
  (hd:((if more then(fU T (47::nm)).d++data else data):ag).length<=50000):
  an J2 #[.pointer (some ⟨pb,0,none⟩),.string (S path),.string (S data),.bool more] w (λe w'=>e=.returned (.int .i64 0)/\cv w' w0.heap.size a g tr (n+5) (ij T nm data more)/\Mod (WF g tr) w w'):=by
 have ep:jr nm=47::nm:=aH hnm;have et:gz T (47::nm)=fU T (47::nm):=aH (by simp);have hlen:(47::nm).length<=1000:=by have:=o.U1;simp;omega
 have hwr:∀k,w.heap.size<=k->¬RF tr k:=λk hk hr=>RF.new h hk hr;have rG:∀k,SF a g tr k->k<w.heap.size:=λk hk=>(h.aHO hk).2;have hgd:(fU T (47::nm)).d.length<=50000:=by rw[<-et];exact Tz h.cB _
 apply aly;refine aO λw1 r1 s1 z1=>(find_spec bP (h0.trans s1) (h.still s1) (hp.still s1) hnp o true).mono ?_;rw[ep,et];rintro _ w2 ⟨rfl,h2,m2⟩;refine .inl ⟨_,_,_,_,rfl,aO λw3 r3 s3 z3=>bF (g:=w2.heap.size) (o:=0) r3 λw4 r4 m4 z4=>?_⟩;have aHU:Still w2 w4:=s3.box (aR _) m4;have gU:=m2.size;have hk2:(fU T (47::nm)).k≠2:=by rcases Gv hT (47::nm)with e|e<;>rw[e]<;>show(_:Int)≠2<;>simp[B7]
 refine⟨_,r4.ai rfl,(mO _ _ (by simp[hk2])).mono ?_⟩;rintro _ w5 ⟨rfl,rfl⟩;have h5:=h2.still aHU;have m15:Mod (RF tr) w1 w5:=Mod.trans m2 aHU (λ_ h=>h) (λ_ _ h=>h.elim);have CN:Mod (RF tr) w w5:=Mod.trans s1 m15 (λ_ h=>h.elim) (λ_ _ h=>h);have IM:Still w0 w5:=Mod.trans h0 CN (λ_ h=>h) λi hi e=>by have:=(h.aHO (RF.sf e)).1;omega
 have vh:=hp.mod CN hnp;have fO:¬RF tr w2.heap.size:=hwr _ (by omega);have hs2:∀k,SF a g tr k->k≠w2.heap.size:=λk hk e=>by have:=rG k hk;omega
 refine .inl ⟨rfl,λwq=>Row wq w2.heap.size qU ⟨uT ⟨1,6,(fU T (47::nm)).d⟩⟩/\cv wq w0.heap.size a g tr (n+4) T/\Mod (λk=>RF tr k\/k=w2.heap.size) w5 wq,⟨_,r4.ai rfl,ax (λhk=>?_) (λhk=>?_)⟩,?_⟩
 .have hk:(fU T (47::nm)).k=0:=aQ hk
  have e:fU T (47::nm)=B7:=by
   rcases Gv hT (47::nm)with e|e
   .exact e
   .rw[e]at hk;exact absurd hk QF
  refine(Tryz.strings_HasSuffix (S path) (S [47]) w5 (by show path.length<=_;have:=o.len;omega)).mono ?_;rintro _ w5 ⟨rfl,rfl⟩;refine .inl ⟨_,rfl,(mO _ _ (by rw[show Lib.hasSuffix (S path).data.toList (S [47]).data.toList=false from o.qz];rfl)).mono ?_⟩;rintro _ w5 ⟨rfl,rfl⟩;refine .inl ⟨rfl,(asT bP.env IM h5 vh hnp hlen (by simp) hi).mono ?_⟩;rintro _ w6 ⟨rfl,h6,m6⟩;refine .inl ⟨rfl,_,(vh.mod m6 hnp).ai rfl,dL (g:=w2.heap.size) (o:=0) (r4.mod m6 fO) (by simp[fF]) (by simp[Value.oneCell']) λw7 r7 m7 z7=>?_⟩;have e6:bits .andNot .i64 6 0=6:=by decide
  rw[e6]at r7;rw[e];exact⟨r7,h6.mod m7 λk hk e=>hs2 k hk e,Mod.trans m6 m7 (λ_ h=>.inl h) (λ_ _ h=>.inr h)⟩
 .have hk:(fU T (47::nm)).k≠0:=aZ hk
  have e:fU T (47::nm)=⟨1,6,(fU T (47::nm)).d⟩:=by
   rcases Gv hT (47::nm)with e|e
   .rw[e]at hk;exact absurd rfl hk
   .exact e
  rw[e]at r4;refine⟨_,r4.ai rfl,(mO _ _ (by show(!decide (bits .and .i64 6 2=0))=true;decide)).mono ?_⟩;rintro _ w6 ⟨rfl,rfl⟩;exact .inl ⟨rfl,r4,h5.up (by omega),(Mod.refl _ _)⟩
 rintro _ w6 ⟨r6,h6,m6⟩;refine⟨λx wq=>x=(if more then(fU T (47::nm)).d++data else data)/\wq=w6,?_,?_⟩
 .cases more with
  |true=>exact⟨_,r6.ai rfl,by simp only[pq]at hd;simp at hd⊢;omega,rfl,rfl⟩
  |false=>exact⟨rfl,rfl⟩
 rintro _ _ w7 ⟨rfl,rfl⟩;refine(mO _ _ (jc (by omega))).mono ?_;rintro _ w7 ⟨rfl,rfl⟩;refine .inl ⟨rfl,dL (g:=w2.heap.size) (o:=2) r6 (by simp[uT]) (by simp[Value.oneCell']) λw8 r8 m8 z8=>?_⟩;have sD:Still w8 w8.drew:=(Still.refl _).cG;have h8:=(h6.mod m8 λk hk e=>hs2 k hk e).still sD;have Wc:Mod (λk=>RF tr k\/k=w2.heap.size) w5 w8.drew:=Mod.trans (Mod.trans m6 m8 (λ_ h=>h) (λ_ _ h=>.inr h)) sD (λ_ h=>h) (λ_ _ h=>h.elim);have aAa:pb≠w2.heap.size:=by have:=hp.lt;omega
 have Wd:ga w8.drew pb a:=vh.mod Wc λh=>h.elim hnp aAa;have m08:Mod (RF tr) w w8.drew:=Mod.trans CN Wc (λ_ h=>h) λi hi e=>by
  rcases e with e|e
  .exact e
  .omega
 have h08:Still w0 w8.drew:=Mod.trans h0 m08 (λ_ h=>h) λi hi e=>by have:=(h.aHO (RF.sf e)).1;omega
 refine⟨λwq=>wq=w8.drew,rfl,_,λwq hq=>by rw[hq];exact Wd.ai rfl,_,_,_,λwq hq=>by rw[hq];exact(r8.still sD).ai rfl,λwq hq=>by rw[hq];exact(r8.still sD).ai rfl,λwq hq=>by rw[hq];exact(r8.still sD).ai rfl,?_⟩;refine(avc bP.env h08 h8 hlen (by simp) (x:=⟨1,6,if more then(fU T (47::nm)).d++data else data⟩) ⟨.inr (.inl rfl),⟨by show(0:Int)<=6;decide,by show(6:Int)<=7;decide⟩,by dsimp only;omega⟩ QF hd ⟨nm,rfl,avj hi⟩ hT.2).mono ?_;rintro _ w9 ⟨rfl,h9,m9⟩;have m19:Mod (WF g tr) w1 w9:=Mod.trans (Mod.trans m15 Wc (λk h=>(by
  obtain⟨t,ht,e⟩:=h;exact .inr ⟨t,ht,.inl e⟩:WF g tr k)) (λi hi e=>by
  rcases e with⟨t,ht,e⟩|e
  .exact .inr ⟨t,ht,.inl e⟩
  .omega)) m9 (λ_ h=>h) (λ_ _ h=>h)
 have hwf:¬WF g tr w.heap.size:=λhk=>by have:=rG _ (WF.sf (a:=a) hk);omega
 refine .inl ⟨rfl,bF (g:=w.heap.size) (o:=0) (r1.mod m19 hwf) λaP aHJ m10 aIt=>LP ?_⟩;refine⟨_,aHJ.ai rfl,rfl,h9.mod m10 λk hk e=>?_,Mod.trans (Mod.trans s1 m19 (λ_ h=>h.elim) (λ_ _ h=>h)) m10 (λ_ h=>h) (λi hi e=>by omega)⟩;have hk':=rG k (by
  rcases hk with h|h|⟨t,ht,h⟩
  .exact .inl h
  .exact .inr (.inl h)
  .exact .inr (.inr ⟨t,ht,h⟩))
 omega
end
end Go.Proofs.YtihaaoehhgmphaaGreatDoor
namespace Go.Proofs.YtihaaoehhgmphaaGreatDoor.A
open IntKind Go.RowKit Vc Go.Shelf
variable{w:World}
def ey{a b:UInt8}:(a.toNat:Int)=(b.toNat:Int)↔a=b:=⟨λh=>J6.1 (by omega),λh=>by rw[h]⟩
def getD_some{α:Type}{p:List α}{i:Nat}(h:i<p.length):p[i]?=some p[i]:=iy h
def Gl{g:FuncId}{first cap:List Value}{K:FuncId->List Value->List Value->Prop}(h:K g first cap):gj (.func (.func g) ⟨first⟩ ⟨cap⟩) K:=h
def cR(w:World)(p:Option Addr)(n C:Nat)(l:List Vr):Prop:=l.length=n/\n<=C/\(0<n->∃a,p=some a/\∀(j:Nat) (u:Value),(vcs l)[j]?=some u->w.cell? (a.add j)=some u)/\(0<n->∃a cs,p=some a/\Row w a.block 32 cs)
def aaU(a:Addr)(i:Nat):(a.add i).block=a.block:=by unfold Addr.add;split<;>rfl
section
variable{p:Option Addr}{n C:Nat}{l:List Vr}
def cR.still{w':World}(h:cR w p n C l)(hm:Still w w'):cR w' p n C l:=
 ⟨h.1,h.2.1,λhn=>by
  obtain⟨a,h1,h2⟩:=h.2.2.1 hn;exact⟨a,h1,λj u hu=>hm.cell (h2 j u hu)⟩,λhn=>by
  obtain⟨a,cs,h1,h2⟩:=h.2.2.2 hn;exact⟨a,cs,h1,h2.mod hm λh=>h⟩⟩
def cR.mod{S:Nat->Prop}{w':World}(h:cR w p n C l)(hm:Mod S w w')(hS:∀a,p=some a->¬S a.block):cR w' p n C l:=
 ⟨h.1,h.2.1,λhn=>by
  obtain⟨a,h1,h2⟩:=h.2.2.1 hn;exact⟨a,h1,λj u hu=>(World.cell?_of_block (hm.block _ (World.block_lt_of_cell? _ _ (h2 j u hu)) (by rw[aaU];exact hS a h1))).trans (h2 j u hu)⟩,λhn=>by
  obtain⟨a,cs,h1,h2⟩:=h.2.2.2 hn;exact⟨a,cs,h1,h2.mod hm (hS a h1)⟩⟩
def cR.nil(w:World):cR w none 0 0 []:=⟨rfl,aR _,λh=>absurd h (Bq _),λh=>absurd h (Bq _)⟩
def cR.get(h:cR w p n C l){i:Nat}{x:Vr}(hx:l[i]?=some x):∃a,p=some a/\w.cell? (a.add (i*4))=some (.string (S x.name))/\w.cell? ((a.add (i*4)).add 1)=some (.string (S x.value))/\
  w.cell? ((a.add (i*4)).add 2)=some (.bool x.exp)/\w.cell? ((a.add (i*4)).add 3)=some (.bool x.ro):=by
 have hi:=(iw.1 hx).1;obtain⟨a,h1,h2⟩:=h.2.2.1 (by have:=h.1;omega);obtain⟨g1,g2,g3,g4⟩:=adT hx;refine⟨a,h1,h2 _ _ g1,?_,?_,?_⟩
 .rw[sx]
  exact h2 _ _ g2
 .rw[sx]
  exact h2 _ _ g3
 .rw[sx]
  exact h2 _ _ g4
def cR.take(h:cR w p n C l){k:Nat}(hk:k<=n):cR w p k C (l.take k):=by
 obtain⟨h1,h2,h3,h7⟩:=h;refine⟨by rw[eZ];omega,by omega,λhk0=>?_,λhk0=>h7 (by omega)⟩;obtain⟨a,h4,h5⟩:=h3 (by omega);refine⟨a,h4,λj u hu=>h5 j u ?_⟩;rw[<-aIh k l,R2,wX]
 .exact hu
 .exact(iw.1 hu).1
def cR.drop(h:cR w p n C l){k:Nat}(hk:k<=n):cR w (if C=k then p else Option.map (·.add (k*4)) p) (n-k) (C-k) (l.drop k):=by obtain⟨h1,h2,h3,h7⟩:=h;refine⟨by rw[j_];omega,by omega,λhk0=>?_,λhk0=>by obtain⟨a,cs,rfl,h9⟩:=h7 (by omega);rw[aH (by omega)];exact⟨_,cs,rfl,by rw[aaU];exact h9⟩⟩;obtain⟨a,rfl,h5⟩:=h3 (by omega);rw[aH (by omega)];refine⟨a.add (k*4),rfl,λj u hu=>?_⟩;rw[sx];refine h5 _ u ?_;rw[<-aIh k l,R2,zx (by rw[K1,eZ,Dq (by omega)];omega),K1,eZ,Dq (by omega),Bk];exact hu
def cR.of{B:Nat}(h:aS w B 32 4 (.slice p n C) n (vcs l)):cR w p n C l:=by
 have h1:=h.length;rw[K1]at h1;refine⟨by omega,?_,λhn=>?_,λhn=>by obtain⟨g,cap,cur,he,_,hr,_⟩:=h.row hn;injection he with e1 e2 e3;exact⟨_,cur,e1,hr⟩⟩
 .rcases h.2 with⟨he,_⟩|⟨g,cap,cur,he,_,_,hc,_⟩
  .injection he with e1 e2 e3
   omega
  .injection he with e1 e2 e3
   omega
 .obtain⟨g,cap,he,_,_,_,hc⟩:=h.aKl hn
  injection he with e1 e2 e3;subst e1;refine⟨_,rfl,λj u hu=>?_⟩;rw[bM,cL];exact hc j u hu
end
def ZB(c:Int):an Kv #[.int .i32 c] w (λe w'=>e=.returned (.bool (BM c))/\w'=w):=by
 apply YA;unfold BM;refine ax (λh1=>ax (λh2=>⟨by simp[aQ h1,aQ h2],rfl⟩) (λh2=>ax (λh3=>ax (λh4=>⟨by simp[aQ h3,aQ h4],rfl⟩) (λh4=>⟨?_,rfl⟩)) (λh3=>⟨?_,rfl⟩)))
  (λh1=>ax (λh3=>ax (λh4=>⟨by simp[aQ h3,aQ h4],rfl⟩) (λh4=>⟨?_,rfl⟩)) (λh3=>⟨?_,rfl⟩))
 .rw[h1,h2,h3,h4];rfl
 .rw[h1,h2,h3];rfl
 .rw[h1,h3,h4];rfl
 .rw[h1,h3];rfl
def Z7(c:Int):an KB #[.int .i32 c] w (λe w'=>e=.returned (.bool (BZ c))/\w'=w):=by apply YL;unfold BZ;exact ax (λh1=>⟨by rw[h1];rfl,rfl⟩) (λh1=>⟨by rw[h1];rfl,rfl⟩)
def pz(h:Nat)(w:World):Nat:=match w.heap[h]? with
 |some (.stringIter s p)=>s.size-p
 |_=>0
def Z8{c:Int}(h:128<=c):BM c=false/\BZ c=false:=by
 unfold BM BZ;constructor
 .simp only[Bool.or_eq_false_iff,Jy,zy]
  omega
 .simp only[Jy,zy]
  omega
def Sq(s:ag)(hs:s.length<=9223372036854775807):an aJ_ #[.string (S s)] w (λe w'=>e=.returned (.string (S (s.take (bT true s))))/\Still w w'):=by
 apply YX;refine⟨λw1=>∃k:Nat,w1.heap[w.heap.size]?=some (.stringIter (S s) k)/\k<=s.length/\bT true s=k+bT (decide (k=0)) (s.drop k)/\Still w w1,pz w.heap.size,⟨0,heap_alloc_new w _,dU _,by simp,(Mod.refl _ _).alloc _⟩,?_⟩;rintro _ w1 ⟨k,hk,hkl,hn,hst⟩;refine⟨rfl,s,k,hk,ax (λhx=>?_) (λhx=>?_)⟩
 .have hx:k<s.length:=aQ hx
  have hd:s.drop k=s[k]::s.drop (k+1):=qM hx;have hlt:w.heap.size<w1.heap.size:=(aIf.1 hk).1;have hb:(S s).size=s.length:=rfl;have still:∀q,Still w (w1.iterAt w.heap.size (S s) q):=λq=>⟨hst.os,hst.tape,hst.output,by have:=hst.size;simp only[World.iterAt,Array.size_setIfInBounds];exact this,λi hi hn=>by have:=hst.block i hi hn;simp only[World.iterAt,Array.getElem?_setIfInBounds];rw[aH (by omega)];exact this⟩;have stop:(letter s[k]||(!decide (k=0)&&digit s[k]))=false->bT true s=k:=by intro h;rw[hn,hd,bT,aH (by rw[h];decide)];omega
  have go:∀q,(letter s[k]||(!decide (k=0)&&digit s[k]))=true->q=k+1->(∃k:Nat,(w1.iterAt w.heap.size (S s) q).heap[w.heap.size]?=some (.stringIter (S s) k)/\k<=s.length/\bT true s=k+bT (decide (k=0)) (s.drop k)/\Still w (w1.iterAt w.heap.size (S s) q))/\pz w.heap.size (w1.iterAt w.heap.size (S s) q)<pz w.heap.size w1:=by
   rintro q h rfl;have h1:(w1.iterAt w.heap.size (S s) (k+1)).heap[w.heap.size]?=some (.stringIter (S s) (k+1)):=by simp[World.iterAt,hlt]
   refine⟨⟨k+1,h1,hx,?_,still _⟩,?_⟩
   .rw[hn,hd,bT,aN h,fY (show¬k+1=0 by omega)]
    omega
   .unfold pz
    rw[h1,hk];dsimp only;rw[hb];omega
  have ret:bT true s=k->0<=(k:Int)/\(k:Int)<=s.length/\(Ending.returned (.string (S (s.take (Int.toNat (k:Int)))))=Ending.returned (.string (S (s.take (bT true s))))/\Still w (w1.iterAt w.heap.size (S s) (k+(Utf8.decode (S s) k).2))):=by intro h;exact⟨by omega,by omega,by rw[bW,h],still _⟩
  have We:k<(S s).size:=hx;have hby:(S s)[k]'We=s[k]:=rfl;rcases w_ (s[k].toNat) 128 with hlo|hhi
  .have agx:Utf8.decode (S s) k=(s[k].toNat,1):=decode_ascii (S s) k We hlo
   rw[show(⟨⟨s⟩⟩:ByteArray)=S s from rfl,agx];rw[agx]at ret;refine(ZB _).mono ?_;rintro _ w2 ⟨rfl,rfl⟩;refine .inl ⟨_,rfl,ax (λh=>?_) (λh=>?_)⟩
   .have h:BM (s[k].toNat:Int)=false:=by simpa using h
    have h:letter s[k]=false:=h;refine ax (λh0=>ret (stop ?_)) (λh0=>(Z7 _).mono ?_)
    .have h0:k=0:=by have:=aQ h0;omega
     rw[h,jc h0];rfl
    .have h0:¬k=0:=by have:=aZ h0;omega
     rintro _ w3 ⟨rfl,rfl⟩;refine .inl ⟨_,rfl,ax (λhd=>ret (stop ?_)) (λhd=>go _ ?_ rfl)⟩
     .have hd:BZ (s[k].toNat:Int)=false:=by simpa using hd
      have hd:digit s[k]=false:=hd;rw[h,hd,Kh];rfl
     .have hd:BZ (s[k].toNat:Int)=true:=by simpa using hd
      have hd:digit s[k]=true:=hd;rw[hd,fY h0];simp
   .have h:BM (s[k].toNat:Int)=true:=by simpa using h
    have h:letter s[k]=true:=h;exact go _ (by rw[h];rfl) rfl
  .obtain⟨hc,hw⟩:=decode_high (S s) k We hhi
   have hz:=Z8 (c:=((Utf8.decode (S s) k).1:Int)) (by omega);have gU:=Z8 (c:=(s[k].toNat:Int)) (by omega);have uY:bT true s=k:=stop (by unfold letter digit;rw[gU.1,gU.2,Kh];rfl);rw[show(⟨⟨s⟩⟩:ByteArray)=S s from rfl];refine(ZB _).mono ?_;rintro _ w2 ⟨rfl,rfl⟩;refine .inl ⟨_,rfl,ax (λh=>ax (λh0=>ret uY) (λh0=>(Z7 _).mono ?_)) (λh=>by rw[hz.1]at h;cases h)⟩;rintro _ w3 ⟨rfl,rfl⟩;exact .inl ⟨_,rfl,ax (λhd=>ret uY) (λhd=>by rw[hz.2]at hd;cases hd)⟩
 .have hx:k=s.length:=by have:=aZ hx;omega
  refine⟨?_,hst⟩;subst hx;rw[hn,aJx,bT,F1,aH0]
def Z9(s:ag)(hs:s.length<=9223372036854775807):an Bv #[.string (S s)] w (λe w'=>e=.returned (.bool (isName s))/\Still w w'):=by
 apply YB;unfold isName;refine ax (λh=>(Sq s hs).mono ?_) (λh=>⟨by rw[h];rfl,Mod.refl _ _⟩);rintro _ w1 ⟨rfl,h1⟩;refine .inl ⟨_,rfl,?_,h1⟩;rw[h,Br];congr 2;apply aIU.2;have:=vP true s;constructor
 .intro e
  have:=fT List.length e;rw[eZ]at this;omega
 .intro e
  rw[e,aH0]
def acX(x:Vr)(s:ag):an Bw #[.agg #[.string (S x.name),.string (S x.value),.bool x.exp,.bool x.ro],.string (S s)] w (λe w'=>e=.returned (.int .i64 (Go.Lib.compareBytes x.name s))/\Still w w'):=by apply amL;have hr:=Row.new w 32 ⟨mN x⟩;refine⟨_,hr.dh rfl,(Tryz.strings_Compare (S x.name) (S s) _).mono ?_⟩;rintro _ w1 ⟨rfl,rfl⟩;exact .inl ⟨_,rfl,rfl,(Mod.refl _ _).alloc _⟩
def aye{a b:Nat}(h:a+b<1000000000):i64.wrap (Int.fdiv (u64.wrap (i64.wrap ((a:Int)+(b:Int)))) (2^(min (Int.toNat (1:Int)) (u64.bits))))=(((a+b)/2:Nat):Int):=by
 have e2:(2:Int)^(min (Int.toNat (1:Int)) (u64.bits))=2:=by decide
 rw[e2,wrap_i64 (n:=(a:Int)+b) (by omega) (by omega),wrap_u64 (by omega) (by omega),Int.fdiv_eq_ediv_of_nonneg _ (by decide),wrap_i64 (by omega) (by omega)];omega
def Zm:cY aL Bw=true:=by kernel_rfl
set_option maxRecDepth 10000 in
def apF{p:Option Addr}{n C:Nat}{l:List Vr}(h:cR w p n C l)(hs:aIx l)(hn:n<1000000)(s:ag):
  an OG #[.slice p n C,.string (S s),.func (.func Bw) #[] #[]] w (λe w'=>e=.returned (.tuple #[.int .i64 (pos s l:Int),.bool (get s l).isSome])/\Still w w'):=by
 apply ai8;have hl:=h.1;have hpl:=Ub s l;refine⟨λi j w1=>∃a b:Nat,i=(a:Int)/\j=(b:Int)/\a<=pos s l/\pos s l<=b/\b<=n/\Still w w1,λi j _=>j.toNat-i.toNat,⟨0,n,rfl,rfl,dU _,by omega,aR _,Mod.refl _ _⟩,?_⟩;rintro _ _ _ w1 ⟨a,b,rfl,rfl,ha,hb,hbn,hst⟩;have h1:=h.still hst;refine ax (λhx=>?_) (λhx=>?_)
 .have hx:a<b:=by have:=aQ hx;omega
  rw[aye (by omega)];have hm:(a+b)/2<b:=by omega
  have hml:(a+b)/2<l.length:=by omega
  have hg:=getD_some hml;obtain⟨q,rfl,c1,c2,c3,c4⟩:=h1.get hg;have e1:i64.wrap ((((a+b)/2:Nat):Int)+1)=(((a+b)/2+1:Nat):Int):=wI;rw[e1];refine⟨by decide,by omega,by omega,_,_,_,_,by rw[bW];exact c1,by rw[bW];exact c2,by rw[bW];exact c3,by rw[bW];exact c4,?_⟩;refine Gl (g:=Bw) (first:=[]) (cap:=[]) ?_;rw[Zm];refine(acX l[(a+b)/2] s).mono ?_;rintro _ w2 ⟨rfl,h2⟩;refine .inl ⟨_,rfl,?_⟩;rw[aeL];refine ax (λhlt=>⟨⟨_,b,rfl,rfl,?_,hb,hbn,hst.trans h2⟩,by dsimp only;omega⟩) (λhlt=>⟨⟨a,_,rfl,rfl,ha,?_,by omega,hst.trans h2⟩,by dsimp only;omega⟩)
  .rcases w_ ((a+b)/2) (pos s l)with h|h
   .exact h
   .rw[axY hs hg h]at hlt;cases hlt
  .rcases w_ ((a+b)/2) (pos s l)with h|h
   .rw[aeM hg h]at hlt;cases hlt
   .exact h
 .have hx:a=pos s l/\b=pos s l:=by have:=aZ hx;omega
  obtain⟨rfl,rfl⟩:=hx;have hgp:=Tv s l;refine ax (λhy=>?_) (λhy=>?_)
  .have hy:pos s l<n:=by have:=aQ hy;omega
   have hg:=getD_some (p:=l) (i:=pos s l) (by omega);obtain⟨q,rfl,c1,c2,c3,c4⟩:=h1.get hg;refine⟨by omega,by omega,_,_,_,_,by rw[bW];exact c1,by rw[bW];exact c2,by rw[bW];exact c3,by rw[bW];exact c4,?_⟩;refine Gl (g:=Bw) (first:=[]) (cap:=[]) ?_;rw[Zm];refine(acX l[pos s l] s).mono ?_;rintro _ w2 ⟨rfl,h2⟩;refine .inl ⟨_,rfl,?_,hst.trans h2⟩;rw[adS,hgp,hg];dsimp only
   by_cases he:l[pos s l].name=s
   .rw[jc he,aN he];rfl
   .rw[fY he,aH he];rfl
  .have hy:¬pos s l<n:=by have:=aZ hy;omega
   refine⟨?_,hst⟩;rw[hgp,ud (by omega)];rfl
def find_spec{p:Option Addr}{n C:Nat}{l:List Vr}(h:cR w p n C l)(hs:aIx l)(hn:n<1000000)(s:ag):
  an aKD #[.slice p n C,.string (S s)] w (λe w'=>e=.returned (.tuple #[.int .i64 (pos s l:Int),.bool (get s l).isSome])/\Still w w'):=by
 apply anw;refine(apF h hs hn s).mono ?_;rintro _ w1 ⟨rfl,h1⟩;exact .inl ⟨_,_,rfl,rfl,h1⟩
end Go.Proofs.YtihaaoehhgmphaaGreatDoor.A
namespace Go.Proofs
open Go.Shelf
def Tryz.avk:Go.Shelf.Ren:=⟨λ|4=>355|n=>n,λ|22=>27|25=>32|3=>3|4=>4|9=>9|20=>20|0=>0|n=>n,λ|n=>n⟩
def Tryz.grow:Go.Proofs.Lays8.n4 aL Tryz.avk:={
 mixed:=by kernel_rfl
 f4:=⟨Tryz.f355.name,by decide,bf Tryz.func355⟩
 t0:=Tryz.underlying0
 a0:=Tryz.isAgg0
 z0:=Tryz.sizeOf0
 v0:=Tryz.zeroValue0
 t3:=Tryz.underlying3
 a3:=Tryz.isAgg3
 z3:=Tryz.sizeOf3
 v3:=Tryz.zeroValue3
 t4:=Tryz.underlying4
 a4:=Tryz.isAgg4
 z4:=Tryz.sizeOf4
 v4:=Tryz.zeroValue4
 t9:=Tryz.underlying9
 a9:=Tryz.isAgg9
 z9:=Tryz.sizeOf9
 v9:=Tryz.zeroValue9
 t20:=Tryz.underlying20
 a20:=Tryz.isAgg20
 z20:=Tryz.sizeOf20
 v20:=Tryz.zeroValue20
 t22:=Tryz.underlying27
 a22:=Tryz.isAgg27
 z22:=Tryz.sizeOf27
 v22:=Tryz.zeroValue27}
end Go.Proofs
namespace Go.Proofs.YtihaaoehhgmphaaGreatDoor.A
open IntKind Go.RowKit Vc Go.Shelf
variable{w:World}
def U3{g:Nat}{t:TypeId}{x0 x1 x2 x3:Value}(h:Row w g t ⟨[x0,x1,x2,x3]⟩)(y0 y1 y2 y3:Value):∃W,W=(((w.setCell (Addr.mk g 0 none) y0).setCell (Addr.mk g 1 none) y1).setCell (Addr.mk g 2 none) y2).setCell (Addr.mk g 3 none) y3/\
  Wr w (Addr.mk g 0 none)/\Wr (w.setCell (Addr.mk g 0 none) y0) (Addr.mk g 1 none)/\Wr ((w.setCell (Addr.mk g 0 none) y0).setCell (Addr.mk g 1 none) y1) (Addr.mk g 2 none)/\
  Wr (((w.setCell (Addr.mk g 0 none) y0).setCell (Addr.mk g 1 none) y1).setCell (Addr.mk g 2 none) y2) (Addr.mk g 3 none)/\Row W g t ⟨[y0,y1,y2,y3]⟩/\Mod (λi=>i=g) w W:=by
 have h1:=h.aHE 0 y0;have h2:=h1.aHE 1 y1;have h3:=h2.aHE 2 y2;have h4:=h3.aHE 3 y3;exact⟨_,rfl,h.wr 0 (by simp),h1.wr 1 (by simp),h2.wr 2 (by simp),h3.wr 3 (by simp),h4,((((Mod.refl (λi=>i=g) w).setCell (p:=Addr.mk g 0 none) (.inl rfl) y0).setCell (p:=Addr.mk g 1 none) (.inl rfl) y1).setCell (p:=Addr.mk g 2 none) (.inl rfl) y2).setCell (p:=Addr.mk g 3 none) (.inl rfl) y3⟩
def aeW(w:World):∃w0,w0=w.alloc (.cells #[(.string (S ([]:List UInt8))),(.string (S ([]:List UInt8))),(.bool false),(.bool false)] 32)/\Row w0 w.heap.size 32 ⟨mN Vr.zero⟩/\Still w w0/\w0.heap.size=w.heap.size+1:=
 ⟨_,rfl,Row.new w 32 ⟨mN Vr.zero⟩,(Mod.refl _ _).alloc _,World.size_alloc ..⟩
section
variable{w2 w7:World}{B L L':Nat}{e:TypeId}{v v':Value}{xs ys:List Value}{size:Nat}
def _root_.Go.Proofs.YtihaaoehhgmphaaGreatDoor.aS.U4{p p':Option Addr}{n n' c c':Nat}(ho:aS w2 B e size (.slice p n c) L xs)(hB:B<=w2.heap.size)(yR:aS w7 0 e size (.slice p' n' c') L' ys)(hblk:oh p p' n' c c' w2.heap.size):aS w7 B e size (.slice p' n' c') L' ys:=by
 refine yR.base λk hk=>?_;rcases hblk.own (n:=n)with h|h
 .exact(ho.lt k (by rw[<-h,hk])).1
 .rw[hk]at h
  obtain rfl:=bO h;exact hB
def _root_.Go.Proofs.YtihaaoehhgmphaaGreatDoor.Still.U4(hm:Still w w2)(ho:aS w2 B e size v L xs)(Nt:w.heap.size<=B)(hg:w2.grownBy w7 v.ownBlock):Still w w7:=
 Mod.grown hm hg λg hk=>.inr (kf Nt (ho.lt g hk).1)
end
def asU(n:Nat)(hn:n<1000000):an Xv #[.slice none 0 0,.int .i64 (n:Int)] w (λe w'=>∃p C,e=.returned (.slice p 0 C)/\aS w' w.heap.size 32 4 (.slice p 0 C) 0 []/\Still w w'):=by
 rcases aIi n with rfl|h0
 .refine(Any8.slices_Grow_room Tryz.grow none 0 0 0 w (aR _) (by decide) (by decide) (by decide)).mono ?_
  rintro _ w' ⟨rfl,rfl⟩;exact⟨none,0,rfl,aS.nil _ _ _ _,Mod.refl _ _⟩
 .have hi:Tryz.prog.info? 32=some ((Tryz.prog.info? 32).getD default):=by kernel_rfl
  have hz:((Tryz.prog.info? 32).getD default).zero=some (.agg ⟨mN Vr.zero⟩):=by kernel_rfl
  have hs:((Tryz.prog.info? 32).getD default).size=4:=by kernel_rfl
  have hb:((Tryz.prog.info? 32).getD default).bytes=40:=by kernel_rfl
  refine(Any8.slices_Grow_grow Tryz.grow _ _ hi hz (by rw[hs];decide) none 0 0 n [] w (aR _) (by omega) (by rw[hb];omega) (by omega) (by simp) (λ_=>rfl) (λa h=>by cases h)).mono ?_;rintro _ w' ⟨rfl,rfl⟩;refine⟨_,_,rfl,⟨rfl,.inr ⟨w.heap.size,_,_,rfl,aR _,Row.new w.drew _ _,dU _,?_,?_,rfl⟩⟩,((Mod.refl _ _).drew).alloc _⟩
  .exact grownCap_le_maxLen _ _ _ _ (by simp only[maxLen];omega)
  .have hge:=grownCap_ge w (0+n) 0 32
   have Wf:(Value.agg ⟨mN Vr.zero⟩).cells.size=4:=rfl;show(_:Nat)=grownCap w (0+n) 0 32*4
   simp only[Qd,vG,cq,size_zeroCells,Wf];show 0+(0+n-0)*4+(grownCap w (0+n) 0 32-(0+n))*4=grownCap w (0+n) 0 32*4
   omega
abbrev Part:=Option Addr×Nat×Nat×List Vr
def Mb(P:List Part):List Value:=P.map λx=>.slice x.1 x.2.1 x.2.2.1
def flat(P:List Part):List Vr:=P.flatMap λx=>x.2.2.2
def abZ(P:List Part)(k:Nat):(flat (P.take k)).length<=(flat P).length:=by
 conv=>rhs;rw[<-aIh k P]
 rw[flat,flat,PK,aHb];omega
def Gw{P:List Part}{k:Nat}(h:k<P.length):flat (P.take (k+1))=flat (P.take k)++P[k].2.2.2:=by rw[FH,getD_some h,flat,flat,PK];simp
def apG{g:Nat}{P:List Part}(hr:Row w g 27 ⟨Mb P⟩)(hP:∀x∈P,cR w x.1 x.2.1 x.2.2.1 x.2.2.2)(hlen:P.length<1000)(hsum:(flat P).length<1000000):
  an OR #[.slice (some (Addr.mk g 0 none)) P.length P.length] w (λe w'=>∃p C,e=.returned (.slice p (flat P).length C)/\cR w' p (flat P).length C (flat P)/\Still w w'):=by
 apply ajj;have cell:∀{w1:World},Still w w1->∀k:Nat,(hk:k<P.length)->w1.cell? ((Addr.mk g 0 none).add (Int.toNat (k:Int)*1))=some (.slice P[k].1 P[k].2.1 P[k].2.2.1):=by intro w1 hst k hk;rw[bW,aHA,bM,cL];refine hst.cell (hr.dh ?_);simp[Mb,hk]
 have step:∀k:Nat,k<1000->i64.wrap ((k:Int)+1)=((k+1:Nat):Int):=λk hk=>by rw[wrap_i64 (by omega) (by omega)];omega
 refine⟨λsize x w1=>∃k:Nat,x=(k:Int)/\k<=P.length/\size=((flat (P.take k)).length:Int)/\w1=w,λ_ x _=>P.length-x.toNat,⟨0,rfl,dU _,rfl,rfl⟩,?_⟩;rintro _ _ _ w1 ⟨k,rfl,hk,rfl,rfl⟩;refine ax (λhx=>?_) (λhx=>?_)
 .have hx:k<P.length:=by have:=aQ hx;omega
  have hv:=(hP _ (kL hx)).1;have hle:=abZ P (k+1);rw[Gw hx,aHb]at hle;have e1:i64.wrap (((flat (P.take k)).length:Int)+((P[k].2.1:Nat):Int))=((flat (P.take (k+1))).length:Int):=by rw[wrap_i64 (by omega) (by omega),Gw hx,aHb];omega
  refine⟨by omega,by omega,_,_,_,cell (Mod.refl _ _) k hx,?_⟩
  try dsimp only[zR]
  rw[e1,step k (by omega)];exact ax (λh=>by have:=aQ h;omega) (λ_=>⟨⟨k+1,rfl,hx,rfl,rfl⟩,by(try dsimp only);omega⟩)
 have hx:k=P.length:=by have:=aZ hx;omega
 subst hx;rw[aH0];refine(asU (flat P).length hsum).mono ?_;rintro _ w2 ⟨p,C,rfl,ie,h2⟩;refine .inl ⟨_,_,_,rfl,λq L D x w3=>∃k:Nat,x=(k:Int)/\k<=P.length/\L=(flat (P.take k)).length/\aS w3 w1.heap.size 32 4 (.slice q L D) L (vcs (flat (P.take k)))/\Still w1 w3,λ_ _ _ x _=>P.length-x.toNat,⟨0,rfl,dU _,rfl,ie,h2⟩,?_⟩;rintro q _ D _ _ w3 ⟨k,rfl,hk,rfl,oX,h3⟩;refine ax (λhx=>?_) (λhx=>?_)
 .have hx:k<P.length:=by have:=aQ hx;omega
  have hva:=(hP _ (kL hx)).still h3;have hle:=abZ P (k+1);rw[Gw hx,aHb]at hle;have hv:=hva.1;refine⟨by omega,by omega,_,_,_,cell h3 k hx,vcs (flat (P.take k)),vcs P[k].2.2.2,oX.aJO,by rw[K1,hv],awD _,hva.2.2.1,by omega,by omega,λp4 C4 w4 qA IF hb4=>?_⟩;rw[step k (by omega)];refine⟨⟨k+1,rfl,hx,by rw[Gw hx,aHb,hv],?_,h3.U4 oX (aR _) IF⟩,by dsimp only;omega⟩;rw[Gw hx,R2];exact oX.U4 h3.size qA hb4
 .have hx:k=P.length:=by have:=aZ hx;omega
  subst hx;rw[aH0]at oX⊢;exact⟨q,D,rfl,cR.of oX,h3⟩
def getD_at{s:ag}{l:List Vr}(h:(get s l).isSome=true):∃hk:pos s l<l.length,getD s l=l[pos s l]:=by
 have hg:=Tv s l;cases hp:l[pos s l]? with
 |none=>rw[hp]at hg;rw[hg]at h;cases h
 |some v=>
  rw[hp]at hg;dsimp only at hg;split at hg
  .obtain⟨hk,he⟩:=iw.1 hp
   exact⟨hk,by rw[getD,hg,he];rfl⟩
  .rw[hg]at h;cases h
def SX{p:Option Addr}{n C:Nat}{l:List Vr}(h:cR w p n C l)(hs:aIx l)(hn:n<1000000)(s:ag):
  an Gc #[.slice p n C,.string (S s)] w (λe w'=>e=.returned (.tuple #[.agg #[.string (S (getD s l).name),.string (S (getD s l).value),.bool (getD s l).exp,.bool (getD s l).ro],.bool (get s l).isSome])/\Still w w'):=by
 apply anU;unfold ZS;obtain⟨w0,hw0,aIB,uY,hs0⟩:=aeW w;rw[<-hw0];refine(find_spec (h.still uY) hs hn s).mono ?_;rintro _ w1 ⟨rfl,h1⟩;have cy:Row w1 w.heap.size 32 ⟨mN Vr.zero⟩:=aIB.mod h1 (λh=>h);have ri:=uY.trans h1;refine .inl ⟨_,_,rfl,λw2=>Row w2 w.heap.size 32 ⟨mN (getD s l)⟩/\Still w w2,ax (λhb=>?_) (λhb=>?_),?_⟩
 .obtain⟨hk,he⟩:=getD_at hb
  obtain⟨a,rfl,c1,c2,c3,c4⟩:=(h.still ri).get (getD_some hk);have hl:=h.1;obtain⟨w2,hw2,d1,d2,d3,d4,hr2,hm2⟩:=U3 cy (.string (S l[pos s l].name)) (.string (S l[pos s l].value)) (.bool l[pos s l].exp) (.bool l[pos s l].ro);refine⟨by omega,by omega,_,_,_,_,by rw[bW];exact c1,by rw[bW];exact c2,by rw[bW];exact c3,by rw[bW];exact c4,d1,d2,d3,d4,?_⟩;rw[<-hw2,he];exact⟨hr2,ri.box (aR _) hm2⟩
 .have:getD s l=Vr.zero:=by
   cases hg:get s l with
   |none=>rw[getD,hg];rfl
   |some v=>rw[hg]at hb;cases hb
  rw[this];exact⟨cy,ri⟩
 .rintro _ w2 ⟨hr2,yG⟩
  obtain⟨w3,Wg,d1,d2,d3,d4,hr3,dx⟩:=U3 hr2 (.string (S (getD s l).name)) (.string (S (getD s l).value)) (.bool (getD s l).exp) (.bool (getD s l).ro);refine⟨_,_,_,_,hr2.dh rfl,hr2.dh rfl,hr2.dh rfl,hr2.dh rfl,d1,d2,d3,d4,?_⟩;rw[<-Wg];exact⟨_,_,_,_,hr3.dh rfl,hr3.dh rfl,hr3.dh rfl,hr3.dh rfl,rfl,yG.box (aR _) dx⟩
def aoU:cY aL Rm=true:=by kernel_rfl
def tQ(l:List Vr)(s:ag)(err:Vr->Int)(aHw:Vr->Vr):List Vr×Int:=if isName s=true then(if err {getD s l with name:=s}=0 then(ins (aHw {getD s l with name:=s}) l,0)else([],err {getD s l with name:=s}))else([],1)
set_option maxRecDepth 10000 in
def aoV{p:Option Addr}{n C:Nat}{l:List Vr}(h:cR w p n C l)(hs:aIx l)(hn:n<900000)(s:ag)(gh:s.length<=9223372036854775807){f:FuncId}{cap:List Value}{err:Vr->Int}{aHw:Vr->Vr}(hf:cY aL f=true)(hu:∀x,(aHw x).name=x.name)
  (hch:∀(w1:World) (g:Nat) (x:Vr),Still w w1->w.heap.size<=g->Row w1 g 32 ⟨mN x⟩->an f ⟨[.pointer (some (Addr.mk g 0 none))]++cap⟩ w1 (λe w2=>e=.returned (.int .i64 (err x))/\Mod (λi=>i=g) w1 w2/\(err x=0->Row w2 g 32 ⟨mN (aHw x)⟩))):
  an Q0 #[.slice p n C,.string (S s),.func (.func f) #[] ⟨cap⟩] w (λe w'=>∃q D,e=.returned (.tuple #[.slice q (tQ l s err aHw).1.length D,.int .i64 (tQ l s err aHw).2])/\cR w' q (tQ l s err aHw).1.length D (tQ l s err aHw).1/\Still w w'):=by
 apply amw;refine(Z9 s gh).mono ?_;rintro _ w1 ⟨rfl,h1⟩;refine .inl ⟨_,rfl,ax (λhnm=>?_) (λhnm=>?_)⟩
 .have hnm:isName s=false:=by simpa using hnm
  have e:tQ l s err aHw=([],1):=by unfold tQ;rw[aH (by rw[hnm];decide)]
  rw[e];exact⟨none,0,rfl,cR.nil _,h1⟩
 have hnm:isName s=true:=by simpa using hnm
 refine(SX (h.still h1) hs (by omega) s).mono ?_;rintro _ w2 ⟨rfl,h2⟩;refine .inl ⟨_,_,_,_,_,rfl,?_⟩;have yG:=h1.trans h2;obtain⟨w0,hw0,aIB,uY,hs0⟩:=aeW w2
 try dsimp only[zR]
 rw[<-hw0];obtain⟨w3,Wg,d1,d2,d3,d4,hr3,dx⟩:=U3 aIB (.string (S (getD s l).name)) (.string (S (getD s l).value)) (.bool (getD s l).exp) (.bool (getD s l).ro);refine⟨d1,d2,d3,d4,?_⟩;rw[<-Wg];have uZ:Still w w3:=(yG.trans uY).box yG.size dx;have hr4:=hr3.aHE 0 (.string (S s));have aHS:Still w (w3.setCell (Addr.mk w2.heap.size 0 none) (.string (S s))):=uZ.setCell (.inr yG.size) _;refine⟨hr3.wr 0 (by simp),Gl (g:=f) (first:=[]) (cap:=cap) ?_⟩;rw[hf];refine(hch _ w2.heap.size {getD s l with name:=s} aHS yG.size hr4).mono ?_;rintro _ w5 ⟨rfl,tR,nH⟩;have U5:Still w w5:=aHS.box yG.size tR;refine .inl ⟨_,rfl,ax (λhe=>?_) (λhe=>?_)⟩
 .have he:¬err {getD s l with name:=s}=0:=by rw[aJ3]at he;exact aZ he
  have e:tQ l s err aHw=([],err {getD s l with name:=s}):=by unfold tQ;rw[aN hnm,aH he]
  rw[e];exact⟨none,0,rfl,cR.nil _,U5⟩
 have he:err {getD s l with name:=s}=0:=by rw[Yd]at he;exact aQ he
 have e:tQ l s err aHw=(ins (aHw {getD s l with name:=s}) l,0):=by unfold tQ;rw[aN hnm,aN he]
 rw[e];have nH:=nH he;have NV:=hu {getD s l with name:=s};generalize aHw {getD s l with name:=s}=x at nH NV⊢;have NV:x.name=s:=NV;refine(find_spec (h.still U5) hs (by omega) s).mono ?_;rintro _ w6 ⟨rfl,h6⟩;have aKp:=U5.trans h6;have wJ:=nH.mod h6 (λh=>h);have hpl:=Ub s l;have hl:=h.1;have Wh:=h.still aKp;refine .inl ⟨_,_,rfl,by omega,by omega,λq L D w7=>L=n-(pos s l+if(get s l).isSome=true then 1 else 0)/\pos s l+(if(get s l).isSome=true then 1 else 0)<=n/\cR w6 q L D (l.drop (pos s l+if(get s l).isSome=true then 1 else 0))/\w7=w6,ax (λhb=>?_) (λhb=>?_),?_⟩
 .obtain⟨hk,_⟩:=getD_at hb
  rw[bW,aN hb];have hd:=(Wh.drop (k:=pos s l) (by omega)).drop (k:=1) (by omega);rw[Bo]at hd;exact⟨by decide,by omega,by show n-pos s l-1=_;omega,by omega,hd,rfl⟩
 .rw[bW,aH (by rw[hb];decide)]
  exact⟨rfl,by omega,Wh.drop (by omega),rfl⟩
 rintro q L D _ w7 ⟨rfl,hkn,hq,rfl⟩;have hC:=h.2.1;refine⟨λwq=>Row wq w2.heap.size 32 ⟨mN x⟩,wJ.drew,by omega,by omega,_,_,_,_,λwq hq=>hq.dh rfl,λwq hq=>hq.dh rfl,λwq hq=>hq.dh rfl,λwq hq=>hq.dh rfl,?_⟩;rw[bW];have gy:Row (w7.drew.alloc (.cells ⟨mN x⟩ 32)) w7.drew.heap.size 32 ⟨mN x⟩:=Row.new _ _ _;have HW:Still w7 ((w7.drew.alloc (.cells ⟨mN x⟩ 32)).alloc (.cells ⟨Mb [(p,pos s l,C,l.take (pos s l)),(some (Addr.mk w7.drew.heap.size 0 none),1,1,[x]),(q,n-(pos s l+if(get s l).isSome=true then 1 else 0),D,l.drop (pos s l+if(get s l).isSome=true then 1 else 0))]⟩ 27)):=(((Mod.refl _ _).drew).alloc _).alloc _;have NQ:cR ((w7.drew.alloc (.cells ⟨mN x⟩ 32)).alloc (.cells ⟨Mb [(p,pos s l,C,l.take (pos s l)),(some (Addr.mk w7.drew.heap.size 0 none),1,1,[x]),(q,n-(pos s l+if(get s l).isSome=true then 1 else 0),D,l.drop (pos s l+if(get s l).isSome=true then 1 else 0))]⟩ 27)) (some (Addr.mk w7.drew.heap.size 0 none)) 1 1 [x]:=by refine⟨rfl,aR _,λ_=>⟨_,rfl,λj u hu=>?_⟩,λ_=>⟨_,_,rfl,gy.alloc _⟩⟩;rw[bM,cL];exact(gy.alloc _).dh (by simpa[vcs]using hu)
 have hfl:flat [(p,pos s l,C,l.take (pos s l)),(some (Addr.mk w7.drew.heap.size 0 none),1,1,[x]),(q,n-(pos s l+if(get s l).isSome=true then 1 else 0),D,l.drop (pos s l+if(get s l).isSome=true then 1 else 0))]=ins x l:=by rw[<-put_eq x l,NV];simp[flat]
 have hil:=aaH x l;refine(apG (P:=[(p,pos s l,C,l.take (pos s l)),(some (Addr.mk w7.drew.heap.size 0 none),1,1,[x]),(q,n-(pos s l+if(get s l).isSome=true then 1 else 0),D,l.drop (pos s l+if(get s l).isSome=true then 1 else 0))]) (Row.new _ _ _) (λy hy=>?_) (by simp) (by rw[hfl,hil];split<;>omega)).mono ?_
 .simp only[gE,ug,uh]at hy
  rcases hy with rfl|rfl|rfl
  .exact(Wh.take (k:=pos s l) (by omega)).still HW
  .exact NQ
  .exact hq.still HW
 .rw[hfl]
  rintro _ w9 ⟨r,E,rfl,hv,h9⟩;exact .inl ⟨_,_,_,rfl,r,E,rfl,hv,(aKp.trans HW).trans h9⟩
end Go.Proofs.YtihaaoehhgmphaaGreatDoor.A
namespace Go.Proofs.YtihaaoehhgmphaaGreatDoor.A
open IntKind Go.RowKit Vc Go.Shelf
variable{w:World}
def aAb(w:World)(r:List Vr×Int)(e:Ending)(w':World):Prop:=∃q D,e=.returned (.tuple #[.slice q r.1.length D,.int .i64 r.2])/\cR w' q r.1.length D r.1/\Still w w'
section
variable{p:Option Addr}{n C:Nat}{l:List Vr}
def avl(h:cR w p n C l)(hs:aIx l)(hn:n<900000)(s x:ag)(gh:s.length<=9223372036854775807):an RG #[.slice p n C,.string (S s),.string (S x)] w (aAb w (yC l s x)):=by
 apply anV;have hb:Row (w.alloc (.cells #[(.string (S x))] 9)) w.heap.size 9 ⟨[.string (S x)]⟩:=Row.new _ _ _;have hst:Still w (w.alloc (.cells #[(.string (S x))] 9)):=(Mod.refl _ _).alloc _;have hsz:(w.alloc (.cells #[(.string (S x))] 9)).heap.size=w.heap.size+1:=World.size_alloc ..;have e:tQ l s (λy=>if y.ro=true then 150 else 0) (λy=>{y with value:=x})=yC l s x:=by
  unfold tQ yC;split
  .generalize getD s l=v
   obtain⟨a,b,c,d⟩:=v;cases d<;>rfl
  ·rfl
 refine(aoV (h.still hst) hs hn s gh (err:=λy=>if y.ro=true then 150 else 0) (aHw:=λy=>{y with value:=x}) aoU (λ_=>rfl) ?_).mono ?_
 .intro w1 g y h1 hg hr
  have gy:=hb.mod h1 (λh=>h);apply am9;refine⟨_,by rw[bM];exact hr.dh rfl,ax (λhro=>?_) (λhro=>?_)⟩
  .refine⟨by rw[hro];rfl,Mod.refl _ _,λh=>?_⟩
   rw[hro]at h;cases h
  .refine⟨_,gy.dh rfl,?_⟩
   show Wr _ ((Addr.mk g 0 none).add 1)/\_;rw[bM];exact⟨hr.wr 1 (by simp[mN]),by rw[hro];rfl,(Mod.refl (λi=>i=g) w1).setCell (p:=Addr.mk g (0+1) none) (.inl rfl) _,λ_=>hr.aHE 1 _⟩
 .rw[e]
  rintro _ w1 ⟨q,D,rfl,hv,h1⟩;exact .inl ⟨_,_,_,_,rfl,q,D,rfl,hv,hst.trans h1⟩
end
end Go.Proofs.YtihaaoehhgmphaaGreatDoor.A
namespace Go.Proofs.YtihaaoehhgmphaaGreatDoor.A
open IntKind Go.RowKit Vc
variable{w:World}
abbrev rj(k:Nat):List PanicEntry:=[{v:=.iface 28 (.int .i64 (k:Int)),recovered:=false}]
def rU(b:Bool)(k:Nat):an vH #[.bool b,.int .i64 (k:Int)] w (λe w'=>(if b=true then e=.returned (.tuple #[])else e=.panicked (rj k))/\w'=w):=by
 apply am4;cases b
 .exact⟨rfl,rfl⟩
 .exact⟨rfl,rfl⟩
def Zn(s:ag)(cs:ag)(hcs:cs.length<4294967281)(ha:cs.all (λb=>decide (b.toNat<128))=true):an Qh #[.string (S s),.string (S cs)] w (λe w'=>e=.returned (.string (S (s.dropWhile (cs.contains ·))))/\Still w w'):=by refine(Any.strings_TrimLeft_laid Tryz.lays161 (by kernel_rfl) (S s) (S cs) w (by simpa[ByteArray.size]using hcs) (ascii_of_all ha)).mono ?_;rintro _ w' ⟨rfl,hb⟩;exact⟨rfl,(Still.refl w).trans' hb (aR _)⟩
def an4:an Qv #[] w (λe w'=>∃b,e=.returned (.slice (some ⟨b,0,none⟩) 30 30)/\cZ w' (some ⟨b,0,none⟩) 30 aIF/\Still w w'):=by apply alw;exact aO λw1 cy hs1 hz1=>⟨_,rfl,cZ.row (l:=aIF) cy,hs1⟩
def LQ{g:Nat}{s:ag}(h:Row w g 72 ⟨[.string (S s)]⟩):an Dn #[.pointer (some ⟨g,0,none⟩)] w (λe w'=>e=.returned (.string (S (di s)))/\Row w' g 72 ⟨[.string (S (trim s))]⟩/\Mod (λk=>k=g) w w'):=by
 apply alv;refine⟨s,h.ai rfl,(Zn s [32,9,10] (by decide) (by decide)).mono ?_⟩;rintro _ w1 ⟨rfl,hs1⟩;have et:s.dropWhile (([32,9,10]:ag).contains ·)=trim s:=by unfold trim;congr 1;funext c;simp[aeN,QU];rfl
 refine .inl ⟨_,rfl,?_⟩;rw[et];refine bF (h.still hs1) λw2 hr2 hm2 gU=>?_;refine an4.mono ?_;rintro _ w3 ⟨b,rfl,sM,hs3⟩;refine .inl ⟨_,_,_,rfl,?_⟩;have dx:Mod (λk=>k=g) w w3:=Mod.trans (Mod.trans hs1 hm2 (λ_ h=>h.elim) (λ_ _ h=>h)) hs3 (λ_ h=>h) (λ_ _ h=>h.elim);refine⟨λx w4=>∃i:Nat,x=(i:Int)/\i<=30/\di s=((aIF.drop i).find? (λo=>o.isPrefixOf (trim s))).getD []/\Still w3 w4,λx _=>30-x.toNat,⟨0,rfl,dU _,rfl,Still.refl _⟩,?_⟩;rintro _ _ w4 ⟨i,rfl,hi,ho,hs4⟩;have hr4:Row w4 g 72 ⟨[.string (S (trim s))]⟩:=(hr2.still hs3).still hs4;have lY:Mod (λk=>k=g) w w4:=Mod.trans dx hs4 (λ_ h=>h) (λ_ _ h=>h.elim);refine ax (λhx=>?_) (λhx=>?_)
 .have hx:i<30:=by have:=aQ hx;omega
  have e1:i64.wrap ((i:Int)+1)=((i+1:Nat):Int):=wI;obtain⟨a,ha,hc⟩:=(sM.still hs4).get hx;injection ha with ha;subst ha;refine⟨by omega,by omega,_,by rw[bW,aHA];exact hc,_,hr4.ai rfl,?_⟩;refine(Tryz.strings_HasPrefix _ _ _).mono ?_;rintro _ w5 ⟨rfl,rfl⟩;refine .inl ⟨_,rfl,?_⟩;have hil:i<aIF.length:=hx;rw[qM hil,List.find?_cons]at ho;have ep:Lib.hasPrefix (S (trim s)).data.toList (S (aIF[i]'hil)).data.toList=(aIF[i]'hil).isPrefixOf (trim s):=rfl;rw[ep];cases hp:(aIF[i]'hil).isPrefixOf (trim s)with
  |true=>rw[hp]at ho;refine ax (λ_=>⟨?_,hr4,lY⟩) (λh=>by cases h);rw[ho];rfl
  |false=>rw[hp]at ho;refine ax (λh=>by cases h) (λ_=>?_);rw[e1];exact⟨⟨i+1,rfl,hx,ho,hs4⟩,by dsimp only;omega⟩
 .have hx:i=30:=by have:=aZ hx;omega
  rw[hx,XK (by decide)]at ho;rw[ho];exact⟨rfl,hr4,lY⟩
def ayf(g:Nat)(p:Option Addr):Prop:=∀a,p=some a->a.block≠g
def Dy{p:Option Addr}{n C:Nat}{l:List ag}(h:cZ w p n l)(hn:n<1000)(x:ag):an zw #[.slice p n C,.string (S x)] w (λe w'=>e=.returned (.bool (decide (x∈l)))/\Still w w'):=by
 apply Xp;have hl:=h.1;have key:an Jq #[.slice p n C,.string (S x)] w (λe w'=>(∃z:Int,e=.returned (.int .i64 z)/\(0<=z↔x∈l))/\Still w w'):=by
  apply Xt;refine⟨λz w1=>∃i:Nat,z=(i:Int)/\i<=n/\x∉l.take i/\w1=w,λz _=>n-z.toNat,⟨0,rfl,dU _,by simp,rfl⟩,?_⟩;rintro _ _ w1 ⟨i,rfl,hi,hno,rfl⟩;refine ax (λhx=>?_) (λhx=>?_)
  .have hx:i<n:=by have:=aQ hx;omega
   have e1:i64.wrap ((i:Int)+1)=((i+1:Nat):Int):=wI;obtain⟨a,rfl,hc⟩:=h.get hx;have hil:i<l.length:=by omega
   refine⟨by omega,by omega,_,by rw[bW,aHA];exact hc,ax (λhe=>?_) (λhe=>?_)⟩
   .have he:=aQ he
    exact⟨⟨_,rfl,⟨λ_=>by rw[he];exact kL hil,λ_=>by omega⟩⟩,Still.refl _⟩
   .have he:=aZ he
    rw[e1];refine⟨⟨i+1,rfl,hx,?_,rfl⟩,by dsimp only;omega⟩;rw[DJ hil];intro hm;rcases mE.1 hm with hm|hm
    .exact hno hm
    .simp at hm
     exact he hm
  .have hx:i=l.length:=by have:=aZ hx;omega
   rw[hx,aH0]at hno;exact⟨⟨_,rfl,⟨λh=>absurd h (by decide),λh=>absurd h hno⟩⟩,Still.refl _⟩
 refine key.mono ?_;rintro _ w1 ⟨⟨z,rfl,hz⟩,hs1⟩;refine .inl ⟨_,rfl,?_,hs1⟩;rw[aIU.2 hz]
def qX{g:Nat}{s:ag}(h:Row w g 72 ⟨[.string (S s)]⟩){p:Option Addr}{n C:Nat}{l:List ag}(hl:cZ w p n l)(hg:ayf g p)(hn:n<1000)(h0:[]∉l):
  an aJ2 #[.pointer (some ⟨g,0,none⟩),.slice p n C] w (λe w'=>(if di s∈l then e=.returned (.string (S (di s)))/\Row w' g 72 ⟨[.string (S (jw s))]⟩else e=.returned (.string (S []))/\Row w' g 72 ⟨[.string (S (trim s))]⟩)/\Mod (λk=>k=g) w w'):=by
 apply akX;refine(LQ h).mono ?_;rintro _ w1 ⟨rfl,cy,dX⟩;refine .inl ⟨_,rfl,ax (λhe=>?_) (λhe=>?_)⟩
 .have he:=aQ he
  try dsimp only[zR]
  rw[aH (show¬di s∈l by rw[he];exact h0)];exact⟨⟨rfl,cy⟩,dX⟩
 have he:=aZ he;have hl1:cZ w1 p n l:=⟨hl.1,λhn=>by
  obtain⟨a,ha,hc⟩:=hl.2 hn;exact⟨a,ha,λj u hu=>(World.cell?_of_block (dX.block _ (World.block_lt_of_cell? _ _ (hc j u hu)) (by
   have hb:(a.add j).block=a.block:=by unfold Addr.add;split<;>rfl
   rw[hb];exact hg a ha))).trans (hc j u hu)⟩⟩
 refine(Dy hl1 hn _).mono ?_;rintro _ w2 ⟨rfl,hs2⟩;have hm2:Mod (λk=>k=g) w w2:=Mod.trans dX hs2 (λ_ h=>h) (λ_ _ h=>h.elim);have hr2:=cy.still hs2;refine .inl ⟨_,rfl,ax (λhx=>?_) (λhx=>?_)⟩
 .have hx:di s∉l:=by intro e;rw[jc e]at hx;cases hx
  try dsimp only[zR]
  rw[aH hx];exact⟨⟨rfl,hr2⟩,hm2⟩
 .have hx:di s∈l:=by
   by_cases e:di s∈l
   .exact e
   .rw[fY e]at hx;cases hx
  have hpre:=(acK he).2;rw[OW]at hpre;have hle:=hpre.length_le;refine⟨trim s,hr2.ai rfl,by omega,by omega,bF hr2 λw3 hr3 dx rA=>?_⟩;rw[bW]at hr3
  try dsimp only[zR]
  rw[aN hx];exact⟨⟨rfl,hr3⟩,Mod.trans hm2 dx (λ_ h=>h) (λ_ _ h=>h)⟩
def nd{p:Prop}[Decidable p](h:(!decide p)=false):p:=by simpa using h
def aoW(s:ag):qf s=if 2<s.length/\(s.take 2=[48,120]\/s.take 2=[48,88])then(16,s.drop 2)else if 1<s.length/\s[0]?=some 48 then(8,s)else(10,s):=by
 match s with
 |[]=>rfl
 |[a]=>rfl
 |[a,b]=>
  simp only[qf];rw[aH (show¬(2<[a,b].length/\_)from λe=>absurd e.1 (by simp))]
  by_cases h:a=48<;>simp[h]
 |a::b::c::r=>
  simp only[qf]
  by_cases h:a=48
  ·by_cases h2:b=120\/b=88
   .rw[aN ⟨h,h2⟩,aN ⟨by simp,by rcases h2 with h2|h2<;>simp[h,h2]⟩]
    rfl
   .rw[aH (λe=>h2 e.2),aN h,aH (λe=>h2 (by simpa[h]using e.2)),aN ⟨by simp,by simp[h]⟩]
  .rw[aH (λe=>h e.1),aH h,aH (λe=>h (by rcases e.2 with e|e<;>(simp at e;exact e.1))),aH (λe=>h (by simpa using e.2))]
abbrev Ew:ag:=[48,49,50,51,52,53,54,55,56,57,97,98,99,100,101,102,65,66,67,68,69,70]
def avm(c:UInt8):Ew.contains c=D2 c:=by
 have h:∀n:Nat,n<256->Ew.contains (UInt8.ofNat n)=D2 (UInt8.ofNat n):=by decide+kernel
 have:=h c.toNat c.toNat_lt;rwa[Qf]at this
def asV(l cs:ag):(Lib.trimS l cs=[])↔l.all (λc=>cs.contains c)=true:=by
 unfold Lib.trimS Lib.trimLeftS Lib.trimRightS;have hd:∀(p:UInt8->Bool) (x:ag),x.dropWhile p=[]↔x.all p=true:=by
  intro p x
  induction x with
  |nil=>simp
  |cons c x ih=>
   rw[PJ,FY]
   by_cases h:p c=true
   .rw[aN h,ih,h];simp
   .rw[aH h];simp[h]
 rw[hd];constructor
 .intro h
  rw[Qt]at h;cases hx:l.reverse.dropWhile (λc=>cs.contains c)with
  |nil=>have:=(hd _ _).1 hx;rwa[Qt]at this
  |cons c x=>have h2:=List.head?_dropWhile_not (λc=>cs.contains c) l.reverse;rw[hx]at h2 h;simp only[FY,e_]at h;simp at h2;exact absurd (by simpa using h.1) h2
 .intro h
  have:l.reverse.dropWhile (λc=>cs.contains c)=[]:=(hd _ _).2 (by rw[Qt];exact h);rw[this];rfl
def anD(he:Env w)(b:Nat)(hb:b=8\/b=10\/b=16)(s:ag)(hs:s.length<=140737488355328):
  an Qj #[.string (S s),.int .i64 (b:Int),.int .i64 64] w (λe w'=>(∃(m:Int) (y:Value),e=.returned (.tuple #[.int .i64 m,y])/\y.oneCell'=true/\I64 m/\(match qe b s with
   |.ok n=>m=n/\y=.nilIface
   |.bad _=>∃t v,y=.iface t v))/\Still w w'):=by
 apply alg;refine(aoi b hb 64 (.inr rfl) s hs).mono ?_;rintro _ w1 ⟨⟨x,y,rfl,hr⟩,hs1⟩;cases hp:qe b s with
 |ok n=>rw[hp]at hr;obtain⟨rfl,rfl⟩:=hr;exact .inl ⟨_,_,rfl,rfl,⟨_,_,rfl,rfl,aoI hp,rfl,rfl⟩,hs1⟩
 |bad k=>rw[hp]at hr;obtain⟨⟨m,rfl,hm⟩,rfl⟩:=hr;refine .inl ⟨_,_,rfl,rfl,?_⟩;refine(aoQ (he.still hs1) _ s b 64 hs (aqA hp)).mono ?_;rintro _ w2 ⟨⟨t,v,rfl⟩,hs2⟩;exact .inl ⟨_,rfl,rfl,⟨_,_,rfl,rfl,hm,t,v,rfl⟩,hs1.trans hs2⟩
def aq5(he:Env w)(s:ag)(hs:s.length<=140737488355328):
  an Q_ #[.string (S s)] w (λe w'=>(∃(m:Int) (ok:Bool),e=.returned (.tuple #[.int .i64 m,.bool ok])/\I64 m/\(match Es s with
   |some n=>m=n/\ok=true
   |none=>ok=false))/\Still w w'):=by
 apply amK;have hbc:=aoW s;refine⟨λb d w1=>b=((qf s).1:Int)/\d=(qf s).2/\Still w w1,⟨λq w1=>w1=w/\(q=true↔(2<s.length/\(s.take 2=[48,120]\/s.take 2=[48,88]))),?_,?_⟩,?_⟩
 .refine ax (λh=>?_) (λh=>?_)
  .have h:2<s.length:=by have:=aQ h;omega
   refine⟨by decide,by omega,ax (λh1=>?_) (λh1=>⟨by decide,by omega,rfl,?_⟩)⟩
   .exact⟨rfl,λ_=>⟨h,.inl (aQ h1)⟩,λ_=>rfl⟩
   .rw[nk]
    exact⟨λe=>⟨h,.inr e⟩,λe=>e.2.resolve_left (aZ h1)⟩
  .exact⟨rfl,(λe=>by cases e),λe=>by have:=aZ h;omega⟩
 .rintro q _ w1 ⟨rfl,hq⟩
  refine ax (λh=>?_) (λh=>?_)
  .have hc:=hq.1 h
   rw[aN hc]at hbc;rw[hbc];exact⟨by decide,by omega,rfl,rfl,(Still.refl _).cG⟩
  .have hc:¬(2<s.length/\(s.take 2=[48,120]\/s.take 2=[48,88])):=λe=>by rw[hq.2 e]at h;cases h
   rw[aH hc]at hbc;refine⟨λq w2=>w2=w1/\(q=true↔(1<s.length/\s[0]?=some 48)),?_,?_⟩
   .refine ax (λh=>?_) (λh=>?_)
    .have h:1<s.length:=by have:=aQ h;omega
     have h0:=getD_some (p:=s) (i:=0) (by omega);refine⟨by decide,s[0],h0,rfl,?_⟩;rw[nk,h0];exact⟨λe=>⟨h,fT some ((ey (b:=48)).1 e)⟩,λe=>(ey (b:=48)).2 (bO e.2)⟩
    .exact⟨rfl,(λe=>by cases e),λe=>by have:=aZ h;omega⟩
   .rintro q _ w2 ⟨rfl,hq2⟩
    refine ax (λh=>?_) (λh=>?_)
    .rw[aN (hq2.1 h)]at hbc
     rw[hbc];exact⟨rfl,rfl,Still.refl _⟩
    .rw[aH (λe=>by rw[hq2.2 e]at h;cases h)]at hbc
     rw[hbc];exact⟨rfl,rfl,Still.refl _⟩
 rintro _ _ _ w3 ⟨rfl,rfl,hs3⟩;have hb:=awF s;have hdl:(qf s).2.length<=s.length:=by
  rw[hbc];split
  .rw[j_];omega
  .split<;>exact aR _
 unfold Es;generalize(qf s).1=b at*;generalize(qf s).2=ds at*;refine(Any.strings_Trim_laid Tryz.lays160 (by kernel_rfl) (S ds) (S Ew) w3 (show ds.length<=9223372036854775807 by omega) (by decide) (ascii_of_all (by decide))).mono ?_;rintro _ w4 ⟨rfl,hb4⟩;have hs4:Still w w4:=hs3.trans ((Still.refl w3).trans' hb4 (aR _));refine .inl ⟨Lib.trimS ds Ew,rfl,?_⟩;have hnil:=asV ds Ew;have hall:(ds.all λc=>Ew.contains c)=ds.all D2:=by congr 1;funext c;exact avm c
 rw[hall]at hnil;refine ax (λh=>?_) (λh=>?_)
 .have h:¬ds.all D2=true:=λe=>by rw[jc (hnil.2 e)]at h;cases h
  rw[aH h];exact⟨⟨_,_,rfl,by decide,rfl⟩,hs4⟩
 have h:ds.all D2=true:=hnil.1 (nd h);rw[aN h];refine(anD (he.still hs4) b hb ds (by omega)).mono ?_;rintro _ w5 ⟨⟨m,y,rfl,hy,hm,hr⟩,hs5⟩;refine .inl ⟨_,y,hy,rfl,?_⟩;cases hp:qe b ds with
 |ok n=>rw[hp]at hr;obtain⟨rfl,rfl⟩:=hr;exact⟨⟨_,_,rfl,hm,rfl,rfl⟩,(hs4.trans hs5).cG⟩
 |bad k=>rw[hp]at hr;obtain⟨t,v,rfl⟩:=hr;exact⟨⟨_,_,rfl,hm,rfl⟩,(hs4.trans hs5).cG⟩
structure WS(w:World)(g:Nat)(V:List Vr):Prop where
 row:∃p C,Row w g 79 ⟨[.slice p V.length C]⟩/\cR w p V.length C V
 U6:aIx V
 aIT:∀v∈V,v.value.length<=140737488355328
def WS.still{g:Nat}{V:List Vr}{w':World}(h:WS w g V)(hm:Still w w'):WS w' g V:=by obtain⟨⟨p,C,h1,h2⟩,h3,h4⟩:=h;exact⟨⟨p,C,h1.still hm,h2.still hm⟩,h3,h4⟩
end Go.Proofs.YtihaaoehhgmphaaGreatDoor.A
namespace Go.Proofs.YtihaaoehhgmphaaGreatDoor
open IntKind Go.RowKit Vc
set_option maxRecDepth 100000
variable{w w0:World}
abbrev fV:TypeId:=112
abbrev lW:TypeId:=104
abbrev pH:TypeId:=305
structure Sh where
 T:Tree
 V:List A.Vr
 st:Int
 bh:ag
 out:ag
 way:Int
 loops:Int
 last:Int
 fuel:Nat
 tw:Int
 err:ag
 b6:Nat
structure Kx where
 a:Nat
 g:Nat
 hb:Nat
 sb:Nat
 pb:Nat
 fm:Nat
def gV(K:Kx)(vp:Option Addr)(vc:Nat)(s:Sh):List Value:=
 [.pointer (some ⟨K.sb,0,none⟩),.pointer (some ⟨K.pb,0,none⟩),.string (S []),.slice vp s.V.length vc,.slice none 0 0,.int .i64 s.st,.map (some K.fm),.string (S s.bh),.string (S s.out),.int .i64 s.way,.int .i64 0,.int .i64 s.loops,.int .i64 0,.int .i64 s.last]
structure Sx where
 sp:Option Addr
 sn:Nat
 sc:Nat
 mp:Option Addr
 mn:Nat
 mc:Nat
 ran:Int
 bp:Option Addr
 buf:Value
def aIc(K:Kx)(x:Sx)(s:Sh):List Value:=
 [.pointer (some ⟨K.a,0,none⟩),.int .i64 0,.bool false,.int .i64 0,.string (S []),.string (S []),.slice none 0 0,.string (S []),.slice x.sp x.sn x.sc,.slice x.mp x.mn x.mc,.int .i64 x.ran,.int .i64 0,.int .i64 0,.int .i64 s.tw,.int .i64 (s.fuel:Int),.pointer x.bp,x.buf]
structure od(w w0:World)(K:Kx)(x:Sx)(s:Sh):Prop where
 gW:aHt w lW K.sb 15 w0.heap.size (aIc K x s) x.buf s.err
 mT:∃xs,aS w w0.heap.size pH 2 (.slice x.sp x.sn x.sc) x.sn xs
 cB:x.sn+s.b6<=100000/\s.err.length<=1000000/\s.fuel<=1000000
structure vi(w w0:World)(K:Kx)(s:Sh):Prop where
 mU:gu s.T
 iV:ga w K.pb K.a
 fns:dH w K.fm []
 fW:∃vp vc,Row w K.hb fV ⟨gV K vp vc s⟩/\A.cR w vp s.V.length vc s.V
 gX:∃x,od w w0 K x s
 low:w0.heap.size<=K.hb/\w0.heap.size<=K.sb
 CO:K.g≠K.fm
structure bx(w w0:World)(K:Kx)(s:Sh):Prop extends vi w w0 K s where
 aHh:cv w w0.heap.size K.a K.g none 0 s.T
def Fc(K:Kx)(w:World)(k:Nat):Prop:=k=K.a\/k=K.g\/k=K.sb\/(∃v,w.cell? ⟨K.sb,8,none⟩=some v/\v.ownBlock=some k)\/∃v,w.cell? ⟨K.sb,16,none⟩=some v/\v.ownBlock=some k
def Ft(K:Kx)(w:World)(k:Nat):Prop:=k=K.hb\/Fc K w k
structure cj(F:Nat->Prop)(w:World)(F':Nat->Prop)(w':World):Prop where
 mod:Mod F w w'
 new:∀k,F' k->F k\/w.heap.size<=k
def cj.trans{F F' IP:Nat->Prop}{w' w'':World}(h:cj F w F' w')(h':cj F' w' IP w''):cj F w IP w'':=
 ⟨Mod.trans h.mod h'.mod (λ_ h=>h) (λi hi hF=>(h.new i hF).elim id λhn=>by omega),λk hk=>by
  rcases h'.new k hk with hk|hk
  .exact h.new k hk
  .have:=h.mod.size;exact .inr (by omega)⟩
def cj.of{F F':Nat->Prop}{S:Nat->Prop}{w':World}(hm:Mod S w w')(hS:∀k,S k->F k)(hn:∀k,F' k->F k\/w.heap.size<=k):cj F w F' w':=⟨hm.weaken hS,hn⟩
def Kept(D F:Nat->Prop)(w:World):Prop:=∀k,D k->k<w.heap.size/\¬F k
def Kept.gone{D F F':Nat->Prop}{w':World}(h:Kept D F w)(hg:cj F w F' w'):Kept D F' w':=λk hk=>by have h1:=h k hk;have h2:=hg.mod.size;exact⟨by omega,λhF=>(hg.new k hF).elim h1.2 λhn=>by omega⟩
section
variable{K:Kx}{s:Sh}
def od.row{x:Sx}(h:od w w0 K x s):Row w K.sb lW ⟨aIc K x s⟩:=h.gW.row
def od.own{x:Sx}(h:od w w0 K x s){k:Nat}(hk:Fc K w k):k=K.a\/k=K.g\/k=K.sb\/(Value.slice x.sp x.sn x.sc).ownBlock=some k\/x.buf.ownBlock=some k:=by
 rcases hk with h1|h1|h1|⟨v,hv,h1⟩|⟨v,hv,h1⟩
 .exact .inl h1
 .exact .inr (.inl h1)
 .exact .inr (.inr (.inl h1))
 .have:w.cell? ⟨K.sb,8,none⟩=some (.slice x.sp x.sn x.sc):=h.row.ai rfl
  rw[this]at hv;obtain rfl:=bO hv;exact .inr (.inr (.inr (.inl h1)))
 .have:w.cell? ⟨K.sb,16,none⟩=some x.buf:=h.row.ai rfl
  rw[this]at hv;obtain rfl:=bO hv;exact .inr (.inr (.inr (.inr h1)))
def od.aJL{x:Sx}(h:od w w0 K x s){k:Nat}(hk:k=K.a\/k=K.g\/k=K.sb\/(Value.slice x.sp x.sn x.sc).ownBlock=some k\/x.buf.ownBlock=some k):Fc K w k:=by
 rcases hk with h1|h1|h1|h1|h1
 .exact .inl h1
 .exact .inr (.inl h1)
 .exact .inr (.inr (.inl h1))
 .exact .inr (.inr (.inr (.inl ⟨_,h.row.ai rfl,h1⟩)))
 .exact .inr (.inr (.inr (.inr ⟨_,h.row.ai rfl,h1⟩)))
def pI{k g:Nat}{t:TypeId}{cs:Array Value}{es:List KV}(h:dH w g es)(hr:Row w k t cs):k≠g:=λe=>h.c7 hr e.symm
def bx.apart(h:bx w w0 K s){k:Nat}{t:TypeId}{cs:Array Value}(hr:Row w k t cs)(h1:t≠fV)(h2:t≠lW)(h3:t≠pH)(h4:t≠5)(h5:t≠aHV):¬Ft K w k:=by
 obtain⟨vp,vc,hh,hv⟩:=h.fW;obtain⟨x,hx⟩:=h.gX;obtain⟨xs,hs⟩:=hx.mT;rintro(rfl|hk)
 .exact hr.ne hh h1 rfl
 .rcases hx.own hk with rfl|rfl|rfl|hk|hk
  .exact hr.ne h.aHh.top h5 rfl
  .exact pI h.aHh.now hr rfl
  .exact hr.ne hx.row h2 rfl
  .exact hs.c7 hr (λe=>h3 e.symm) hk
  .exact hx.gW.own.c7 hr (λe=>h4 e.symm) hk
def bx.lt(h:bx w w0 K s){k:Nat}(hk:Ft K w k):w0.heap.size<=k/\k<w.heap.size:=by
 obtain⟨vp,vc,hh,hv⟩:=h.fW;obtain⟨x,hx⟩:=h.gX;obtain⟨xs,hs⟩:=hx.mT;rcases hk with rfl|hk
 .exact⟨h.low.1,hh.lt⟩
 .rcases hx.own hk with rfl|rfl|rfl|hk|hk
  .exact⟨h.aHh.low.1,h.aHh.top.lt⟩
  .exact⟨h.aHh.low.2,h.aHh.now.lt⟩
  .exact⟨h.low.2,hx.row.lt⟩
  .exact hs.lt k hk
  .exact hx.gW.own.lt k hk
def bx.TC(h:bx w w0 K s){p:Option Addr}{n c:Nat}{V:List A.Vr}(hv:A.cR w p n c V)(hn:0<n):∀a,p=some a->¬Ft K w a.block:=by intro a ha;obtain⟨a',cs,h1,h2⟩:=hv.2.2.2 hn;rw[ha]at h1;obtain rfl:=bO h1;exact h.apart h2 (by decide) (by decide) (by decide) (by decide) (by decide)
def cR.yH{S:Nat->Prop}{w':World}{p:Option Addr}{n c:Nat}{V:List A.Vr}(hv:A.cR w p n c V)(hm:Mod S w w')(hS:0<n->∀a,p=some a->¬S a.block):A.cR w' p n c V:=by
 rcases aIi n with h0|h0
 .exact⟨hv.1,hv.2.1,λh=>by omega,λh=>by omega⟩
 .exact hv.mod hm (hS h0)
def vi.mod{S:Nat->Prop}{w':World}(h:vi w w0 K s)(hm:Mod S w w')(hS:∀k,S k->k<w.heap.size->k≠K.hb/\k≠K.sb/\k≠K.pb/\k≠K.fm/\∀t cs,Row w k t cs->t≠pH/\t≠5/\t≠32):vi w' w0 K s:=by
 obtain⟨vp,vc,hh,hv⟩:=h.fW;obtain⟨x,hx⟩:=h.gX;obtain⟨xs,hs⟩:=hx.mT;refine⟨h.mU,h.iV.mod hm λhs=>(hS _ hs h.iV.lt).2.2.1 rfl,h.fns.mod hm λhs=>(hS _ hs h.fns.lt).2.2.2.1 rfl,⟨vp,vc,hh.mod hm λhs=>(hS _ hs hh.lt).1 rfl,cR.yH hv hm λh0 a ha hs=>?_⟩,⟨x,hx.gW.mod hm (λhs=>(hS _ hs hx.row.lt).2.1 rfl) λk hk hs=>?_,⟨xs,hs.mod hm λk hk Wi=>?_⟩,hx.cB⟩,h.low,h.CO⟩
 .obtain⟨a',cs,h1,h2⟩:=hv.2.2.2 h0
  rw[ha]at h1;obtain rfl:=bO h1;exact((hS _ hs h2.lt).2.2.2.2 _ _ h2).2.2 rfl
 .obtain⟨cur,hr⟩:=hx.gW.own.typed hk
  exact((hS _ hs hr.lt).2.2.2.2 _ _ hr).2.1 rfl
 .obtain⟨cur,hr⟩:=hs.typed hk
  exact((hS _ Wi hr.lt).2.2.2.2 _ _ hr).1 rfl
def vi.still{w':World}(h:vi w w0 K s)(hm:Still w w'):vi w' w0 K s:=h.mod hm λ_ h _=>h.elim
def bx.still{w':World}(h:bx w w0 K s)(hm:Still w w'):bx w' w0 K s:=⟨h.tovi.still hm,h.aHh.still hm⟩
def Fc.same{w':World}{k:Nat}(hc:∀o,w'.cell? ⟨K.sb,o,none⟩=w.cell? ⟨K.sb,o,none⟩):Fc K w' k↔Fc K w k:=by unfold Fc;rw[hc 8,hc 16]
def bx.GZ{S:Nat->Prop}{w':World}(h:bx w w0 K s)(hm:Mod S w w')(hS:¬S K.sb)(o:Nat):w'.cell? ⟨K.sb,o,none⟩=w.cell? ⟨K.sb,o,none⟩:=by obtain⟨x,hx⟩:=h.gX;exact World.cell?_of_block (hm.block _ hx.row.lt hS)
def bx.gone{w':World}(h:bx w w0 K s)(hm:Still w w'):cj (Ft K w) w (Ft K w') w':=by
 refine⟨hm.weaken λ_ h=>h.elim,λk hk=>?_⟩;rcases hk with hk|hk
 .exact .inl (.inl hk)
 .exact .inl (.inr ((Fc.same λo=>h.GZ hm (λh=>h) o).1 hk))
end
end Go.Proofs.YtihaaoehhgmphaaGreatDoor
namespace Go.Proofs.YtihaaoehhgmphaaGreatDoor
open IntKind Go.RowKit Vc
set_option maxRecDepth 100000
variable{w w0:World}{K:Kx}{s:Sh}
def cj.refl{F:Nat->Prop}(w:World):cj F w F w:=⟨Mod.refl _ _,λ_ h=>.inl h⟩
def bx.tys(h:bx w w0 K s):K.hb≠K.sb/\K.hb≠K.a/\K.hb≠K.g/\K.hb≠K.pb/\K.hb≠K.fm/\K.sb≠K.a/\K.sb≠K.g/\K.sb≠K.pb/\K.sb≠K.fm/\K.a≠K.pb/\K.a≠K.fm/\K.g≠K.pb/\K.g≠K.fm:=by obtain⟨vp,vc,hh,hv⟩:=h.fW;obtain⟨x,hx⟩:=h.gX;exact⟨hh.ne hx.row (by decide),hh.ne h.aHh.top (by decide),pI h.aHh.now hh,hh.ne h.iV (by decide),pI h.fns hh,hx.row.ne h.aHh.top (by decide),pI h.aHh.now hx.row,hx.row.ne h.iV (by decide),pI h.fns hx.row,h.aHh.top.ne h.iV (by decide),pI h.fns h.aHh.top,(pI h.aHh.now h.iV).symm,h.CO⟩
def bx.put(h:bx w w0 K s){s':Sh}(e1:s'.T=s.T)(e2:s'.fuel=s.fuel)(e3:s'.tw=s.tw)(e4:s'.err=s.err)(e5:s'.b6=s.b6){vp:Option Addr}{vc:Nat}{w':World}(hm:Mod (λk=>k=K.hb) w w')(hr:Row w' K.hb fV ⟨gV K vp vc s'⟩)(hv:A.cR w vp s'.V.length vc s'.V):
  bx w' w0 K s'/\cj (Ft K w) w (Ft K w') w':=by
 obtain⟨t1,t2,t3,t4,t5,_⟩:=h.tys;obtain⟨vp0,vc0,hh,_⟩:=h.fW;obtain⟨x,hx⟩:=h.gX;obtain⟨xs,hs⟩:=hx.mT;have es:aIc K x s'=aIc K x s:=by simp only[aIc,e2,e3]
 have hx':od w' w0 K x s':=by
  refine⟨?_,⟨xs,hs.mod hm λk hk e=>?_⟩,by rw[e4,e2,e5];exact hx.cB⟩
  .rw[es,e4]
   exact hx.gW.mod hm (λe=>t1 e.symm) λk hk e=>hx.gW.own.c7 hh (by decide) (by rw[hk,e])
  .exact hs.c7 hh (by decide) (by rw[hk,e])
 refine⟨⟨⟨by rw[e1];exact h.mU,h.iV.mod hm (λe=>t4 e.symm),h.fns.mod hm (λe=>t5 e.symm),⟨vp,vc,hr,cR.yH hv hm λh0 a ha e=>h.TC hv h0 a ha (.inl e)⟩,⟨x,hx'⟩,h.low,h.CO⟩,?_⟩,?_⟩
 .rw[e1]
  refine h.aHh.mod hm λk hk e=>?_;rcases hk with rfl|rfl|⟨t,ht,_⟩
  .exact t2 e.symm
  .exact t3 e.symm
  .cases ht
 .refine⟨hm.weaken λk hk=>.inl hk,λk hk=>.inl ?_⟩
  rcases hk with hk|hk
  .exact .inl hk
  .exact .inr ((Fc.same λo=>h.GZ hm (λe=>t1 e.symm) o).1 hk)
def bx.cell{i:Nat}{v:Value}(h:bx w w0 K s)(hv:∀vp vc,(gV K vp vc s)[i]?=some v):w.cell? ⟨K.hb,i,none⟩=some v:=by obtain⟨vp,vc,hh,_⟩:=h.fW;exact hh.ai (hv vp vc)
section
variable{P:World->Prop}
def bx.HD(h:bx w w0 K s)(x:Int)(hK:∀w',bx w' w0 K {s with st:=x}->cj (Ft K w) w (Ft K w') w'->Mod (λk=>k=K.hb) w w'->P w'):cA (Addr.mk K.hb 5 none) P 0 [.int .i64 x] w:=by obtain⟨vp,vc,hh,hv⟩:=h.fW;refine dL (g:=K.hb) (o:=5) hh (by simp[gV]) (by simp[Value.oneCell']) λw' r' m' z'=>?_;obtain⟨h1,h2⟩:=h.put (s':={s with st:=x}) rfl rfl rfl rfl rfl m' r' hv;exact hK w' h1 h2 m'
def bx.afG(h:bx w w0 K s)(x:ag)(hK:∀w',bx w' w0 K {s with bh:=x}->cj (Ft K w) w (Ft K w') w'->Mod (λk=>k=K.hb) w w'->P w'):cA (Addr.mk K.hb 7 none) P 0 [.string (S x)] w:=by obtain⟨vp,vc,hh,hv⟩:=h.fW;refine dL (g:=K.hb) (o:=7) hh (by simp[gV]) (by simp[Value.oneCell']) λw' r' m' z'=>?_;obtain⟨h1,h2⟩:=h.put (s':={s with bh:=x}) rfl rfl rfl rfl rfl m' r' hv;exact hK w' h1 h2 m'
def bx.Mc(h:bx w w0 K s)(x:ag)(hK:∀w',bx w' w0 K {s with out:=x}->cj (Ft K w) w (Ft K w') w'->Mod (λk=>k=K.hb) w w'->P w'):cA (Addr.mk K.hb 8 none) P 0 [.string (S x)] w:=by obtain⟨vp,vc,hh,hv⟩:=h.fW;refine dL (g:=K.hb) (o:=8) hh (by simp[gV]) (by simp[Value.oneCell']) λw' r' m' z'=>?_;obtain⟨h1,h2⟩:=h.put (s':={s with out:=x}) rfl rfl rfl rfl rfl m' r' hv;exact hK w' h1 h2 m'
def bx.ayg(h:bx w w0 K s)(x:Int)(hK:∀w',bx w' w0 K {s with way:=x}->cj (Ft K w) w (Ft K w') w'->Mod (λk=>k=K.hb) w w'->P w'):cA (Addr.mk K.hb 9 none) P 0 [.int .i64 x] w:=by obtain⟨vp,vc,hh,hv⟩:=h.fW;refine dL (g:=K.hb) (o:=9) hh (by simp[gV]) (by simp[Value.oneCell']) λw' r' m' z'=>?_;obtain⟨h1,h2⟩:=h.put (s':={s with way:=x}) rfl rfl rfl rfl rfl m' r' hv;exact hK w' h1 h2 m'
def bx.acY(h:bx w w0 K s)(x:Int)(hK:∀w',bx w' w0 K {s with loops:=x}->cj (Ft K w) w (Ft K w') w'->Mod (λk=>k=K.hb) w w'->P w'):cA (Addr.mk K.hb 11 none) P 0 [.int .i64 x] w:=by obtain⟨vp,vc,hh,hv⟩:=h.fW;refine dL (g:=K.hb) (o:=11) hh (by simp[gV]) (by simp[Value.oneCell']) λw' r' m' z'=>?_;obtain⟨h1,h2⟩:=h.put (s':={s with loops:=x}) rfl rfl rfl rfl rfl m' r' hv;exact hK w' h1 h2 m'
def bx.setLast(h:bx w w0 K s)(x:Int)(hK:∀w',bx w' w0 K {s with last:=x}->cj (Ft K w) w (Ft K w') w'->Mod (λk=>k=K.hb) w w'->P w'):cA (Addr.mk K.hb 13 none) P 0 [.int .i64 x] w:=by obtain⟨vp,vc,hh,hv⟩:=h.fW;refine dL (g:=K.hb) (o:=13) hh (by simp[gV]) (by simp[Value.oneCell']) λw' r' m' z'=>?_;obtain⟨h1,h2⟩:=h.put (s':={s with last:=x}) rfl rfl rfl rfl rfl m' r' hv;exact hK w' h1 h2 m'
def bx.U7(h:bx w w0 K s){q:Option Addr}{D:Nat}{V:List A.Vr}(hq:A.cR w q V.length D V)(hK:∀w',bx w' w0 K {s with V:=V}->cj (Ft K w) w (Ft K w') w'->Mod (λk=>k=K.hb) w w'->P w'):cA (Addr.mk K.hb 3 none) P 0 [.slice q V.length D] w:=by obtain⟨vp,vc,hh,hv⟩:=h.fW;refine dL (g:=K.hb) (o:=3) hh (by simp[gV]) (by simp[Value.oneCell']) λw' r' m' z'=>?_;obtain⟨h1,h2⟩:=h.put (s':={s with V:=V}) rfl rfl rfl rfl rfl m' r' hq;exact hK w' h1 h2 m'
def bx.setState(h:bx w w0 K s){q:Option Addr}{D:Nat}{V:List A.Vr}(hq:A.cR w q V.length D V)(x:Int)(hK:∀w',bx w' w0 K {s with V:=V,st:=x}->cj (Ft K w) w (Ft K w') w'->Mod (λk=>k=K.hb) w w'->P w'):cA (Addr.mk K.hb 3 none) P 0 [.slice q V.length D,.slice none 0 0,.int .i64 x] w:=by obtain⟨vp,vc,hh,hv⟩:=h.fW;refine dL (g:=K.hb) (o:=3) hh (by simp[gV]) (by simp[Value.oneCell']) λw' r' m' z'=>?_;obtain⟨h1,h2⟩:=h.put (s':={s with V:=V,st:=x}) rfl rfl rfl rfl rfl m' r' hq;exact hK w' h1 h2 m'
end
def bx.U8(h:bx w w0 K s){s':Sh}(eT:s'.T=s.T){w':World}(hm:Mod (Fc K w) w w'){x':Sx}(hx:od w' w0 K x' s')(es:∀vp vc,gV K vp vc s'=gV K vp vc s)(eV:s'.V=s.V)(hst:cv w' w0.heap.size K.a K.g none 0 s.T)
  (hn:∀k,((Value.slice x'.sp x'.sn x'.sc).ownBlock=some k\/x'.buf.ownBlock=some k)->Fc K w k\/w.heap.size<=k):bx w' w0 K s'/\cj (Ft K w) w (Ft K w') w':=by
 obtain⟨t1,t2,t3,t4,t5,t6,t7,t8,t9,t10,t11,t12,t13⟩:=h.tys;obtain⟨vp,vc,hh,hv⟩:=h.fW;obtain⟨x,hx0⟩:=h.gX;obtain⟨xs,hs0⟩:=hx0.mT;have nC:∀{k:Nat} {t:TypeId} {cs:Array Value},Row w k t cs->t≠lW->t≠pH->t≠5->t≠aHV->¬Fc K w k:=by
  intro k t cs hr h2 h3 h4 h5 hk;rcases hx0.own hk with rfl|rfl|rfl|hk|hk
  .exact hr.ne h.aHh.top h5 rfl
  .exact pI h.aHh.now hr rfl
  .exact hr.ne hx0.row h2 rfl
  .exact hs0.c7 hr (λe=>h3 e.symm) hk
  .exact hx0.gW.own.c7 hr (λe=>h4 e.symm) hk
 refine⟨⟨⟨by rw[eT];exact h.mU,h.iV.mod hm (nC h.iV (by decide) (by decide) (by decide) (by decide)),?_,⟨vp,vc,by rw[es];exact hh.mod hm (nC hh (by decide) (by decide) (by decide) (by decide)),?_⟩,⟨x',hx⟩,h.low,h.CO⟩,by rw[eT];exact hst⟩,?_⟩
 .refine h.fns.mod hm λhk=>?_
  rcases hx0.own hk with hk|hk|hk|hk|hk
  .exact t11 hk.symm
  .exact t13 hk.symm
  .exact t9 hk.symm
  .obtain⟨cur,hr⟩:=hs0.typed hk
   exact h.fns.c7 hr rfl
  .obtain⟨cur,hr⟩:=hx0.gW.own.typed hk
   exact h.fns.c7 hr rfl
 .rw[eV]
  refine cR.yH hv hm λh0 a ha hk=>h.TC hv h0 a ha (.inr hk)
 .refine⟨hm.weaken λk hk=>.inr hk,λk hk=>?_⟩
  rcases hk with hk|hk
  .exact .inl (.inl hk)
  .rcases hx.own hk with hk|hk|hk|hk|hk
   .exact .inl (.inr (.inl hk))
   .exact .inl (.inr (.inr (.inl hk)))
   .exact .inl (.inr (.inr (.inr (.inl hk))))
   .exact(hn k (.inl hk)).imp (λh=>.inr h) id
   .exact(hn k (.inr hk)).imp (λh=>.inr h) id
def od.aHh{x:Sx}(hx:od w w0 K x s)(h:bx w w0 K s){S:Nat->Prop}{w':World}(hm:Mod S w w')(hS:∀k,S k->k=K.sb\/(Value.slice x.sp x.sn x.sc).ownBlock=some k\/x.buf.ownBlock=some k):cv w' w0.heap.size K.a K.g none 0 s.T:=by
 obtain⟨xs,hs0⟩:=hx.mT;refine h.aHh.mod hm λk hk hsk=>?_;rcases hk with rfl|rfl|⟨t,ht,_⟩
 .rcases hS _ hsk with e|e|e
  .exact hx.row.ne h.aHh.top (by decide) e.symm
  .exact hs0.c7 h.aHh.top (by decide) e
  .exact hx.gW.own.c7 h.aHh.top (by decide) e
 .rcases hS _ hsk with e|e|e
  .exact pI h.aHh.now hx.row e.symm
  .obtain⟨cur,hr⟩:=hs0.typed e
   exact h.aHh.now.c7 hr rfl
  .obtain⟨cur,hr⟩:=hx.gW.own.typed e
   exact h.aHh.now.c7 hr rfl
 .cases ht
section
variable{P:World->Prop}
def bx.afH(h:bx w w0 K s){s':Sh}(eT:s'.T=s.T)(es:∀vp vc,gV K vp vc s'=gV K vp vc s)(eV:s'.V=s.V)(ee:s'.err=s.err)(eb:s'.b6=s.b6)(hf:s'.fuel<=1000000){o:Nat}{v:Value}(ho:o+1<=17)(h1:v.oneCell'=true)(hx':∀x,od w w0 K x s->∃x',aIc K x' s'=(aIc K x s).set o v/\x'.buf=x.buf/\x'.sp=x.sp/\x'.sn=x.sn/\x'.sc=x.sc)(AX:o≠15)(aHT:o≠16)
  (hK:∀w',bx w' w0 K s'->cj (Ft K w) w (Ft K w') w'->P w'):cA (Addr.mk K.sb o none) P 0 [v] w:=by
 obtain⟨x,hx⟩:=h.gX;obtain⟨x',e1,e2,e3,e4,e5⟩:=hx' x hx;obtain⟨xs,hs0⟩:=hx.mT;refine dL (g:=K.sb) (o:=o) hx.row (by simpa[aIc]using ho) (by simpa using h1) λw' r' m' z'=>?_;have r'':Row w' K.sb lW ⟨aIc K x' s'⟩:=by rw[e1];exact r'
 have hx2:od w' w0 K x' s':=by refine⟨?_,⟨xs,by rw[e3,e4,e5];exact hs0.mod m' λk hk e=>hs0.c7 hx.row (by decide) (by rw[hk,e])⟩,by rw[e4,ee,eb];exact⟨hx.cB.1,hx.cB.2.1,hf⟩⟩;rw[e2,ee];exact hx.gW.other r'' m' (by rw[e1,rN AX]) (by rw[e1,rN aHT])
 obtain⟨a1,a2⟩:=h.U8 eT (m'.weaken λk hk=>.inr (.inr (.inl hk))) hx2 es eV (hx.aHh h m' λk hk=>.inl hk) (λk hk=>.inl (hx.aJL (by rw[e2,e3,e4,e5]at hk;exact .inr (.inr (.inr hk)))));exact hK w' a1 a2
def bx.ad0(h:bx w w0 K s)(n:Nat)(hn:n<=1000000)(hK:∀w',bx w' w0 K {s with fuel:=n}->cj (Ft K w) w (Ft K w') w'->P w'):cA (Addr.mk K.sb 14 none) P 0 [.int .i64 (n:Int)] w:=
 h.afH (s':={s with fuel:=n}) rfl (λ_ _=>rfl) rfl rfl rfl hn (by decide) rfl (λx _=>⟨x,rfl,rfl,rfl,rfl,rfl⟩) (by decide) (by decide) hK
def bx.ayh(h:bx w w0 K s)(n:Int)(hK:∀w',bx w' w0 K s->cj (Ft K w) w (Ft K w') w'->P w'):cA (Addr.mk K.sb 10 none) P 0 [.int .i64 n] w:=by obtain⟨x,hx⟩:=h.gX;exact h.afH (s':=s) rfl (λ_ _=>rfl) rfl rfl rfl hx.cB.2.2 (by decide) rfl (λx _=>⟨{x with ran:=n},rfl,rfl,rfl,rfl,rfl⟩) (by decide) (by decide) hK
end
def anE{T g o B:Nat}{cs:List Value}{v:Value}{bs:List UInt8}(h:aHt w T g o B cs v bs)(hl:nV T cs.length o)(s:List UInt8)(hB:B<=w.heap.size)(hs:bs.length+s.length<=140737488355328):
  an lR #[.pointer (some ⟨g,o,none⟩),.string (S s)] w (λe w'=>e=.returned (.tuple #[.int .i64 (s.length:Int),.nilIface])/\
   ∃v',aHt w' T g o B ((cs.set o (.pointer (some ⟨g,o,none⟩))).set (o+1) v') v' (bs++s)/\Mod (λk=>k=g\/v.ownBlock=some k) w w'/\∀k,v'.ownBlock=some k->v.ownBlock=some k\/w.heap.size<=k):=by
 apply Xr;refine(Rf h.toaID hl).mono ?_;rintro _ w1 ⟨rfl,h1,dX,hz1⟩;have hroom:=h.room;have aFA:=h.ne;obtain⟨p,c,rfl⟩:=h1.own.form;have hlt:=h.lt;refine .inl ⟨rfl,_,_,_,by rw[bM];exact h1.row.ai h1.buf,?_⟩;refine abz h1.own (by omega) (by omega) (by omega) λp' c' w2 ie hm2 fO=>?_;have hr2:=h1.row.mod hm2 (λe=>h1.ne e);show cA (Addr.add _ 1) _ _ _ _
 rw[bM];refine dL hr2 (by simp;omega) (by simp[Value.oneCell']) λw3 hr3 dx rA=>⟨rfl,_,⟨⟨hr3,?_,?_,?_,?_⟩,?_⟩,?_,?_⟩
 .exact .inr (by show((cs.set o _).set (o+1) _)[o]?=_;rw[rN (by omega),sX (by omega)])
 .exact sX (by simp;omega)
 .have hne:(Value.slice p' (bs.length+s.length) c').ownBlock≠some g:=by
   rcases fO.own (n:=bs.length)with e|e
   .rw[e];exact h1.ne
   .rw[e];have:=h1.row.lt;exact λe=>by injection e with e;omega
  have:=ie.mod dx (λk hk e=>hne (by rw[hk,e]));rw[<-Gr]at this;rw[aHb];exact this
 .rcases fO.own (n:=bs.length)with e|e
  .rw[e];exact h1.ne
  .rw[e];have:=h1.row.lt;exact λe=>by injection e with e;omega
 .rw[Roomy,aHb]
  exact SQ fO rfl hroom ie
 .exact Mod.trans dX (Mod.trans hm2 dx (U:=λk=>k=g\/(Value.slice p bs.length c).ownBlock=some k) (λ_ h=>.inr h) (λ_ _ h=>.inl h)) (λ_ h=>.inl h) (λ_ _ h=>h)
 .intro k hk
  rcases fO.own (n:=bs.length)with e|e
  .exact .inl (e.symm.trans hk)
  .rw[hk]at e
   exact .inr (by have:=bO e;omega)
def awT:nV lW 17 15:=by unfold nV;kernel_rfl
def bx.acZ(h:bx w w0 K s)(hz:w0.heap.size<=w.heap.size)(x:ag)(hl:s.err.length+x.length<=1000000):
  an lR #[.pointer (some ⟨K.sb,15,none⟩),.string (S x)] w (λe w'=>e=.returned (.tuple #[.int .i64 (x.length:Int),.nilIface])/\bx w' w0 K {s with err:=s.err++x}/\cj (Ft K w) w (Ft K w') w'):=by
 obtain⟨y,hy⟩:=h.gX;obtain⟨xs,hs0⟩:=hy.mT;refine(anE hy.gW awT x hz (by omega)).mono ?_;rintro _ w' ⟨rfl,v',h1,m1,n1⟩;refine⟨rfl,?_⟩;have hy2:od w' w0 K {y with bp:=some ⟨K.sb,15,none⟩,buf:=v'} {s with err:=s.err++x}:=by
  refine⟨h1,⟨xs,hs0.mod m1 λk hk e=>?_⟩,hy.cB.1,by simp;omega,hy.cB.2.2⟩;rcases e with e|e
  .exact hs0.c7 hy.row (by decide) (by rw[hk,e])
  .exact hs0.apart hy.gW.own (by decide) hk e
 refine h.U8 (s':={s with err:=s.err++x}) rfl (m1.weaken λk hk=>?_) hy2 (λ_ _=>rfl) rfl (hy.aHh h m1 λk hk=>hk.imp id .inr) λk hk=>?_
 .rcases hk with hk|hk
  .exact hy.aJL (.inr (.inr (.inl hk)))
  .exact hy.aJL (.inr (.inr (.inr (.inr hk))))
 .rcases hk with hk|hk
  .exact .inl (hy.aJL (.inr (.inr (.inr (.inl hk)))))
  .exact(n1 k hk).imp (λh=>hy.aJL (.inr (.inr (.inr (.inr h))))) id
def bx.ad1(h:bx w w0 K s)(hz:w0.heap.size<=w.heap.size){x:Sx}(hx:od w w0 K x s){q:Addr}{u v:Value}(hu:u.oneCell'=true)(hv:v.oneCell'=true)(h0:w.cell? q=some u)(h1:w.cell? (q.add 1)=some v)(hb:0<s.b6){C:Option Addr->Nat->World->Prop}
  (hC:∀p c w1,Mod (λk=>(Value.slice x.sp x.sn x.sc).ownBlock=some k) w w1->(∀P:World->Prop,(∀w',bx w' w0 K {s with b6:=s.b6-1}->cj (Ft K w) w (Ft K w') w'->P w')->cA (Addr.mk K.sb 8 none) P 0 [.slice p (x.sn+1) c] w1)->C p c w1):
  eW w pH 2 48 x.sp x.sn x.sc (some q) 1 C:=by
 obtain⟨xs,hs0⟩:=hx.mT;have hf:=hx.cB.1;refine rT hs0 hz [u,v] rfl (λz hz=>by simp only[gE,ug,uh]at hz;rcases hz with rfl|rfl<;>assumption) (λ_=>⟨q,rfl,λj z hj=>?_⟩) (by omega) (by omega) λp c w1 o1 m1 bk=>hC p c w1 m1 λP hP=>?_
 ·match j,hj with
  |0,hj=>obtain rfl:=bO hj;exact h0
  |1,hj=>obtain rfl:=bO hj;exact h1
 have hne:(Value.slice x.sp x.sn x.sc).ownBlock≠some K.sb:=hs0.c7 hx.row (by decide);have r1:=hx.row.mod m1 hne;refine dL (g:=K.sb) (o:=8) r1 (by simp[aIc]) (by simp[Value.oneCell']) λw2 r2 m2 z2=>?_;have m12:Mod (λk=>k=K.sb\/(Value.slice x.sp x.sn x.sc).ownBlock=some k) w w2:=Mod.trans m1 m2 (λ_ h=>.inr h) (λ_ _ h=>.inl h);have hy2:od w2 w0 K {x with sp:=p,sn:=x.sn+1,sc:=c} {s with b6:=s.b6-1}:=by
  refine⟨?_,⟨_,o1.mod m2 λk hk e=>?_⟩,by dsimp only;omega,hx.cB.2⟩
  .have b1:=hx.gW.mod m1 hne λk hk e=>hs0.apart hx.gW.own (by decide) e hk
   exact b1.other (cs':=aIc K {x with sp:=p,sn:=x.sn+1,sc:=c} {s with b6:=s.b6-1}) r2 m2 rfl rfl
  .exact o1.c7 r1 (by decide) (by rw[hk,e])
 have Wj:∀k,k=K.sb\/(Value.slice x.sp x.sn x.sc).ownBlock=some k->Fc K w k:=λk hk=>by
  rcases hk with hk|hk
  .exact hx.aJL (.inr (.inr (.inl hk)))
  .exact hx.aJL (.inr (.inr (.inr (.inl hk))))
 have hn:∀k,((Value.slice p (x.sn+1) c).ownBlock=some k\/x.buf.ownBlock=some k)->Fc K w k\/w.heap.size<=k:=λk hk=>by
  rcases hk with hk|hk
  .rcases bk.own (n:=x.sn)with e|e
   .exact .inl (hx.aJL (.inr (.inr (.inr (.inl (e.symm.trans hk))))))
   .have hk':(Value.slice p (x.sn+1) c).ownBlock=some k:=hk
    rw[hk']at e;exact .inr (by have:=bO e;omega)
  .exact .inl (hx.aJL (.inr (.inr (.inr (.inr hk)))))
 obtain⟨a1,a2⟩:=h.U8 (s':={s with b6:=s.b6-1}) rfl (m12.weaken Wj) hy2 (λ_ _=>rfl) rfl (hx.aHh h m12 λk hk=>hk.imp id .inl) hn;exact hP w2 a1 a2
def cj.trans'{F F' G IP:Nat->Prop}{w' w'':World}(h:cj F w F' w')(h':cj G w' IP w'')(hG:∀k,k<w.heap.size->G k->F' k\/F k):cj F w IP w'':=
 ⟨Mod.trans h.mod h'.mod (λ_ h=>h) (λi hi hg=>(hG i hi hg).elim (λh1=>(h.new i h1).elim id λhn=>by omega) id),λk hk=>by
  rcases h'.new k hk with hk|hk
  .rcases w_ k w.heap.size with hl|hl
   .exact(hG k hl hk).elim (λh1=>h.new k h1) .inl
   .exact .inr hl
  .have:=h.mod.size;exact .inr (by omega)⟩
structure Aside(w w0:World)(K:Kx)(X:Nat->Prop):Prop where
 lt:∀k,X k->w0.heap.size<=k/\k<w.heap.size
 ne:∀k,X k->k≠K.hb/\k≠K.sb/\k≠K.pb/\k≠K.fm/\k≠K.a/\k≠K.g
 ty:∀k,X k->∀t cs,Row w k t cs->t≠pH/\t≠5/\t≠32
def aaV(bP:aHx w0)(h0:Still w0 w)(h:bx w w0 K s)(hb:0<s.b6){f:FuncId}{cap:List Value}(hc:cY aL f=true){X:Nat->Prop}(hX:Aside w w0 K X){T1:Tree}(hT:gu T1){Q:World->Prop}(hQ:∀wa wb,Q wa->Mod (λk=>¬X k) wa wb->Q wb)
  (IQ:∀w1 t,Mod (λk=>k=K.a) w w1->cv w1 w0.heap.size K.a K.g (some t) 0 s.T->(∀k,SF K.a K.g (some t) k->k=K.a\/k=K.g\/w.heap.size<=k)->an f ⟨cap⟩ w1 λe w2=>e=.returned (.int .i64 0)/\(∃n,n<=12/\cv w2 w0.heap.size K.a K.g (some t) n T1)/\Mod (λk=>SF K.a K.g (some t) k\/X k) w1 w2/\Q w2):
  an Dk #[.pointer (some ⟨K.hb,0,none⟩),.func (.func f) #[] ⟨cap⟩] w λe w'=>e=.returned (.int .i64 0)/\bx w' w0 K {s with T:=T1,b6:=s.b6-1}/\cj (λk=>Ft K w k\/X k) w (Ft K w') w'/\Q w':=by
 obtain⟨t1,t2,t3,t4,t5,t6,t7,t8,t9,t10,t11,t12,t13⟩:=h.tys;have hz0:=h0.size;apply ak1;obtain⟨x0,hx0⟩:=h.gX;refine⟨_,h.cell λ_ _=>rfl,_,hx0.row.ai rfl,(aaN h.aHh h0).mono ?_⟩;rintro _ w1 ⟨rfl,t,h1,m1,g1,g2,g3,g4⟩;have low:∀k,SF K.a K.g (some t) k->k=K.a\/k=K.g\/w.heap.size<=k:=λk hk=>by
  rcases hk with e|e|⟨t',ht',hk⟩
  .exact .inl e
  .exact .inr (.inl e)
  .obtain rfl:=bO ht'
   rcases hk with rfl|rfl|rfl|rfl<;>exact .inr (.inr (by assumption))
 refine .inl ⟨rfl,aI1 (ax (λ_=>?_) (λh=>by rw[hc]at h;cases h))⟩;refine(IQ w1 t m1 h1 low).mono ?_;rintro _ w2 ⟨rfl,⟨n,hn,h2⟩,m2,q2⟩;have aJv:Mod (λk=>k=K.a\/k=K.g\/X k) w w2:=Mod.trans m1 m2 (λ_ h=>.inl h) λk hk hS=>by
  rcases hS with hS|hS
  .rcases low k hS with e|e|e
   .exact .inl e
   .exact .inr (.inl e)
   .omega
  .exact .inr (.inr hS)
 have ap:∀k,(k=K.a\/k=K.g\/X k)->k<w.heap.size->k≠K.hb/\k≠K.sb/\k≠K.pb/\k≠K.fm/\∀t cs,Row w k t cs->t≠pH/\t≠5/\t≠32:=λk hk _=>by
  rcases hk with rfl|rfl|hk
  .refine⟨λe=>t2 e.symm,λe=>t6 e.symm,t10,t11,λt cs hr=>?_⟩
   have e:t=aHV:=aKx λhne=>hr.ne h.aHh.top hne rfl;subst e;exact⟨by decide,by decide,by decide⟩
  .exact⟨λe=>t3 e.symm,λe=>t7 e.symm,t12,t13,λt cs hr=>absurd rfl (h.aHh.now.c7 hr)⟩
  .obtain⟨a1,a2,a3,a4,_,_⟩:=hX.ne k hk
   exact⟨a1,a2,a3,a4,hX.ty k hk⟩
 have hR2:vi w2 w0 K s:=h.tovi.mod aJv ap;have aJV:Still w0 w2:=Mod.trans h0 aJv (λ_ h=>h) λk hk hS=>by
  rcases hS with e|e|e
  .have:=h.aHh.low.1;omega
  .have:=h.aHh.low.2;omega
  .have:=(hX.lt k e).1;omega
 obtain⟨x2,hx2⟩:=hR2.gX;have c2:w2.cell? ⟨K.hb,0,none⟩=some (.pointer (some ⟨K.sb,0,none⟩)):=by obtain⟨vp,vc,hh,_⟩:=hR2.fW;exact hh.ai rfl
 refine .inl ⟨_,rfl,_,c2,_,hx2.row.ai rfl,(acT bP.env aJV h2 hn).mono ?_⟩;rintro _ w3 ⟨⟨p1,n1,c1,p2,n2,Wk,rfl⟩,h3,m3⟩;have A5:Mod (λk=>k=K.a\/k=K.g\/X k) w w3:=Mod.trans aJv m3 (λ_ h=>h) (λ_ _ h=>.inl h);have sN:vi w3 w0 K s:=h.tovi.mod A5 ap;have hS3:bx w3 w0 K {s with T:=T1}:=⟨⟨hT,sN.iV,sN.fns,sN.fW,by
  obtain⟨x,hx⟩:=sN.gX;exact⟨x,hx.gW,hx.mT,hx.cB⟩,sN.low,sN.CO⟩,by
  refine⟨h3.top,h3.now,h3.cB,h3.low,λt ht=>by cases ht⟩⟩
 have Wl:∀k,Ft K w3 k->Ft K w k:=λk hk=>by
  rcases hk with hk|hk
  .exact .inl hk
  .refine .inr ((Fc.same λo=>World.cell?_of_block (A5.block _ hx0.row.lt λhs=>?_)).1 hk)
   rcases hs with e|e|e
   .exact t6 e
   .exact t7 e
   .exact(hX.ne _ e).2.1 rfl
 have M4:=hS3.still (Still.refl _).cG;obtain⟨x3,hx3⟩:=M4.gX;obtain⟨vj,aJg,mV,_⟩:=M4.fW;have aJW:Still w0 w3.drew:=Mod.drew (Mod.trans aJV m3 (λ_ h=>h) λk hk e=>by have:=h.aHh.low.1;omega);have rA:=aJW.size;refine .inl ⟨_,_,_,_,_,_,rfl,λwq=>Row wq K.hb fV ⟨gV K vj aJg {s with T:=T1}⟩/\∃x,Row wq K.sb lW ⟨aIc K x3 {s with T:=T1}⟩/\x=x3,⟨mV,x3,hx3.row,rfl⟩,_,λwq hq=>hq.1.ai rfl,_,λwq hq=>hq.1.ai rfl,_,_,_,λwq hq=>by obtain⟨_,x,hr,rfl⟩:=hq;exact hr.ai rfl,?_⟩;refine aO λw4 r4 s4 z4=>⟨⟨mV.still s4,x3,hx3.row.still s4,rfl⟩,?_⟩;have Wm:=M4.still s4;have zc:od w4 w0 K x3 {s with T:=T1}:=by obtain⟨xs,hs⟩:=hx3.mT;exact⟨hx3.gW.still s4,⟨xs,hs.still s4⟩,hx3.cB⟩
 have gS4:cj (Ft K w3.drew) w3.drew (Ft K w4) w4:=M4.gone s4;refine Wm.ad1 (by have:=s4.size;omega) zc (q:=⟨w3.drew.heap.size,0,none⟩) (u:=.slice p1 n1 c1) (v:=.slice p2 n2 Wk) rfl rfl (r4.ai rfl) (r4.ai rfl) hb λp c w5 m5 hst=>⟨?_,hst _ λw6 h6 g6=>?_⟩
 .obtain⟨xs,hs⟩:=zc.mT
  exact⟨(mV.still s4).mod m5 λe=>hs.c7 (mV.still s4) (by decide) e,x3,zc.row.mod m5 λe=>hs.c7 zc.row (by decide) e,rfl⟩
 .have g34:cj (Ft K w3) w3 (Ft K w4) w4:=⟨s4.aeH.weaken λ_ h=>h.elim,gS4.new⟩
  have Wn:=g34.trans g6;refine⟨rfl,h6,⟨Mod.trans A5 Wn.mod (λk hk=>?_) (λk _ hk=>.inl (Wl k hk)),λk hk=>?_⟩,hQ w2 w6 q2 ?_⟩
  .rcases hk with e|e|e
   .exact .inl (.inr (.inl e))
   .exact .inl (.inr (.inr (.inl e)))
   .exact .inr e
  .rcases Wn.new k hk with hk|hk
   .exact .inl (.inl (Wl k hk))
   .exact .inr (by have:=A5.size;omega)
  .refine Mod.trans m3 Wn.mod (λk e hk=>(hX.ne k hk).2.2.2.2.1 e) λk _ hk hx=>?_
   rcases Wl k hk with e|e
   .exact(hX.ne k hx).1 e
   .rcases hx0.own e with e|e|e|e|e
    .exact(hX.ne k hx).2.2.2.2.1 e
    .exact(hX.ne k hx).2.2.2.2.2 e
    .exact(hX.ne k hx).2.1 e
    .obtain⟨xs,hs⟩:=hx0.mT
     obtain⟨cur,hr⟩:=hs.typed e;exact(hX.ty k hx _ _ hr).1 rfl
    .obtain⟨cur,hr⟩:=hx0.gW.own.typed e
     exact(hX.ty k hx _ _ hr).2.1 rfl
end Go.Proofs.YtihaaoehhgmphaaGreatDoor
namespace Go.Proofs
open Go.Shelf
def Tryz.asW:Go.Shelf.Ren:=⟨λ|4=>371|n=>n,λ|22=>25|25=>9|3=>3|4=>4|9=>9|20=>20|0=>0|n=>n,λ|n=>n⟩
def Tryz.afI:Go.Proofs.Lays8.n4 aL Tryz.asW:={
 mixed:=by kernel_rfl
 f4:=⟨Tryz.f371.name,by decide,bf Tryz.func371⟩
 t0:=Tryz.underlying0
 a0:=Tryz.isAgg0
 z0:=Tryz.sizeOf0
 v0:=Tryz.zeroValue0
 t3:=Tryz.underlying3
 a3:=Tryz.isAgg3
 z3:=Tryz.sizeOf3
 v3:=Tryz.zeroValue3
 t4:=Tryz.underlying4
 a4:=Tryz.isAgg4
 z4:=Tryz.sizeOf4
 v4:=Tryz.zeroValue4
 t9:=Tryz.underlying9
 a9:=Tryz.isAgg9
 z9:=Tryz.sizeOf9
 v9:=Tryz.zeroValue9
 t20:=Tryz.underlying20
 a20:=Tryz.isAgg20
 z20:=Tryz.sizeOf20
 v20:=Tryz.zeroValue20
 t22:=Tryz.underlying25
 a22:=Tryz.isAgg25
 z22:=Tryz.sizeOf25
 v22:=Tryz.zeroValue25}
end Go.Proofs
namespace Go.Proofs.YtihaaoehhgmphaaGreatDoor
open IntKind Go.RowKit Vc
set_option maxRecDepth 100000
variable{w w0:World}
def aq6(n:Nat)(hn:n<1000000):an Xz #[.slice none 0 0,.int .i64 (n:Int)] w (λe w'=>∃p C,e=.returned (.slice p 0 C)/\aS w' w.heap.size bJ 1 (.slice p 0 C) 0 []/\Still w w'):=by
 rcases aIi n with rfl|h0
 .refine(Any8.slices_Grow_room Tryz.afI none 0 0 0 w (aR _) (by decide) (by decide) (by decide)).mono ?_
  rintro _ w' ⟨rfl,rfl⟩;exact⟨none,0,rfl,aS.nil _ _ _ _,Mod.refl _ _⟩
 .have hi:Tryz.prog.info? bJ=some ((Tryz.prog.info? bJ).getD default):=by kernel_rfl
  have hz:((Tryz.prog.info? bJ).getD default).zero=some (.string (S [])):=by kernel_rfl
  have hs:((Tryz.prog.info? bJ).getD default).size=1:=by kernel_rfl
  have hb:((Tryz.prog.info? bJ).getD default).bytes=16:=by kernel_rfl
  refine(Any8.slices_Grow_grow Tryz.afI _ _ hi hz (by rw[hs];decide) none 0 0 n [] w (aR _) (by omega) (by rw[hb];omega) (by omega) (by simp) (λ_=>rfl) (λa h=>by cases h)).mono ?_;rintro _ w' ⟨rfl,rfl⟩;refine⟨_,_,rfl,⟨rfl,.inr ⟨w.heap.size,_,_,rfl,aR _,Row.new w.drew _ _,dU _,?_,?_,rfl⟩⟩,((Mod.refl _ _).drew).alloc _⟩
  .exact grownCap_le_maxLen _ _ _ _ (by simp only[maxLen];omega)
  .have hge:=grownCap_ge w (0+n) 0 bJ
   have Wf:(Value.string (S [])).cells.size=1:=rfl;show(_:Nat)=grownCap w (0+n) 0 bJ*1
   simp only[Qd,vG,cq,size_zeroCells,Wf];show 0+(0+n-0)*1+(grownCap w (0+n) 0 bJ-(0+n))*1=grownCap w (0+n) 0 bJ*1
   omega
def aoX{g:Nat}{p1 p2:Option Addr}{c1 c2:Nat}{l1 l2:List ag}(hr:Row w g DB ⟨[.slice p1 l1.length c1,.slice p2 l2.length c2]⟩)(h1:cZ w p1 l1.length l1)(h2:cZ w p2 l2.length l2)(hs:l1.length+l2.length<1000000):
  an OT #[.slice (some (Addr.mk g 0 none)) 2 2] w (λe w'=>∃p C,e=.returned (.slice p (l1++l2).length C)/\aS w' w.heap.size bJ 1 (.slice p (l1++l2).length C) (l1++l2).length (strs (l1++l2))/\Still w w'):=by
 apply ajl;have cl:∀{w1:World},Still w w1->w1.cell? ((Addr.mk g 0 none).add (Int.toNat 0*1))=some (.slice p1 l1.length c1)/\w1.cell? ((Addr.mk g 0 none).add (Int.toNat 1*1))=some (.slice p2 l2.length c2):=λhst=>⟨(hr.still hst).ai rfl,(hr.still hst).ai rfl⟩;refine⟨λsize x w1=>w1=w/\(x=0/\size=0\/x=1/\size=(l1.length:Int)\/x=2/\size=((l1.length+l2.length:Nat):Int)),λ_ x _=>(2-x).toNat,⟨rfl,.inl ⟨rfl,rfl⟩⟩,?_⟩;rintro size x _ w1 ⟨rfl,hx⟩;refine ax (λhl=>?_) (λhl=>?_)
 .have hl:x<2:=by simpa using hl
  rcases hx with⟨rfl,rfl⟩|⟨rfl,rfl⟩|⟨rfl,rfl⟩
  .refine⟨by decide,by decide,_,_,_,(cl (Still.refl _)).1,?_⟩
   try dsimp only[zR]
   rw[wrap_i64 (by omega) (by omega)];refine ax (λh=>by have:=aQ h;omega) (λ_=>⟨⟨rfl,.inr (.inl ⟨by decide,by omega⟩)⟩,by show(2-i64.wrap (0+1)).toNat<(2-(0:Int)).toNat;decide⟩)
  .refine⟨by decide,by decide,_,_,_,(cl (Still.refl _)).2,?_⟩
   try dsimp only[zR]
   rw[wrap_i64 (by omega) (by omega)];refine ax (λh=>by have:=aQ h;omega) (λ_=>⟨⟨rfl,.inr (.inr ⟨by decide,by omega⟩)⟩,by show(2-i64.wrap (1+1)).toNat<(2-(1:Int)).toNat;decide⟩)
  .omega
 .have hl:¬x<2:=by simpa using hl
  rcases hx with⟨rfl,rfl⟩|⟨rfl,rfl⟩|⟨rfl,rfl⟩
  .omega
  .omega
  refine(aq6 (l1.length+l2.length) hs).mono ?_;rintro _ w2 ⟨p,C,rfl,ie,h2'⟩;refine .inl ⟨_,_,_,rfl,λq L D x w3=>Still w1 w3/\(x=0/\L=0/\aS w3 w1.heap.size bJ 1 (.slice q L D) L []\/x=1/\L=l1.length/\aS w3 w1.heap.size bJ 1 (.slice q L D) L (strs l1)\/x=2/\L=(l1++l2).length/\aS w3 w1.heap.size bJ 1 (.slice q L D) L (strs (l1++l2))),λ_ _ _ x _=>(2-x).toNat,⟨h2',.inl ⟨rfl,rfl,ie⟩⟩,?_⟩;rintro q L D x _ w3 ⟨s3,hx⟩;have hz:=s3.size;have app:∀{l:List ag} {p':Option Addr} {K:Option Addr->Nat->World->Prop} {L:Nat} {xs:List Value},aS w3 w1.heap.size bJ 1 (.slice q L D) L xs->cZ w1 p' l.length l->L+l.length<1000000->(∀p c w4,aS w4 w1.heap.size bJ 1 (.slice p (L+l.length) c) (L+l.length) (xs++strs l)->Still w1 w4->K p c w4)->eW w3 bJ 1 16 q L D p' l.length K:=by intro l p' K L xs ho hst hlen hK;have uZ:=hst.still s3;refine rT ho hz (strs l) (by simp[strs]) (λu hu=>by obtain⟨x,_,rfl⟩:=dM.1 hu;rfl) (λhp=>uZ.2 hp) (by omega) (by omega) λp c w4 o4 m4 bk=>hK p c w4 o4 (Mod.trans s3 m4 (λ_ h=>h) λi hi hk=>by have:=(ho.lt i hk).1;omega)
  refine ax (λhl=>?_) (λhl=>?_)
  .have hl:x<2:=by simpa using hl
   rcases hx with⟨rfl,rfl,o⟩|⟨rfl,rfl,o⟩|⟨rfl,rfl,o⟩
   .refine⟨by decide,by decide,_,_,_,(cl s3).1,app o h1 (by omega) λp c w4 o4 s4=>⟨⟨s4,.inr (.inl ⟨by decide,by omega,?_⟩)⟩,by show(2-i64.wrap (0+1)).toNat<(2-(0:Int)).toNat;decide⟩⟩
    exact o4
   .refine⟨by decide,by decide,_,_,_,(cl s3).2,app o h2 (by omega) λp c w4 o4 s4=>⟨⟨s4,.inr (.inr ⟨by decide,by simp,?_⟩)⟩,by show(2-i64.wrap (1+1)).toNat<(2-(1:Int)).toNat;decide⟩⟩
    rw[KR];exact o4
   .omega
  .have hl:¬x<2:=by simpa using hl
   rcases hx with⟨rfl,rfl,o⟩|⟨rfl,rfl,o⟩|⟨rfl,rfl,o⟩
   .omega
   .omega
   .exact⟨q,D,rfl,o,s3⟩
end Go.Proofs.YtihaaoehhgmphaaGreatDoor
namespace Go.Proofs.YtihaaoehhgmphaaGreatDoor
open IntKind Go.RowKit Vc
variable{w:World}
def jS(c:UInt8)(nw s:List UInt8):List UInt8:=s.flatMap λb=>if b=c then nw else[b]
def KM(c:UInt8)(nw s t:List UInt8):jS c nw (s++t)=jS c nw s++jS c nw t:=by simp[jS]
def Gn{c:UInt8}{nw:List UInt8}:∀{s:List UInt8},s.count c=0->jS c nw s=s
 |[],_=>rfl
 |b::s,h=>by
  have hb:b≠c:=by rintro rfl;simp at h
  rw[JB hb]at h;have:=Gn (nw:=nw) h;simp only[jS,aIj,aH hb]at this⊢;rw[this];rfl
def KN{c:UInt8}{nw:List UInt8}:∀s:List UInt8,(jS c nw s).length+s.count c=s.length+nw.length*s.count c
 |[]=>by simp[jS]
 |b::s=>by
  have ih:=KN (c:=c) (nw:=nw) s;have e:jS c nw (b::s)=(if b=c then nw else[b])++jS c nw s:=rfl
  by_cases hb:b=c
  .subst hb
   rw[e,aN rfl,aHb,List.count_cons_self,a_,Nat.mul_add];omega
  .rw[e,aH hb,aHb,JB hb,a_]
   simp only[a_,cq];omega
def count_le{c:UInt8}(s:List UInt8):s.count c<=s.length:=List.count_le_length
def SY{c:UInt8}:∀{s:List UInt8},0<s.count c->∃k:Nat,Lib.indexByte s c=(k:Int)/\k<s.length/\(s.take k).count c=0/\s[k]?=some c
 |b::s,h=>by
  by_cases hb:b=c
  .subst hb
   exact⟨0,by simp[Lib.indexByte],by simp,by simp,rfl⟩
  .rw[JB hb]at h
   obtain⟨k,h1,h2,h3,h4⟩:=SY h;refine⟨k+1,?_,by simp;omega,by rw[List.take_succ_cons,JB hb];exact h3,by simpa using h4⟩;simp only[Lib.indexByte,h1];have:(b==c)=false:=by simpa using hb
   rw[this];have h2:(((k:Nat):Int)== -1)=false:=by rw[aLh];omega
   simp[h2]
def Gx:nV 86 2 0:=by unfold nV;kernel_rfl
def aoY(c:UInt8)(nw s:List UInt8)(hs:s.length<=1000000)(h0:nw≠[])(h1:nw.length<=100)(hne:nw≠[c]):
  an Qw #[.string (S s),.string (S [c]),.string (S nw),.int .i64 (-1)] w (λe w'=>e=.returned (.string (S (jS c nw s)))/\Still w w'):=by
 apply alx;have hcl:=count_le (c:=c) s;have hrl:=KN (c:=c) (nw:=nw) s;have CK:0<nw.length:=nj.2 h0;refine ax (λh=>absurd (aQ h).symm hne) (λ_=>ax (λh=>by simp at h) (λ_=>?_));refine⟨λm w1=>m=(s.count c:Int)/\0<s.count c/\w1=w,(Tryz.strings_Count_one (S s) c w).mono ?_,?_⟩
 .rintro _ w1 ⟨rfl,rfl⟩
  refine .inl ⟨_,rfl,ax (λh=>?_) (λh=>?_)⟩
  .have h:s.count c=0:=by have:=aQ h;exact Int.ofNat_eq_zero.1 this
   exact⟨by rw[Gn h],Mod.refl _ _⟩
  .have h:s.count c≠0:=by
    have:=aZ h;exact λe=>this (by show((Lib.countByte s c:Nat):Int)=0;unfold Lib.countByte;rw[e];rfl)
   refine⟨λx w2=>x=true/\w2=w1,ax (λ_=>⟨rfl,rfl⟩) (λh=>by simp at h),?_⟩;rintro _ _ w2 ⟨rfl,rfl⟩;exact ax (λ_=>⟨rfl,by omega,rfl⟩) (λh=>by cases h)
 rintro _ _ w1 ⟨rfl,hpos,rfl⟩;have hmul:nw.length*s.count c<=100*1000000:=Nat.mul_le_mul h1 (by omega);have ay8:s.count c*nw.length=nw.length*s.count c:=Q8 _ _;have aFu:s.count c<=nw.length*s.count c:=Nat.le_mul_of_pos_left _ CK;have eg:i64.wrap ((s.length:Int)+i64.wrap ((s.count c:Int)*i64.wrap ((nw.length:Int)-(([c]:List UInt8).length:Int))))=((s.length+(nw.length*s.count c-s.count c):Nat):Int):=by
  have e1:i64.wrap ((nw.length:Int)-(([c]:List UInt8).length:Int))=((nw.length-1:Nat):Int):=by simp only[a_,cq];rw[wrap_i64 (by omega) (by omega)];omega
  have e2:(s.count c:Int)*((nw.length-1:Nat):Int)=((nw.length*s.count c-s.count c:Nat):Int):=by rw[<-Int.natCast_mul,Nat.mul_sub,aHA,ay8]
  have e3:=wrap_i64 (n:=((nw.length*s.count c-s.count c:Nat):Int)) (by omega) (by omega);rw[e1,e2,e3,wrap_i64 (by omega) (by omega)];omega
 rw[eg];show cP _ _
 unfold cP;have hbk:(w1.alloc (.cells #[(.pointer none),(.slice none 0 0)] 86)).heap[w1.heap.size]?=some (.cells #[(.pointer none),(.slice none 0 0)] 86 (0,0)):=heap_alloc_new w1 _;have hsz:(w1.alloc (.cells #[(.pointer none),(.slice none 0 0)] 86)).heap.size=w1.heap.size+1:=World.size_alloc ..;have uY:Still w1 (w1.alloc (.cells #[(.pointer none),(.slice none 0 0)] 86)):=(Mod.refl _ _).alloc _;generalize hw2:w1.alloc (.cells #[(.pointer none),(.slice none 0 0)] 86)=w2 at*;refine(Tryz.Builder_Grow_fresh w1.heap.size w1.heap.size _ w2 (aR _) hbk (by omega) (by omega)).mono ?_;rintro _ w3 ⟨rfl,Wo,aIr⟩;refine .inl ⟨rfl,ax (λ_=>?_) (λh=>by simp at h)⟩;obtain⟨_,v3,aAc,ay9,aAd⟩:=Wo;have uZ:Still w1 w3:=uY.trans' aIr (by omega);have hB:aID w3 86 w1.heap.size 0 w1.heap.size [.pointer (some ⟨w1.heap.size,0,none⟩),v3] v3 []:=⟨Row.VF aAc,.inr rfl,rfl,aS.of ay9,aAd⟩;have l1:∀a b,nV 86 (([a,b]:List Value).length) 0:=λ_ _=>Gx;refine⟨λst i w4=>∃(k n:Nat) (v:Value),st=(k:Int)/\i=(n:Int)/\k<=s.length/\n=(s.take k).count c/\n<=s.count c/\aID w4 86 w1.heap.size 0 w1.heap.size [.pointer (some ⟨w1.heap.size,0,none⟩),v] v (jS c nw (s.take k))/\Still w1 w4,
  λ_ i _=>s.count c-i.toNat,⟨0,0,v3,rfl,rfl,dU _,rfl,dU _,hB,uZ⟩,?_⟩
 rintro _ _ _ w4 ⟨k,n,v,rfl,rfl,hk,hn,hnm,NW,aHS⟩;have aFo:(s.take k).count c+(s.drop k).count c=s.count c:=by rw[<-Qg,aIh]
 have Wp:=KM c nw (s.take k) (s.drop k);rw[aIh]at Wp;have aAe:(jS c nw (s.take k)).length+(jS c nw (s.drop k)).length=(jS c nw s).length:=by rw[Wp,aHb]
 have hdl:(s.drop k).length=s.length-k:=j_;have hrd:=KN (c:=c) (nw:=nw) (s.drop k);simp only[bW];refine ax (λhx=>?_) (λhx=>?_)
 .have hx:n<s.count c:=by have:=aQ hx;omega
  obtain⟨j,hj1,hj2,hj3,Wq⟩:=SY (c:=c) (s:=s.drop k) (by omega);have hkj:s.drop k=(s.drop k).take j++c::s.drop (k+j+1):=by
   have h:=(iw.1 Wq);obtain⟨h,h'⟩:=h
   conv=>lhs;rw[<-aIh j (s.drop k)]
   rw[qM h,h',Bo];rfl
  have D4:s.take (k+j+1)=s.take k++((s.drop k).take j++[c]):=by have h:=(iw.1 Wq);obtain⟨h,h'⟩:=h;rw[FX,List.take_add,FH,Wq];rfl
  have hrt:jS c nw (s.take (k+j+1))=jS c nw (s.take k)++(s.drop k).take j++nw:=by rw[D4,KM,KM,Gn hj3,j9];simp[jS]
  have aAf:(jS c nw (s.take (k+j+1))).length<=(jS c nw s).length:=by have:=KM c nw (s.take (k+j+1)) (s.drop (k+j+1));rw[aIh]at this;rw[this,aHb];omega
  rw[hrt,aHb,aHb]at aAf;refine⟨by omega,by omega,(Tryz.strings_Index_one (S (s.drop k)) c w4).mono ?_⟩;rintro _ w5 ⟨rfl,rfl⟩;have e5:Lib.indexByte (S (s.drop k)).data.toList c=(j:Int):=hj1;rw[e5];have ej:i64.wrap ((k:Int)+(j:Int))=((k+j:Nat):Int):=wI;have ej1:i64.wrap (((k+j:Nat):Int)+(([c]:List UInt8).length:Int))=((k+j+1:Nat):Int):=by simp only[a_,cq];rw[wrap_i64 (by omega) (by omega)];omega
  have en:i64.wrap ((n:Int)+1)=((n+1:Nat):Int):=wI;refine .inl ⟨_,rfl,by omega,by rw[ej];omega,by rw[ej];omega,?_⟩;rw[ej,ej1,en,bW,Bk];refine(Kf NW (l1 _ _) _ (by have:=aHS.size;omega) (by omega)).mono ?_;rintro _ w6 ⟨rfl,v6,CP,_,lZ⟩;have aKp:Still w1 w6:=Mod.trans aHS lZ (λ_ h=>h) (λi hi e=>by
   rcases e with rfl|e
   .omega
   .have:=NW.own.nu e;omega)
  refine .inl ⟨_,_,rfl,rfl,(Kf CP (l1 _ _) nw (by have:=aKp.size;omega) (by rw[aHb];omega)).mono ?_⟩;rintro _ w7 ⟨rfl,v7,hB7,_,ES⟩;have aAg:Still w1 w7:=Mod.trans aKp ES (λ_ h=>h) (λi hi e=>by
   rcases e with rfl|e
   .omega
   .have:=CP.own.nu e;omega)
  refine .inl ⟨_,_,rfl,rfl,⟨k+j+1,n+1,v7,rfl,rfl,by omega,?_,hx,?_,aAg⟩,by omega⟩
  .rw[D4,Qg,Qg,hj3,hn]
   simp
  .rw[hrt]
   exact hB7
 .have hx:n=s.count c:=by have:=aZ hx;omega
  have hd0:(s.drop k).count c=0:=by omega
  refine⟨by omega,by omega,(Kf NW (l1 _ _) _ (by have:=aHS.size;omega) (by rw[Gn hd0]at aAe;omega)).mono ?_⟩;rintro _ w6 ⟨rfl,v6,CP,_,lZ⟩;have aKp:Still w1 w6:=Mod.trans aHS lZ (λ_ h=>h) (λi hi e=>by
   rcases e with rfl|e
   .omega
   .have:=NW.own.nu e;omega)
  have e:jS c nw (s.take k)++s.drop k=jS c nw s:=by rw[Wp,Gn hd0]
  rw[e]at CP;have hnil:jS c nw s≠[]:=by intro e;rw[e]at hrl;simp only[cq]at hrl;omega
  refine .inl ⟨_,_,rfl,rfl,(aKa (CP.roomy hnil) (by omega)).mono ?_⟩;rintro _ w7 ⟨rfl,ES⟩;exact .inl ⟨_,rfl,rfl,Mod.trans aKp ES (λ_ h=>h) (λi hi e=>by have:=CP.own.nu e;omega)⟩
def Y2(c:UInt8)(nw s:List UInt8)(hs:s.length<=1000000)(h0:nw≠[])(h1:nw.length<=100)(hne:nw≠[c]):
  an JM #[.string (S s),.string (S [c]),.string (S nw)] w (λe w'=>e=.returned (.string (S (jS c nw s)))/\Still w w'):=by
 refine aku _ _ _ _ _ ((aoY c nw s hs h0 h1 hne).mono ?_);rintro _ w1 ⟨rfl,h⟩;exact .inl ⟨_,rfl,rfl,h⟩
end Go.Proofs.YtihaaoehhgmphaaGreatDoor
namespace Go.Proofs.YtihaaoehhgmphaaGreatDoor.F
open IntKind Go.RowKit Vc
def aJM(s:ag):ag:=jS 92 [92,92] s
def escape(s:ag):ag:=s.flatMap λc=>[92,c]
def DF(s:ag):(aJM s).length<=2*s.length:=by have h:=KN (c:=92) (nw:=[92,92]) s;have:=count_le (c:=92) s;simp only[a_,cq]at h;unfold aJM;omega
def K5(s:ag):(escape s).length=2*s.length:=by
 unfold escape
 induction s with
 |nil=>rfl
 |cons a r ih=>simp only[aIj,aHb,ih,a_,cq];omega
structure Sg where
 kind:Nat
 text:ag
structure St where
 out:List ag
 cur:ag
 has:Bool
 ze:Bool
def St.zero:St:=⟨[],[],false,false⟩
def St.put(x:St)(p:ag):St:=⟨x.out,x.cur++p,true,false⟩
def St.fin(x:St):St:=⟨x.out++[x.cur],[],false,x.ze⟩
def St.mark(x:St)(g:Bool):St:=⟨x.out,x.cur,x.has,g⟩
def blank(c:UInt8):Bool:=decide (c=32)||decide (c=9)||decide (c=10)
def uO(ifs:ag)(x:St)(c:UInt8):St:=
 if decide (c∈ifs)=true then
  if blank c=true then(if x.has=true then x.fin.mark true else x)
  else if x.has=true\/x.ze=false then x.fin.mark false else x.mark false
 else x.put (aJM [c])
def se(ifs:ag)(x:St)(s:ag):St:=s.foldl (uO ifs) x
def mh(ifs:ag)(x:St)(p:Sg):St:=
 if p.kind=0 then(if p.text=[]then x else x.put (aJM p.text))
 else if p.kind=1 then x.put (escape p.text)
 else if p.kind=2 then se ifs x p.text
 else if p.kind=3 then(if x.has=true then x.fin.mark false else x.mark false)
 else x
def U9(x:St):List ag:=if x.has=true then x.fin.out else x.out
def yI(ifs:ag)(l:List Sg):St:=l.foldl (mh ifs) St.zero
def nR(ifs:ag)(l:List Sg):List ag:=U9 (yI ifs l)
def aIv(p:Bool)(x:Sg):ag:=if x.kind=3 then[32]else if p=true then(if x.kind=1 then escape x.text else aJM x.text)else x.text
def joined(p:Bool)(l:List Sg):ag:=l.flatMap (aIv p)
def St.size(x:St):Nat:=(x.out.map (λt=>t.length+1)).sum+x.cur.length
def St.size_put(x:St)(p:ag):(x.put p).size=x.size+p.length:=by simp[St.size,St.put];omega
def St.ac0(x:St):x.fin.size=x.size+1:=by simp[St.size,St.fin];omega
def St.ab0(x:St)(g:Bool):(x.mark g).size=x.size:=rfl
def aq7(ifs:ag)(x:St)(c:UInt8):(uO ifs x c).size<=x.size+2:=by
 unfold uO;have h1:=DF [c];simp only[a_,cq]at h1
 repeat' split
 all_goals try simp only[St.ab0,St.ac0,St.size_put]
 all_goals omega
def RL(ifs:ag):∀(s:ag) (x:St),(se ifs x s).size<=x.size+2*s.length
 |[],x=>aR _
 |c::s,x=>by have h1:=aq7 ifs x c;have h2:=RL ifs s (uO ifs x c);simp only[se,aJ4,a_]at h2⊢;omega
def aq8(ifs:ag)(x:St)(p:Sg):(mh ifs x p).size<=x.size+2*p.text.length+1:=by
 unfold mh;have h1:=DF p.text;have h2:=K5 p.text;have h3:=RL ifs p.text x
 repeat' split
 all_goals try simp only[St.ab0,St.ac0,St.size_put]
 all_goals omega
def awU(x:St):x.out.length<=x.size:=by
 unfold St.size;have:∀l:List ag,l.length<=(l.map (λt=>t.length+1)).sum:=by
  intro l
  induction l with
  |nil=>exact aR _
  |cons a l ih=>simp only[gi,rP,a_];omega
 have:=this x.out;omega
def TD(x:St):x.cur.length<=x.size:=Nat.le_add_left _ _
def aeX:ag:=[32,9,10]
def GG(c:UInt8):decide (c∈aeX)=blank c:=by
 simp only[aeX,gE,ug,uh,blank]
 by_cases h1:c=32<;>by_cases h2:c=9<;>by_cases h3:c=10<;>simp[h1,h2,h3]
end Go.Proofs.YtihaaoehhgmphaaGreatDoor.F
namespace Go.Proofs.YtihaaoehhgmphaaGreatDoor.F
open IntKind Go.RowKit Vc
variable{w:World}
def apH(l:ag)(c:UInt8):escape (l++[c])=escape l++[92,c]:=by simp[escape]
def Z_(s:ag)(hs:s.length<1000000):an Kb #[.string (S s)] w (λe w'=>e=.returned (.string (S (escape s)))/\Still w w'):=by
 apply alZ;have e1:i64.wrap (2*(s.length:Int))=((2*s.length:Nat):Int):=wI;unfold YD;rw[e1,bW];have hmk:aS (w.alloc (.cells (madeCells #[(.int .u8 (0:Int))] (2*s.length*1)) 5)) w.heap.size 5 1 (.slice (some ⟨w.heap.size,0,none⟩) 0 (2*s.length)) 0 []:=
  ⟨rfl,.inr ⟨w.heap.size,_,_,rfl,aR _,Row.new w _ _,by omega,by simp only[maxLen];omega,by rw[size_madeCells],rfl⟩⟩
 refine⟨by decide,by omega,by omega,by omega,mg ⟨λp L C x w1=>∃i:Nat,x=(i:Int)/\i<=s.length/\L=2*i/\aS w1 w.heap.size 5 1 (.slice p L C) L (bc (escape (s.take i)))/\Still w w1,λ_ _ _ x _=>s.length-x.toNat,
  ⟨0,rfl,by omega,rfl,hmk,(Mod.refl _ _).alloc _⟩,?_⟩⟩
 rintro p _ C _ _ w1 ⟨i,rfl,hi,rfl,ho,hst⟩;refine ax (λhx=>?_) (λhx=>?_)
 .have hx:i<s.length:=by have:=aQ hx;omega
  refine⟨by omega,s[i],by rw[bW];exact getD_some hx,aO λw2 hr2 hs2 gU=>?_⟩;refine rT (ho.still hs2) (by have:=hst.size;omega) (bc [92,s[i]]) rfl (TR _) (λ_=>⟨_,rfl,λj u hu=>?_⟩) (by omega) (by omega) λp' c' w3 oX dx _=>?_
  .rw[bM,cL]
   exact hr2.ai hu
  .have e2:i64.wrap ((i:Int)+1)=((i+1:Nat):Int):=wI
   rw[e2];refine⟨⟨i+1,rfl,hx,by omega,?_,(hst.trans hs2).own (ho.still hs2) (aR _) dx⟩,by dsimp only;omega⟩;rw[DJ hx,apH,Gr];exact oX
 .have hx:i=s.length:=by have:=aZ hx;omega
  subst hx;rw[aH0]at ho;exact⟨escape s,ho.bytes,rfl,hst⟩
def RM(s:ag)(hs:s.length<=1000000):an FW #[.string (S s)] w (λe w'=>e=.returned (.string (S (aJM s)))/\Still w w'):=by refine amd _ _ _ ((Y2 92 [92,92] s hs (by decide) (by decide) (by decide)).mono ?_);rintro _ w1 ⟨rfl,h⟩;exact .inl ⟨_,rfl,rfl,h⟩
def BO(x:Sg):List Value:=[.int .i64 (x.kind:Int),.string (S x.text)]
def CQ(l:List Sg):List Value:=l.flatMap BO
def Ai(w:World)(p:Option Addr)(n:Nat)(l:List Sg):Prop:=l.length=n/\At w p n (CQ l)
def Ai.get{p:Option Addr}{n:Nat}{l:List Sg}(h:Ai w p n l){k:Nat}(hk:k<n):∃a x,p=some a/\l[k]?=some x/\w.cell? (a.add (k*2))=some (.int .i64 (x.kind:Int))/\w.cell? ((a.add (k*2)).add 1)=some (.string (S x.text)):=by obtain⟨h1,h2⟩:=h;obtain⟨a,rfl,h3⟩:=h2 (by omega);have hx:=getD_some (p:=l) (i:=k) (by omega);refine⟨a,_,rfl,hx,h3 _ _ (by have:=DN (f:=BO) (sz:=2) (λ_=>rfl) hx 0 (by decide);exact this),?_⟩;rw[sx];exact h3 _ _ (by have:=DN (f:=BO) (sz:=2) (λ_=>rfl) hx 1 (by decide);exact this)
def Ai.still{w':World}{p:Option Addr}{n:Nat}{l:List Sg}(h:Ai w p n l)(hm:Still w w'):Ai w' p n l:=⟨h.1,h.2.still hm⟩
structure ay_(w:World)(g:Nat)(ifs:ag)(x:St)(q:Option Addr)(v:Value)(pa:Option Addr)(co:Nat):Prop where
 gW:aHt w 407 g 2 (g+1) [.string (S ifs),.slice pa x.out.length co,.pointer q,v,.bool x.has,.bool x.ze] v x.cur
 own:aS w (g+1) 9 1 (.slice pa x.out.length co) x.out.length (strs x.out)
def j6(w:World)(g:Nat)(ifs:ag)(x:St):Prop:=∃q v pa co,ay_ w g ifs x q v pa co
def awV:nV 407 6 2:=by unfold nV;kernel_rfl
abbrev Up(g:Nat)(w w':World):Prop:=Mod (λk=>g<=k) w w'
def Up.trans{g:Nat}{a b c:World}(h:Up g a b)(k:Up g b c):Up g a c:=Mod.trans h k (λ_ h=>h) (λ_ _ h=>h)
def Up.refl(g:Nat)(w:World):Up g w w:=Mod.refl _ _
def Up.of{g:Nat}{a b:World}(h:Still a b):Up g a b:=h.weaken (λ_ h=>h.elim)
def j6.still{w':World}{g:Nat}{ifs:ag}{x:St}(h:j6 w g ifs x)(hm:Still w w'):j6 w' g ifs x:=by obtain⟨q,v,pa,co,h1,h2⟩:=h;exact⟨q,v,pa,co,h1.still hm,h2.still hm⟩
def j6.lt{g:Nat}{ifs:ag}{x:St}(h:j6 w g ifs x):g<w.heap.size:=by obtain⟨q,v,pa,co,h1,h2⟩:=h;exact h1.row.lt
def vR{g:Nat}{ifs:ag}{x:St}(h:j6 w g ifs x)(p:ag)(hs:x.cur.length+p.length<=1000000000):
  an Fz #[.pointer (some ⟨g,0,none⟩),.string (S p)] w (λe w'=>e=.returned (.tuple #[])/\j6 w' g ifs (x.put p)/\Up g w w'):=by
 have hlt:=h.lt;obtain⟨q,v,pa,co,hb,ho⟩:=h;apply akp;show Calls _ _ #[.pointer (some (Addr.add _ 2)),_] _ _
 rw[bM];refine(Bp hb awV p hlt (by omega)).mono ?_;rintro _ w1 ⟨rfl,v1,gy,dX⟩;have mS:=ho.mod dX (λk hk e=>by
  rcases e with rfl|e
  .exact ho.c7 hb.row (by decide) hk
  .exact ho.apart hb.own (by decide) hk e)
 have hu1:Up g w w1:=dX.weaken (λk e=>by
  rcases e with rfl|e
  .exact aR _
  .have:=hb.own.nu e;omega)
 refine .inl ⟨_,_,rfl,rfl,?_⟩;show cA (Addr.add _ 4) _ _ _ _
 rw[bM];refine bF gy.row λw2 hr2 hm2 gU=>?_;show cA (Addr.add _ 5) _ _ _ _
 rw[bM];have fO:=gy.other hr2 hm2 rfl rfl;have ie:=mS.mod hm2 (λk hk e=>by subst e;exact mS.c7 gy.row (by decide) hk);refine dL hr2 (by simp[fF]) (by simp[Value.oneCell']) λw3 hr3 dx rA=>⟨rfl,?_,?_⟩
 .have aIr:=fO.other hr3 dx rfl rfl
  exact⟨_,_,_,_,aIr,ie.mod dx (λk hk e=>by subst e;exact ie.c7 hr2 (by decide) hk)⟩
 .exact(hu1.trans (hm2.weaken (λk e=>by omega))).trans (dx.weaken (λk e=>by omega))
def GH{g:Nat}{ifs:ag}{x:St}(h:j6 w g ifs x)(hs:x.size<=1000000000):
  an Bn #[.pointer (some ⟨g,0,none⟩)] w (λe w'=>e=.returned (.tuple #[])/\j6 w' g ifs x.fin/\Up g w w'):=by
 have hlt:=h.lt;have hf1:=awU x;have hf2:=TD x;obtain⟨q,v,pa,co,hb,ho⟩:=h;apply akl;refine⟨λwq=>Row wq g 407 ⟨[.string (S ifs),.slice pa x.out.length co,.pointer q,v,.bool x.has,.bool x.ze]⟩,hb.row,_,_,_,λwq hq=>by rw[bM];exact hq.ai rfl,?_⟩;show Calls _ _ #[.pointer (some (Addr.add _ 2))] _ _
 rw[bM];have hbd:aHt w.drew 407 g 2 (g+1) [.string (S ifs),.slice pa x.out.length co,.pointer q,v,.bool x.has,.bool x.ze] v x.cur:=hb.still (Still.refl w).cG;refine(aKa hbd (by omega)).mono ?_;rintro _ w1 ⟨rfl,dX⟩;have cy:=hbd.row.mod dX (λe=>hb.ne e);have CR:=ho.still (Still.refl w).cG;have mS:=CR.mod dX (λk hk e=>ho.apart hb.own (by decide) hk e);have hu1:Up g w w1:=Mod.trans (Still.refl w).cG dX (λ_ h=>h.elim) (λk _ e=>by have:=hb.own.nu e;omega);refine .inl ⟨_,rfl,cy,aO λw2 hr2 hs2 gU=>⟨cy.still hs2,?_⟩⟩;refine rT (mS.still hs2) (by have:=cy.lt;omega) [.string (S x.cur)] rfl (one_one rfl) (λ_=>⟨_,rfl,λj u hu=>?_⟩) (by omega) (by omega) λp' c' w3 oX dx aIr=>?_
 .rw[bM,cL]
  exact hr2.ai hu
 have ie:=mS.still hs2;have hr3:=(cy.still hs2).mod dx (λe=>ie.c7 (cy.still hs2) (by decide) e);have zf:Up g w w3:=(hu1.trans (Up.of hs2)).trans (dx.weaken (λk e=>by have:=ie.nu e;omega));show cA (Addr.add _ 1) _ _ _ _
 rw[bM];refine bF hr3 λw4 hr4 lY A6=>?_;have qA:=oX.mod lY (λk hk e=>by subst e;exact oX.c7 hr3 (by decide) hk);show Calls _ _ #[.pointer (some (Addr.add _ 2))] _ _
 rw[bM];refine(aqL (B:=g+1) (o:=2) hr4 (by simp[fF])).mono ?_;rintro _ w5 ⟨rfl,zg,tR⟩;have rE:=qA.mod tR (λk hk e=>by subst e;exact qA.c7 hr4 (by decide) hk);refine .inl ⟨rfl,?_⟩;show cA (Addr.add _ 4) _ _ _ _
 rw[bM];refine dL zg.row (by simp[fF]) (by simp[Value.oneCell']) λw6 wJ lZ A4=>⟨rfl,?_,?_⟩
 .have zh:=zg.other wJ lZ rfl rfl
  have aJT:=rE.mod lZ (λk hk e=>by subst e;exact rE.c7 zg.row (by decide) hk);refine⟨none,.slice none 0 0,p',c',?_,?_⟩
  .have e:x.fin.out.length=x.out.length+1:=by simp[St.fin]
   rw[e];exact zh
  .have e:x.fin.out.length=x.out.length+1:=by simp[St.fin]
   have e2:strs x.fin.out=strs x.out++[.string (S x.cur)]:=by simp[St.fin,strs]
   rw[e,e2];exact aJT
 .exact((zf.trans (lY.weaken (λk e=>by omega))).trans (tR.weaken (λk e=>by omega))).trans (lZ.weaken (λk e=>by omega))
end Go.Proofs.YtihaaoehhgmphaaGreatDoor.F
namespace Go.Proofs.YtihaaoehhgmphaaGreatDoor.F
open IntKind Go.RowKit Vc
variable{w:World}
def _root_.Go.Proofs.YtihaaoehhgmphaaGreatDoor.Still.up{w w1 w2:World}{g:Nat}(h:Still w w1)(hm:Up g w1 w2)(hg:w.heap.size<=g):Still w w2:=Mod.trans h hm (λ_ h=>h) (λi hi e=>by omega)
section
variable{g:Nat}{ifs:ag}{x:St}
def j6.c0(h:j6 w g ifs x):w.cell? ⟨g,0,none⟩=some (.string (S ifs)):=by obtain⟨q,v,pa,co,hb,ho⟩:=h;exact hb.row.ai rfl
def j6.c4(h:j6 w g ifs x):w.cell? ((Addr.mk g 0 none).add 4)=some (.bool x.has):=by obtain⟨q,v,pa,co,hb,ho⟩:=h;rw[bM];exact hb.row.ai rfl
def j6.c5(h:j6 w g ifs x):w.cell? ((Addr.mk g 0 none).add 5)=some (.bool x.ze):=by obtain⟨q,v,pa,co,hb,ho⟩:=h;rw[bM];exact hb.row.ai rfl
def Ex{K:World->Prop}(h:j6 w g ifs x)(b:Bool)(hK:∀w',j6 w' g ifs (x.mark b)->Up g w w'->K w'):cA ((Addr.mk g 0 none).add 5) K 0 [.bool b] w:=by obtain⟨q,v,pa,co,hb,ho⟩:=h;rw[bM];refine bF hb.row λw3 hr3 dx rA=>hK _ ⟨q,v,pa,co,hb.other hr3 dx rfl rfl,ho.mod dx (λk hk e=>by subst e;exact ho.c7 hb.row (by decide) hk)⟩ (dx.weaken (λk e=>by omega))
def Dy(s:ag)(c:UInt8):an JX #[.string (S s),.string (S [c])] w (λe w'=>e=.returned (.bool (decide (c∈s)))/\w'=w):=by
 refine(Tryz.strings_Contains_one (S s) c w).mono ?_;rintro _ w1 ⟨rfl,rfl⟩;refine⟨?_,rfl⟩;have e:decide (0<=Lib.indexByte (S s).data.toList c)=decide (c∈s):=by
  show decide (0<=Lib.indexByte s c)=_
  by_cases h:c∈s
  .obtain⟨k,hk,_⟩:=SY (List.count_pos_iff.2 h)
   rw[hk,jc h,jc (by omega)]
  .have h1:=Lib.indexByte_ge s c
   rw[fY h,fY];intro h0;obtain⟨o,ho⟩:=O6 h0;exact h (uf (Lib.indexByte_some ho).1)
 rw[e]
def avn{c:UInt8}(h:decide (c∈ifs)=true):uO ifs x c=if blank c=true then(if x.has=true then x.fin.mark true else x)else if x.has=true\/x.ze=false then x.fin.mark false else x.mark false:=by unfold uO;rw[aN h]
def apI(s:ag)(c:UInt8):se ifs x (s++[c])=uO ifs (se ifs x s) c:=by simp[se]
def K4(h:j6 w g ifs x)(s:ag)(hs:x.size+2*s.length<=1000000)(hi:ifs.length<=1000000):
  an Pj #[.pointer (some ⟨g,0,none⟩),.string (S s)] w (λe w'=>e=.returned (.tuple #[])/\j6 w' g ifs (se ifs x s)/\Up g w w'):=by
 apply ajO;refine⟨λi w1=>∃k:Nat,i=(k:Int)/\k<=s.length/\j6 w1 g ifs (se ifs x (s.take k))/\Up g w w1,λi _=>s.length-i.toNat,⟨0,rfl,dU _,h,Up.refl _ _⟩,?_⟩;rintro _ _ w1 ⟨k,rfl,hk,hsp,hu⟩;refine ax (λhx=>?_) (λhx=>?_)
 .have hx:k<s.length:=by have:=aQ hx;omega
  have e1:i64.wrap ((k:Int)+1)=((k+1:Nat):Int):=wI;rw[e1];simp only[bW];rw[aqx hx];have hsz:=RL ifs (s.take k) x;have hstep:se ifs x (s.take (k+1))=uO ifs (se ifs x (s.take k)) s[k]:=by rw[DJ hx,apI]
  rw[eZ,Dq (by omega)]at hsz;generalize se ifs x (s.take k)=y at*;generalize s[k]=c at*;have next:∀w',j6 w' g ifs (uO ifs y c)->Up g w1 w'->(∃j:Nat,((k+1:Nat):Int)=(j:Int)/\j<=s.length/\j6 w' g ifs (se ifs x (s.take j))/\Up g w w')/\s.length-(k+1)<s.length-k:=
   λw' h1 h2=>⟨⟨k+1,rfl,hx,by rw[hstep];exact h1,hu.trans h2⟩,by omega⟩
  refine⟨by omega,by omega,by omega,_,hsp.c0,(Dy ifs c).mono ?_⟩;rintro _ w2 ⟨rfl,rfl⟩;refine .inl ⟨_,rfl,ax (λhin=>?_) (λhin=>?_)⟩
  .have hin:¬decide (c∈ifs)=true:=by simpa using hin
   have he:uO ifs y c=y.put (aJM [c]):=by unfold uO;rw[aH hin]
   rw[he]at next;refine(RM [c] (by simp)).mono ?_;rintro _ w3 ⟨rfl,hs3⟩;have hal:=DF [c];simp only[a_,cq]at hal;have aLe:=TD y;refine .inl ⟨_,rfl,(vR (hsp.still hs3) _ (by omega)).mono ?_⟩;rintro _ w4 ⟨rfl,hs4,vl⟩;exact .inl ⟨rfl,next _ hs4 ((Up.of hs3).trans vl)⟩
  .have hin:decide (c∈ifs)=true:=by simpa using hin
   have he:=avn (x:=y) hin;refine(Dy [32,9,10] c).mono ?_;rintro _ w3 ⟨rfl,rfl⟩;refine .inl ⟨_,rfl,ax (λhb=>⟨_,hsp.c4,ax (λhh=>?_) (λhh=>?_)⟩) (λhb=>⟨_,hsp.c4,ax (λhh=>?_) (λhh=>⟨_,hsp.c5,ax (λhg=>?_) (λhg=>?_)⟩)⟩)⟩
   .have hb:blank c=true:=by rw[<-GG];exact hb
    rw[aN hb,aN hh]at he;rw[he]at next;refine(GH hsp (by omega)).mono ?_;rintro _ w4 ⟨rfl,hs4,vl⟩;exact .inl ⟨rfl,Ex hs4 true λw5 hs5 vm=>next _ hs5 (vl.trans vm)⟩
   .have hb:blank c=true:=by rw[<-GG];exact hb
    rw[aN hb,aH (by rw[hh];decide)]at he;rw[he]at next;exact next _ hsp (Up.refl _ _)
   .have hb:¬blank c=true:=by rw[<-GG];exact λe=>by rw[show decide (c∈[32,9,10])=true from e]at hb;cases hb
    rw[aH hb,aN (.inl hh)]at he;rw[he]at next;refine ax (λ_=>?_) (λh=>by rw[hh]at h;cases h);refine(GH hsp (by omega)).mono ?_;rintro _ w4 ⟨rfl,hs4,vl⟩;exact .inl ⟨rfl,Ex hs4 false λw5 hs5 vm=>next _ hs5 (vl.trans vm)⟩
   .have hb:¬blank c=true:=by rw[<-GG];exact λe=>by rw[show decide (c∈[32,9,10])=true from e]at hb;cases hb
    have hg:y.ze=false:=by simpa using hg
    rw[aH hb,aN (.inr hg)]at he;rw[he]at next;refine(GH hsp (by omega)).mono ?_;rintro _ w4 ⟨rfl,hs4,vl⟩;exact .inl ⟨rfl,Ex hs4 false λw5 hs5 vm=>next _ hs5 (vl.trans vm)⟩
   .have hb:¬blank c=true:=by rw[<-GG];exact λe=>by rw[show decide (c∈[32,9,10])=true from e]at hb;cases hb
    have hg:y.ze=true:=by simpa using hg
    rw[aH hb,aH (by rw[hh,hg];decide)]at he;rw[he]at next;exact Ex hsp false λw5 hs5 vm=>next _ hs5 vm
 .have hx:k=s.length:=by have:=aZ hx;omega
  subst hx;rw[aH0]at hsp;exact⟨rfl,hsp,hu⟩
def qX(h:j6 w g ifs x)(p:Sg)(hs:x.size+2*p.text.length<=900000)(hi:ifs.length<=1000000):
  an Pv #[.pointer (some ⟨g,0,none⟩),.agg #[.int .i64 (p.kind:Int),.string (S p.text)]] w (λe w'=>e=.returned (.tuple #[])/\j6 w' g ifs (mh ifs x p)/\Up g w w'):=by
 apply ajX;have aLe:=TD x;refine aO λw1 cy hs1 hz1=>⟨_,cy.ai rfl,?_⟩;have h1:=h.still hs1;have hu1:Up g w w1:=Up.of hs1;have hal:=DF p.text;have hel:=K5 p.text;refine ax (λhk=>⟨_,cy.ai rfl,ax (λht=>⟨_,cy.ai rfl,?_⟩) (λht=>?_)⟩) (λhk=>ax (λhk1=>⟨_,cy.ai rfl,?_⟩) (λhk1=>ax (λhk2=>⟨_,cy.ai rfl,?_⟩) (λhk2=>ax (λaIs=>⟨_,h1.c4,ax (λhh=>?_) (λhh=>?_)⟩) (λaIs=>?_))))
 .have hk:p.kind=0:=by have:=aQ hk;omega
  have ht:p.text≠[]:=by simpa using ht
  have e:mh ifs x p=x.put (aJM p.text):=by unfold mh;rw[aN hk,aH ht]
  rw[e];refine(RM _ (by omega)).mono ?_;rintro _ w2 ⟨rfl,hs2⟩;refine .inl ⟨_,rfl,(vR (h1.still hs2) _ (by omega)).mono ?_⟩;rintro _ w3 ⟨rfl,hs3,zf⟩;exact .inl ⟨rfl,rfl,hs3,(hu1.trans (Up.of hs2)).trans zf⟩
 .have hk:p.kind=0:=by have:=aQ hk;omega
  have ht:p.text=[]:=by simpa using ht
  have e:mh ifs x p=x:=by unfold mh;rw[aN hk,aN ht]
  rw[e];exact⟨rfl,h1,hu1⟩
 .have hk:¬p.kind=0:=by have:=aZ hk;omega
  have hk1:p.kind=1:=by have:=aQ hk1;omega
  have e:mh ifs x p=x.put (escape p.text):=by unfold mh;rw[aH hk,aN hk1]
  rw[e];refine(Z_ _ (by omega)).mono ?_;rintro _ w2 ⟨rfl,hs2⟩;refine .inl ⟨_,rfl,(vR (h1.still hs2) _ (by omega)).mono ?_⟩;rintro _ w3 ⟨rfl,hs3,zf⟩;exact .inl ⟨rfl,rfl,hs3,(hu1.trans (Up.of hs2)).trans zf⟩
 .have hk:¬p.kind=0:=by have:=aZ hk;omega
  have hk1:¬p.kind=1:=by have:=aZ hk1;omega
  have hk2:p.kind=2:=by have:=aQ hk2;omega
  have e:mh ifs x p=se ifs x p.text:=by unfold mh;rw[aH hk,aH hk1,aN hk2]
  rw[e];refine(K4 h1 _ (by omega) hi).mono ?_;rintro _ w3 ⟨rfl,hs3,zf⟩;exact .inl ⟨rfl,rfl,hs3,hu1.trans zf⟩
 .have hk:¬p.kind=0:=by have:=aZ hk;omega
  have hk1:¬p.kind=1:=by have:=aZ hk1;omega
  have hk2:¬p.kind=2:=by have:=aZ hk2;omega
  have aIs:p.kind=3:=by have:=aQ aIs;omega
  have e:mh ifs x p=x.fin.mark false:=by unfold mh;rw[aH hk,aH hk1,aH hk2,aN aIs,aN hh]
  rw[e];refine(GH h1 (by omega)).mono ?_;rintro _ w3 ⟨rfl,hs3,zf⟩;exact .inl ⟨rfl,Ex hs3 false λw5 hs5 vm=>⟨rfl,hs5,(hu1.trans zf).trans vm⟩⟩
 .have hk:¬p.kind=0:=by have:=aZ hk;omega
  have hk1:¬p.kind=1:=by have:=aZ hk1;omega
  have hk2:¬p.kind=2:=by have:=aZ hk2;omega
  have aIs:p.kind=3:=by have:=aQ aIs;omega
  have e:mh ifs x p=x.mark false:=by unfold mh;rw[aH hk,aH hk1,aH hk2,aN aIs,aH (by rw[hh];decide)]
  rw[e];exact Ex h1 false λw5 hs5 vm=>⟨rfl,hs5,hu1.trans vm⟩
 .have hk:¬p.kind=0:=by have:=aZ hk;omega
  have hk1:¬p.kind=1:=by have:=aZ hk1;omega
  have hk2:¬p.kind=2:=by have:=aZ hk2;omega
  have aIs:¬p.kind=3:=by have:=aZ aIs;omega
  have e:mh ifs x p=x:=by unfold mh;rw[aH hk,aH hk1,aH hk2,aH aIs]
  rw[e];exact⟨rfl,h1,hu1⟩
end
def fe(l:List Sg):Nat:=(l.map λp=>2*p.text.length+1).sum
def aq9(l m:List Sg):fe (l++m)=fe l+fe m:=by simp[fe]
def asX(ifs:ag)(l:List Sg)(p:Sg):yI ifs (l++[p])=mh ifs (yI ifs l) p:=by simp[yI]
def asY(ifs:ag)(l:List Sg):(yI ifs l).size<=fe l:=by
 have:∀(l:List Sg) (x:St),(l.foldl (mh ifs) x).size<=x.size+fe l:=by
  intro l
  induction l with
  |nil=>intro x;exact aR _
  |cons p l ih=>intro x;have h1:=aq8 ifs x p;have h2:=ih (mh ifs x p);simp only[aJ4,fe,gi,rP]at h2⊢;omega
 have:=this l St.zero;simp only[St.size,St.zero,qR,Ks,cq]at this;unfold yI;exact kf this (by omega)
def ac1{l:List Sg}{k:Nat}(h:k<l.length):fe (l.take k)+2*l[k].text.length+1<=fe l:=by
 have e:l=l.take k++l[k]::l.drop (k+1):=by rw[<-qM h,aIh]
 have:fe l=fe (l.take k)+fe (l[k]::l.drop (k+1)):=(fT fe e).trans (aq9 _ _);rw[this];simp only[fe,gi,rP];omega
def Told(w:World)(l:List ag)(e:Ending)(w':World):Prop:=∃q D,e=.returned (.slice q l.length D)/\cZ w' q l.length l/\Still w w'
def apJ{p:Option Addr}{n C:Nat}{l:List Sg}(h:Ai w p n l)(ifs:ag)(hn:n<=1000)(hl:fe l<=500000)(hi:ifs.length<=1000000):
  an QN #[.slice p n C,.string (S ifs)] w (Told w (nR ifs l)):=by
 apply al9;have h1:=h.1;refine aO λw1 cy hs1 hz1=>?_;have h0:j6 w1 w.heap.size ifs St.zero:=⟨none,.slice none 0 0,none,0,aHt.fresh cy rfl rfl,aS.nil _ _ _ _⟩;refine⟨λi w2=>∃k:Nat,i=(k:Int)/\k<=n/\j6 w2 w.heap.size ifs (yI ifs (l.take k))/\Still w w2,λi _=>n-i.toNat,⟨0,rfl,dU _,h0,hs1⟩,?_⟩;rintro _ _ w2 ⟨k,rfl,hk,hsp,hst⟩;have hsz:=asY ifs (l.take k);refine ax (λhx=>?_) (λhx=>?_)
 .have hx:k<n:=by have:=aQ hx;omega
  have e1:i64.wrap ((k:Int)+1)=((k+1:Nat):Int):=wI;rw[e1];simp only[bW];obtain⟨a,y,rfl,hy,c1,c2⟩:=(h.still hst).get hx;have IS:l[k]'(by omega)=y:=(iw.1 hy).2;have wK:=ac1 (l:=l) (k:=k) (by omega);rw[IS]at wK;refine⟨by omega,by omega,_,_,c1,c2,wm rfl (by simp[Value.oneCell']) λw3 hr3 hs3 rA=>⟨_,_,hr3.ai rfl,hr3.ai rfl,?_⟩⟩;refine(qX (hsp.still hs3) y (by omega) hi).mono ?_;rintro _ w4 ⟨rfl,hs4,vl⟩;refine .inl ⟨rfl,⟨k+1,rfl,hx,?_,(hst.trans hs3).up vl (aR _)⟩,by omega⟩;rw[DJ (by omega),asX,IS];exact hs4
 .have hx:k=n:=by have:=aZ hx;omega
  subst hx;rw[vD (by omega)]at hsp hsz;refine⟨_,by have:=hsp.c4;rwa[bM]at this,ax (λhh=>?_) (λhh=>?_)⟩
  .refine(GH hsp (by omega)).mono ?_
   rintro _ w4 ⟨rfl,hs4,vl⟩;obtain⟨q,v,pa,co,hb,ho⟩:=hs4;have e:nR ifs l=(yI ifs l).fin.out:=by unfold nR U9;rw[aN hh]
   refine .inl ⟨rfl,_,_,_,hb.row.ai rfl,?_⟩
   try dsimp only[zR]
   rw[Told,e];exact⟨_,_,rfl,cZ.of ho,hst.up vl (aR _)⟩
  .obtain⟨q,v,pa,co,hb,ho⟩:=hsp
   have e:nR ifs l=(yI ifs l).out:=by unfold nR U9;rw[aH (by rw[hh];decide)]
   refine⟨_,_,_,hb.row.ai rfl,?_⟩
   try dsimp only[zR]
   rw[Told,e];exact⟨_,_,rfl,cZ.of ho,hst⟩
def aon(p:Bool)(l m:List Sg):joined p (l++m)=joined p l++joined p m:=by simp[joined]
def aaa(p:Bool)(x:Sg):(aIv p x).length<=2*x.text.length+1:=by
 have h1:=DF x.text;have h2:=K5 x.text;unfold aIv
 repeat' split
 all_goals first|omega|(simp only[a_,cq];omega)
def aaW(p:Bool):∀l:List Sg,(joined p l).length<=fe l
 |[]=>aR _
 |x::l=>by have h1:=aaa p x;have h2:=aaW p l;simp only[joined,aIj,aHb,fe,gi,rP]at h2⊢;omega
def apK{p:Option Addr}{n C:Nat}{l:List Sg}(h:Ai w p n l)(b:Bool)(hn:n<=1000)(hl:fe l<=500000):
  an QO #[.slice p n C,.bool b] w (λe w'=>e=.returned (.string (S (joined b l)))/\Still w w'):=by
 apply amb;have h1:=h.1;refine aO λw1 cy hs1 hz1=>?_;have l1:∀a b,nV 86 (([a,b]:List Value).length) 0:=λ_ _=>Gx;refine⟨λi w2=>∃(k:Nat) (q:Option Addr) (v:Value),i=(k:Int)/\k<=n/\aHt w2 86 w.heap.size 0 (w.heap.size+1) [.pointer q,v] v (joined b (l.take k))/\Still w w2,λi _=>n-i.toNat,
  ⟨0,none,.slice none 0 0,rfl,dU _,aHt.fresh cy rfl rfl,hs1⟩,?_⟩
 rintro _ _ w2 ⟨k,q,v,rfl,hk,hb,hst⟩;have hjl:=aaW b (l.take k);refine ax (λhx=>?_) (λhx=>?_)
 .have hx:k<n:=by have:=aQ hx;omega
  have e1:i64.wrap ((k:Int)+1)=((k+1:Nat):Int):=wI;rw[e1];simp only[bW];obtain⟨a,y,rfl,hy,c1,c2⟩:=(h.still hst).get hx;have IS:l[k]'(by omega)=y:=(iw.1 hy).2;have wK:=ac1 (l:=l) (k:=k) (by omega);rw[IS]at wK;have hjs:joined b (l.take (k+1))=joined b (l.take k)++aIv b y:=by rw[DJ (by omega),aon,IS];simp[joined]
  have hj1:=aaa b y;have hal:=DF y.text;have hel:=K5 y.text;have next:∀w3 w4 v',Still w2 w3->(∃q',aHt w4 86 w.heap.size 0 (w.heap.size+1) [.pointer q',v'] v' (joined b (l.take k)++aIv b y))->Mod (λi=>i=w.heap.size\/v.ownBlock=some i) w3 w4->
    ∃(k':Nat) (q':Option Addr) (v':Value),((k+1:Nat):Int)=(k':Int)/\k'<=n/\aHt w4 86 w.heap.size 0 (w.heap.size+1) [.pointer q',v'] v' (joined b (l.take k'))/\Still w w4:=by
   rintro w3 w4 v' hs3 ⟨q',hb'⟩ hm;refine⟨k+1,q',v',rfl,hx,by rw[hjs];exact hb',Mod.trans (hst.trans hs3) hm (λ_ h=>h) (λi hi e=>?_)⟩;rcases e with rfl|e
   .omega
   .have:=hb.own.nu e;omega
  refine⟨λw5=>∃(k':Nat) (q':Option Addr) (v':Value),((k+1:Nat):Int)=(k':Int)/\k'<=n/\aHt w5 86 w.heap.size 0 (w.heap.size+1) [.pointer q',v'] v' (joined b (l.take k'))/\Still w w5,
   ⟨by omega,by omega,_,_,c1,c2,wm rfl (by simp[Value.oneCell']) λw3 hr3 hs3 rA=>⟨_,hr3.ai rfl,?_⟩⟩,λ_ w5 h5=>⟨h5,by omega⟩⟩
  have aIr:=hb.still hs3;have Wo:=aIr.row.lt;refine ax (λh3=>?_) (λh3=>⟨λc w4=>c=(b&&decide (y.kind=1))/\w4=w3,ax (λwK=>⟨_,hr3.ai rfl,?_,rfl⟩) (λA7=>⟨by rw[A7];rfl,rfl⟩),?_⟩)
  .have h3:y.kind=3:=by have:=aQ h3;omega
   have e:aIv b y=[32]:=by unfold aIv;rw[aN h3]
   rw[e]at next;refine(Y_ aIr (l1 _ _) 32 Wo (by omega)).mono ?_;rintro _ w4 ⟨rfl,v4,hb4,lY⟩;exact .inl ⟨_,rfl,rfl,next _ _ _ hs3 ⟨_,hb4⟩ lY⟩
  .rw[wK]
   simp only[Br]
   by_cases hy1:y.kind=1
   .rw[jc hy1,jc (by omega)]
   .rw[fY hy1,fY (by omega)]
  have h3:¬y.kind=3:=by have:=aZ h3;omega
  rintro c _ w4 ⟨rfl,rfl⟩;refine ax (λhc=>⟨_,hr3.ai rfl,?_⟩) (λhc=>ax (λwK=>⟨_,hr3.ai rfl,?_⟩) (λA7=>⟨_,hr3.ai rfl,?_⟩))
  .obtain⟨hc1,hc2⟩:=Bool.and_eq_true_iff.1 hc
   have hc2:=aQ hc2;have e:aIv b y=escape y.text:=by unfold aIv;rw[aH h3,aN hc1,aN hc2]
   rw[e]at next;refine(Z_ y.text (by omega)).mono ?_;rintro _ w5 ⟨rfl,hs5⟩;refine .inl ⟨_,rfl,(Bp (aIr.still hs5) (l1 _ _) _ (aIr.still hs5).row.lt (by omega)).mono ?_⟩;rintro _ w6 ⟨rfl,v6,zh,lZ⟩;exact .inl ⟨_,_,rfl,rfl,next _ _ _ (hs3.trans hs5) ⟨_,zh⟩ lZ⟩
  .have hc2:¬y.kind=1:=by rw[wK]at hc;simpa using hc
   have e:aIv b y=aJM y.text:=by unfold aIv;rw[aH h3,aN wK,aH hc2]
   rw[e]at next;refine(RM y.text (by omega)).mono ?_;rintro _ w5 ⟨rfl,hs5⟩;refine .inl ⟨_,rfl,(Bp (aIr.still hs5) (l1 _ _) _ (aIr.still hs5).row.lt (by omega)).mono ?_⟩;rintro _ w6 ⟨rfl,v6,zh,lZ⟩;exact .inl ⟨_,_,rfl,rfl,next _ _ _ (hs3.trans hs5) ⟨_,zh⟩ lZ⟩
  .have e:aIv b y=y.text:=by unfold aIv;rw[aH h3,aH (by rw[A7];decide)]
   rw[e]at next;refine(Bp aIr (l1 _ _) _ aIr.row.lt (by omega)).mono ?_;rintro _ w6 ⟨rfl,v6,zh,lZ⟩;exact .inl ⟨_,_,rfl,rfl,next _ _ _ hs3 ⟨_,zh⟩ lZ⟩
 .have hx:k=n:=by have:=aZ hx;omega
  subst hx;rw[vD (by omega)]at hb hjl;refine(aKa hb (by omega)).mono ?_;rintro _ w3 ⟨rfl,dx⟩;exact .inl ⟨_,rfl,rfl,Mod.trans hst dx (λ_ h=>h) (λi hi e=>by have:=hb.own.nu e;omega)⟩
end Go.Proofs.YtihaaoehhgmphaaGreatDoor.F
namespace Go.Proofs.YtihaaoehhgmphaaGreatDoor
open IntKind Go.RowKit Vc
set_option maxRecDepth 100000
variable{w wb:World}
abbrev MA:TypeId:=408
abbrev wu:TypeId:=356
structure gb(wb w:World)(xb:Nat)(V:List A.Vr)(st:Int)(l:List F.Sg):Prop where
 still:Still wb w
 low:wb.heap.size<=xb
 row:∃vp vc op oc,Row w xb wu ⟨[.slice vp V.length vc,.slice none 0 0,.int .i64 st,.slice none 0 0,.slice op l.length oc]⟩/\A.cR w vp V.length vc V/\aS w wb.heap.size MA 2 (.slice op l.length oc) l.length (F.CQ l)
def iW(xb:Nat)(w:World)(k:Nat):Prop:=k=xb\/∃v,w.cell? ⟨xb,4,none⟩=some v/\v.ownBlock=some k
section
variable{xb:Nat}{V:List A.Vr}{st:Int}{l:List F.Sg}
def gb.aHO(h:gb wb w xb V st l){k:Nat}(hk:iW xb w k):wb.heap.size<=k/\k<w.heap.size:=by
 obtain⟨vp,vc,op,oc,hr,hv,ho⟩:=h.row;rcases hk with rfl|⟨v,hv,hk⟩
 .exact⟨h.low,hr.lt⟩
 .have:w.cell? ⟨xb,4,none⟩=some (.slice op l.length oc):=hr.ai rfl
  rw[this]at hv;obtain rfl:=bO hv;exact ho.lt k hk
def gb.gone(h:gb wb w xb V st l){w':World}(hm:Still w w'):cj (iW xb w) w (iW xb w') w':=by
 obtain⟨vp,vc,op,oc,hr,hv,ho⟩:=h.row;refine⟨hm.weaken λ_ h=>h.elim,λk hk=>.inl ?_⟩;rcases hk with hk|⟨v,hv,hk⟩
 .exact .inl hk
 .exact .inr ⟨v,(World.cell?_of_block (hm.block _ hr.lt λh=>h)).symm.trans hv,hk⟩
def gb.on(h:gb wb w xb V st l){w':World}(hm:Still w w'):gb wb w' xb V st l:=by obtain⟨vp,vc,op,oc,h1,h2,h3⟩:=h.row;exact⟨h.still.trans hm,h.low,vp,vc,op,oc,h1.still hm,h2.still hm,h3.still hm⟩
abbrev NX(k:Int)(q:Bool)(t n o:ag)(p:Option Addr)(m c:Nat):Value:=.agg #[.int .i64 k,.bool q,.string (S t),.string (S n),.string (S o),.slice p m c]
def gb.push(h:gb wb w xb V st l)(hl:l.length<=1000)(x:F.Sg){q:Addr}(hq:∀j u,(F.BO x)[j]?=some u->w.cell? (q.add j)=some u){vp:Option Addr}{vc:Nat}{op:Option Addr}{oc:Nat}(hr:Row w xb wu ⟨[.slice vp V.length vc,.slice none 0 0,.int .i64 st,.slice none 0 0,.slice op l.length oc]⟩)(hv:A.cR w vp V.length vc V)(ho:aS w wb.heap.size MA 2 (.slice op l.length oc) l.length (F.CQ l))
  {P:World->Prop}(hK:∀w',gb wb w' xb V st (l++[x])->cj (iW xb w) w (iW xb w') w'->P w'){C:Option Addr->Nat->World->Prop}(hC:∀p c w1,cA (Addr.mk xb 4 none) P 0 [.slice p (l.length+1) c] w1->C p c w1):eW w MA 2 24 op l.length oc (some q) 1 C:=by
 have hz:=h.still.size;refine rT ho hz (F.BO x) rfl (by simp[F.BO,Value.oneCell']) (λ_=>⟨q,rfl,hq⟩) (by omega) (by omega) λp c w1 o1 m1 bk=>hC p c w1 ?_;have r1:=hr.mod m1 λe=>ho.c7 hr (by decide) e;have v1:A.cR w1 vp V.length vc V:=by
  rcases aIi V.length with e|e
  .exact⟨hv.1,hv.2.1,λh=>by omega,λh=>by omega⟩
  .refine hv.mod m1 λa ha hk=>?_
   obtain⟨a',cs,h1,h2⟩:=hv.2.2.2 e;rw[ha]at h1;obtain rfl:=bO h1;exact ho.c7 h2 (by decide) hk
 refine bF (g:=xb) (o:=4) r1 λw2 r2 m2 z2=>?_;have hf:∀k,(Value.slice op l.length oc).ownBlock=some k->iW xb w k:=λk hk=>.inr ⟨_,hr.ai rfl,hk⟩;refine hK w2 ⟨Mod.trans (Mod.trans h.still m1 (λ_ h=>h) λi hi hk=>by have:=(ho.lt i hk).1;omega) m2 (λ_ h=>h) (λi hi e=>by have:=h.low;omega),h.low,vp,vc,p,c,by rw[aHb];exact r2,?_,?_⟩ ⟨Mod.trans m1 m2 hf (λk _ e=>.inl e),λk hk=>?_⟩
 .rcases aIi V.length with e|e
  .exact⟨v1.1,v1.2.1,λh=>by omega,λh=>by omega⟩
  .refine v1.mod m2 λa ha hk=>?_
   obtain⟨a',cs,h1,h2⟩:=v1.2.2.2 e;rw[ha]at h1;obtain rfl:=bO h1;exact h2.ne r1 (by decide) hk
 .have e:F.CQ (l++[x])=F.CQ l++F.BO x:=by simp[F.CQ]
  rw[e,aHb];exact o1.mod m2 λk hk e=>o1.c7 r1 (by decide) (by rw[hk,e])
 .rcases hk with hk|⟨v,hv,hk⟩
  .exact .inl (.inl hk)
  .have:w2.cell? ⟨xb,4,none⟩=some (.slice p (l.length+1) c):=r2.ai rfl
   rw[this]at hv;obtain rfl:=bO hv;rcases bk.own (n:=l.length)with e|e
   .exact .inl (hf k (e.symm.trans hk))
   .have hk':(Value.slice p (l.length+1) c).ownBlock=some k:=hk
    rw[hk']at e;exact .inr (by have:=bO e;omega)
def ab1(h:gb wb w xb V st l)(hl:l.length<=1000)(k:Int)(q:Bool)(t n o s:ag)(p:Option Addr)(m c:Nat):
  an JJ #[.pointer (some ⟨xb,0,none⟩),NX k q t n o p m c,.string (S s)] w (λe w'=>e=.returned (.tuple #[])/\gb wb w' xb V st (l++[⟨if q then 1 else 2,s⟩])/\cj (iW xb w) w (iW xb w') w'):=by
 apply ako;refine aO λw1 r1 s1 z1=>⟨_,r1.ai rfl,?_⟩;have h1:=h.on s1;obtain⟨vp,vc,op,oc,hr,hv,ho⟩:=h1.row;cases q with
 |true=>refine⟨_,_,_,hr.ai rfl,aO λw2 r2 s2 z2=>?_⟩;refine(h1.on s2).push hl ⟨1,s⟩ (λj u hu=>?_) (hr.still s2) (hv.still s2) (ho.still s2) (P:=λw'=>_/\_/\_) (λw' h' g'=>⟨rfl,h',((h.gone (s1.trans s2)).trans g')⟩) λ_ _ _ h=>h;rw[bM,cL];exact r2.ai hu
 |false=>refine⟨_,_,_,hr.ai rfl,aO λw2 r2 s2 z2=>?_⟩;refine(h1.on s2).push hl ⟨2,s⟩ (λj u hu=>?_) (hr.still s2) (hv.still s2) (ho.still s2) (P:=λw'=>_/\_/\_) (λw' h' g'=>⟨rfl,h',((h.gone (s1.trans s2)).trans g')⟩) λ_ _ _ h=>h;rw[bM,cL];exact r2.ai hu
end
end Go.Proofs.YtihaaoehhgmphaaGreatDoor
namespace Go.Proofs.YtihaaoehhgmphaaGreatDoor
open IntKind Go.RowKit Vc
set_option maxRecDepth 100000
variable{w wb:World}
def aAh(k:Nat):List PanicEntry:=[{v:=.iface 28 (.int .i64 (k:Int)),recovered:=false}]
structure pX(V:List A.Vr):Prop where
 U6:A.aIx V
 aIT:∀v∈V,v.value.length<=140737488355328
def AI(n:ag):Bool:=!decide (n=[35])&& !decide (n=[63])&& !decide (n=[48])&& !decide (n=[64])&& !decide (n=[42])&& !decide (n.take (A.bT true n)=[])&&decide (n.length<=1000)
def tA(V:List A.Vr)(p:L.Pt):Option (Pr (F.Sg×List A.Vr)):=
 if p.k=0 then some (.ok (⟨if p.q then 1 else 0,p.t⟩,V))
 else if p.k=1/\p.o=[]/\AI p.n=true then some (.ok (⟨if p.q then 1 else 2,(A.getD p.n V).value⟩,V))
 else none
section
variable{xb:Nat}{V:List A.Vr}{st:Int}{l:List F.Sg}
def gb.U7(h:gb wb w xb V st l){q:Option Addr}{D:Nat}{V':List A.Vr}(hq:A.cR w q V'.length D V'){P:World->Prop}(hK:∀w',gb wb w' xb V' st l->cj (iW xb w) w (iW xb w') w'->P w'):cA (Addr.mk xb 0 none) P 0 [.slice q V'.length D] w:=by
 obtain⟨vp,vc,op,oc,hr,hv,ho⟩:=h.row;refine bF (g:=xb) (o:=0) hr λw2 r2 m2 z2=>hK w2 ⟨Mod.trans h.still m2 (λ_ h=>h) (λi hi e=>by have:=h.low;omega),h.low,q,D,op,oc,r2,?_,ho.mod m2 λk hk e=>ho.c7 hr (by decide) (by rw[hk,e])⟩ ⟨m2.weaken λk e=>.inl e,λk hk=>.inl ?_⟩
 .rcases aIi V'.length with e|e
  .exact⟨hq.1,hq.2.1,λh=>by omega,λh=>by omega⟩
  .refine hq.mod m2 λa ha hk=>?_
   obtain⟨a',cs,h1,h2⟩:=hq.2.2.2 e;rw[ha]at h1;obtain rfl:=bO h1;exact h2.ne hr (by decide) hk
 .rcases hk with hk|⟨v,hv,hk⟩
  .exact .inl hk
  .have:w2.cell? ⟨xb,4,none⟩=some (.slice op l.length oc):=r2.ai rfl
   rw[this]at hv;obtain rfl:=bO hv;exact .inr ⟨_,hr.ai rfl,hk⟩
def gb.same(h:gb wb w xb V st l){w':World}(hm:Still w w'){k:Nat}(hk:iW xb w' k):iW xb w k:=by
 obtain⟨vp,vc,op,oc,hr,hv,ho⟩:=h.row;rcases hk with hk|⟨v,hv,hk⟩
 .exact .inl hk
 .exact .inr ⟨v,(World.cell?_of_block (hm.block _ hr.lt λh=>h)).symm.trans hv,hk⟩
def cj.free{F F':Nat->Prop}{w w':World}(h:cj F w F' w'){k:Nat}(hk:k<w.heap.size)(hn:¬F k):¬F' k:=λhf=>(h.new k hf).elim hn λe=>by omega
def aaX(n:ag)(h1:n≠[64])(h2:n≠[42]):an Ko #[.string (S n)] w (λe w'=>e=.returned (.bool false)/\w'=w):=by apply amC;exact ax (λh=>absurd (aQ h) h1) (λ_=>⟨by rw[fY h2],rfl⟩)
def ac2{n:ag}(h:AI n=true):n≠[35]/\n≠[63]/\n≠[48]/\n≠[64]/\n≠[42]/\n.take (A.bT true n)≠[]/\n.length<=1000:=by simp only[AI,e_,aJ3,zy,nk]at h;obtain⟨⟨⟨⟨⟨⟨a,b⟩,c⟩,d⟩,e⟩,f⟩,g⟩:=h;exact⟨a,b,c,d,e,f,g⟩
def apL(h:gb wb w xb V st l)(hV:pX V)(hn:V.length<=100000){n:ag}(hnm:AI n=true):
  an Pm #[.pointer (some ⟨xb,0,none⟩),.string (S n)] w (λe w'=>e=.returned (.tuple #[.string (S (A.getD n V).value),.bool (A.get n V).isSome])/\Still w w'):=by
 obtain⟨a1,a2,a3,a4,a5,a6,a7⟩:=ac2 hnm;apply ajQ;refine ax (λh=>absurd (aQ h) a1) (λ_=>ax (λh=>absurd (aQ h) a2) (λ_=>ax (λh=>absurd (aQ h) a3) (λ_=>(aaX n a4 a5).mono ?_)));rintro _ w1 ⟨rfl,rfl⟩;refine .inl ⟨_,rfl,ax (λh=>by cases h) (λ_=>(A.Sq n (by omega)).mono ?_)⟩;rintro _ w2 ⟨rfl,s2⟩;refine .inl ⟨_,rfl,ax (λ_=>?_) (λh=>absurd (aQ (by rw[Yd]at h;exact h)) a6)⟩;obtain⟨vp,vc,op,oc,hr,hv,ho⟩:=(h.on s2).row;refine⟨_,_,_,hr.ai rfl,(A.SX hv hV.U6 (by omega) n).mono ?_⟩;rintro _ w3 ⟨rfl,s3⟩;refine .inl ⟨_,_,_,_,_,rfl,aO λw4 r4 s4 z4=>bF (g:=w3.heap.size) (o:=0) r4 λw5 r5 m5 z5=>?_⟩;exact⟨_,r5.ai rfl,rfl,(s2.trans s3).trans (s4.box (aR _) m5)⟩
def aq_(h:gb wb w xb V st l)(hl:l.length<=1000)(k:Int)(q:Bool)(t n o:ag)(p:Option Addr)(m c:Nat)(hn:AI n=true)(v:ag)(b:Bool):
  an Da #[.pointer (some ⟨xb,0,none⟩),NX k q t n o p m c,.string (S v),.bool b] w (λe w'=>e=.returned (.tuple #[])/\gb wb w' xb V st (l++[⟨if q then 1 else 2,v⟩])/\cj (iW xb w) w (iW xb w') w'):=by
 obtain⟨a1,a2,a3,a4,a5,a6,a7⟩:=ac2 hn;apply ajY;refine aO λw1 r1 s1 z1=>?_;refine⟨λx wq=>x=false/\wq=w1,⟨_,r1.ai rfl,ax (λh=>absurd (aQ h) a5) (λ_=>⟨rfl,rfl⟩)⟩,?_⟩;rintro _ _ w2 ⟨rfl,rfl⟩;refine ax (λh=>by cases h) (λ_=>⟨_,r1.ai rfl,(aaX n a4 a5).mono ?_⟩);rintro _ w2 ⟨rfl,rfl⟩;refine .inl ⟨_,rfl,ax (λh=>by cases h) (λ_=>?_)⟩;refine⟨_,_,_,_,_,_,_,_,r1.ai rfl,r1.ai rfl,r1.ai rfl,r1.ai rfl,r1.ai rfl,r1.ai rfl,(ab1 (h.on s1) hl k q t n o v p m c).mono ?_⟩;rintro _ w3 ⟨rfl,h3,g3⟩;exact .inl ⟨rfl,rfl,h3,(h.gone s1).trans g3⟩
def BK:Tryz.prog.underlying 485=some (.map bJ 483):=rfl
def asZ(w:World):(zeroValue 483).run aL w=.ok .nilFunc w:=rfl
def aKV:cY aL Da=true:=by kernel_rfl
def apM(h:gb wb w xb V st l)(hl:l.length<=1000)(hV:pX V)(IT:V.length<=100000)(k:Int)(q:Bool)(t n:ag)(p:Option Addr)(m c:Nat)(hn:AI n=true):
  an Ph #[.pointer (some ⟨xb,0,none⟩),NX k q t n [] p m c] w (λe w'=>e=.returned (.tuple #[])/\gb wb w' xb V st (l++[⟨if q then 1 else 2,(A.getD n V).value⟩])/\cj (iW xb w) w (iW xb w') w'):=by
 apply ajN;refine aO λw1 r1 s1 z1=>mg ?_;have s2:Still w1 (w1.alloc (.map #[] 0)):=(Mod.refl _ _).alloc _;have f2:=aH8.new w1;have z2:(w1.alloc (.map #[] 0)).heap.size=w1.heap.size+1:=World.size_alloc ..;generalize w1.alloc (.map #[] 0)=w2 at*;refine de BK f2 (by decide) rfl λw3 f3 m3 z3=>?_;refine de BK f3 (by decide) rfl λw4 f4 m4 z4=>?_;refine de BK f4 (by decide) rfl λw5 f5 m5 z5=>?_;refine de BK f5 (by decide) rfl λw6 f6 m6 z6=>?_;refine de BK f6 (by decide) rfl λw7 f7 m7 z7=>?_;refine de BK f7 (by decide) rfl λw8 f8 m8 z8=>?_;have lp:Still w1 w8:=((((((s2.box (aR _) m3).box (aR _) m4).box (aR _) m5).box (aR _) m6).box (aR _) m7).box (aR _) m8);have zi:=s1.trans lp;have h8:=h.on zi;have r8:=r1.still lp;refine⟨_,r8.ai rfl,(apL h8 hV IT hn).mono ?_⟩;rintro _ w9 ⟨rfl,s9⟩;have r9:=r8.still s9;refine .inl ⟨_,_,rfl,_,r9.ai rfl,(Tryz.strings_CutPrefix (S []) (S [58]) w9).mono ?_⟩;rintro _ w9 ⟨rfl,rfl⟩
 have fin:∀b:Bool,an Da #[.pointer (some ⟨xb,0,none⟩),NX k q t n [] p m c,.string (S (A.getD n V).value),.bool b] w9 (λe w'=>e=.returned (.tuple #[])/\gb wb w' xb V st (l++[⟨if q then 1 else 2,(A.getD n V).value⟩])/\cj (iW xb w) w (iW xb w') w'):=λb=>
  (aq_ (h8.on s9) hl k q t n [] p m c hn _ b).mono λ_ _ ⟨a1,a2,a3⟩=>⟨a1,a2,(h.gone (zi.trans s9)).trans a3⟩
 refine .inl ⟨_,_,rfl,Ud (k:=[]) (v:=.func (.func Da) #[] #[]) BK asZ (f8.mod s9 λh=>h) (by simp) ?_⟩;refine ax (λh=>by cases h) (λ_=>⟨_,_,_,_,_,_,_,_,r9.ai rfl,r9.ai rfl,r9.ai rfl,r9.ai rfl,r9.ai rfl,r9.ai rfl,?_⟩);refine ax (λ_=>ax (λ_=>?_) (λhb=>?_)) (λ_=>?_)
 .refine aI1 (cap:=[]) (ax (λ_=>(fin true).mono ?_) (λh=>by rw[aKV]at h;cases h))
  rintro _ aP ⟨rfl,hx⟩;exact .inl ⟨rfl,rfl,hx⟩
 .refine aI1 (cap:=[]) (ax (λ_=>(fin _).mono ?_) (λh=>by rw[aKV]at h;cases h))
  rintro _ aP ⟨rfl,hx⟩;exact .inl ⟨rfl,rfl,hx⟩
 .refine aI1 (cap:=[]) (ax (λ_=>(fin false).mono ?_) (λh=>by rw[aKV]at h;cases h))
  rintro _ aP ⟨rfl,hx⟩;exact .inl ⟨rfl,rfl,hx⟩
end
end Go.Proofs.YtihaaoehhgmphaaGreatDoor
namespace Go.Proofs.YtihaaoehhgmphaaGreatDoor
open IntKind Go.RowKit Vc
set_option maxRecDepth 100000
variable{w wb:World}
def tJ:List L.Pt->List A.Vr->Option (Pr (List F.Sg×List A.Vr))
 |[],V=>some (.ok ([],V))
 |p::r,V=>match tA V p with
  |none=>none
  |some (.bad k)=>some (.bad k)
  |some (.ok g)=>match tJ r g.2 with
   |none=>none
   |some (.bad k)=>some (.bad k)
   |some (.ok q)=>some (.ok (g.1::q.1,q.2))
def oe(l:List L.Pt):Nat:=(l.map λp=>p.t.length+1).sum
def ayi(wb w:World)(xb:Nat)(st:Int)(l:List F.Sg)(n:Nat)(r:Pr (List F.Sg×List A.Vr))(e:Ending)(w':World):Prop:=match r with
 |.ok p=>e=.returned (.tuple #[])/\gb wb w' xb p.2 st (l++p.1)/\pX p.2/\p.2.length<=n/\cj (iW xb w) w (iW xb w') w'
 |.bad k=>e=.panicked (aAh k)/\Still wb w'/\Mod (iW xb w) w w'
section
variable{xb:Nat}{V:List A.Vr}{st:Int}{l:List F.Sg}
def as0(he:Env wb)(h:gb wb w xb V st []){ps:List L.Pt}{p:Option Addr}{n c:Nat}{D:Nat->Prop}(hs:L.aHg wb D ps (.slice p n c))(hV:pX V)(hb:V.length+oe ps<=50000)(hn:ps.length<=900){r:Pr (List F.Sg×List A.Vr)}(hr:tJ ps V=some r):
  an PF #[.pointer (some ⟨xb,0,none⟩),.slice p n c] w (ayi wb w xb st [] (V.length+oe ps) r):=by
 obtain⟨rfl,hc⟩:=hs.len;apply akk;refine⟨λx w1=>∃(i:Nat) (Vi:List A.Vr) (li:List F.Sg),x=(i:Int)/\i<=ps.length/\gb wb w1 xb Vi st li/\pX Vi/\li.length=i/\Vi.length+oe (ps.drop i)<=V.length+oe ps/\cj (iW xb w) w (iW xb w1) w1/\
  (match tJ (ps.drop i) Vi with
  |none=>False
  |some (.bad k)=>r=.bad k
  |some (.ok q)=>r=.ok (li++q.1,q.2)),λx _=>(ps.length-x).toNat,⟨0,V,[],rfl,dU _,h,hV,rfl,by simp,cj.refl _,?_⟩,?_⟩
 .rw[FQ,hr]
  cases r with
  |ok q=>rfl
  |bad k=>rfl
 rintro x _ w1 ⟨i,Vi,li,rfl,hi,h1,IU,sO,aLf,g1,nI⟩;refine ax (λhx=>?_) (λhx=>?_)
 .have hx:i<ps.length:=by have:=aQ hx;omega
  have hd:ps.drop i=ps[i]::ps.drop (i+1):=qM hx;have hpz:oe (ps.drop i)=ps[i].t.length+1+oe (ps.drop (i+1)):=by rw[hd];simp only[oe,gi,rP]
  obtain⟨b,v,rfl,hD,hcell,hsv⟩:=(hs.still h1.still).get (iy hx);obtain⟨wp,wc,rfl⟩:=hsv.form;have cl:∀(j:Nat) (u:Value),(L.hU ps[i] (.slice wp ps[i].w.length wc))[j]?=some u->w1.cell? ((b.add (Int.toNat (i:Int)*6)).add j)=some u:=λj u hu=>by rw[bW];exact hcell j u hu
  have c0:w1.cell? (b.add (Int.toNat (i:Int)*6))=some (.int .i64 ps[i].k):=cl 0 _ rfl;refine⟨by omega,by omega,_,_,_,_,_,_,_,_,c0,cl 1 _ rfl,cl 2 _ rfl,cl 3 _ rfl,cl 4 _ rfl,cl 5 _ rfl,?_⟩;refine aO λw2 r2 s2 z2=>bF (g:=w1.heap.size) (o:=0) r2 λw3 r3 m3 z3=>?_;have aHK:Still w1 w3:=s2.box (aR _) m3;have h3:=h1.on aHK;have g13:=g1.trans (h1.gone aHK);rw[hd,tJ]at nI;have step:∀(g:F.Sg×List A.Vr),tA Vi ps[i]=some (.ok g)->g.2.length<=Vi.length+ps[i].t.length->pX g.2->∀w4,gb wb w4 xb g.2 st (li++[g.1])->cj (iW xb w3) w3 (iW xb w4) w4->
    (∃(i':Nat) (Vi:List A.Vr) (li:List F.Sg),i64.wrap ((i:Int)+1)=(i':Int)/\i'<=ps.length/\gb wb w4 xb Vi st li/\pX Vi/\li.length=i'/\Vi.length+oe (ps.drop i')<=V.length+oe ps/\cj (iW xb w) w (iW xb w4) w4/\
    (match tJ (ps.drop i') Vi with
    |none=>False
    |some (.bad k)=>r=.bad k
    |some (.ok q)=>r=.ok (li++q.1,q.2)))/\(ps.length-i64.wrap ((i:Int)+1)).toNat<(ps.length-(i:Int)).toNat:=λg hg tN hgV w4 h4 g4=>by
   rw[wrap_i64 (by omega) (by omega)];refine⟨⟨i+1,g.2,li++[g.1],by omega,by omega,h4,hgV,by simp[sO],by omega,g13.trans g4,?_⟩,by omega⟩;rw[hg]at nI;dsimp only at nI;cases hrp:tJ (ps.drop (i+1)) g.2 with
   |none=>rw[hrp]at nI;exact nI.elim
   |some rr=>
    rw[hrp]at nI;cases rr with
    |bad k=>exact nI
    |ok q=>dsimp only at nI⊢;rw[nI];simp
  refine⟨_,r3.ai rfl,ax (λhk=>?_) (λhk1=>ax (λhk=>?_) (λhk2=>ax (λhk=>?_) (λaIs=>?_)))⟩
  .have hk:ps[i].k=1:=aQ hk
   have hp:tA Vi ps[i]=if ps[i].o=[]/\AI ps[i].n=true then some (.ok (⟨if ps[i].q then 1 else 2,(A.getD ps[i].n Vi).value⟩,Vi))else none:=by unfold tA;rw[hk];simp
   by_cases hc:ps[i].o=[]/\AI ps[i].n=true
   .rw[aN hc]at hp
    refine⟨_,_,_,_,_,_,_,_,r3.ai rfl,r3.ai rfl,r3.ai rfl,r3.ai rfl,r3.ai rfl,r3.ai rfl,?_⟩;rw[hc.1];refine(apM h3 (by omega) IU (by omega) _ _ _ _ _ _ _ hc.2).mono ?_;rintro _ w4 ⟨rfl,h4,g4⟩;exact .inl ⟨rfl,step _ hp (FJ _ _) IU w4 h4 g4⟩
   .rw[aH hc]at hp
    rw[hp]at nI;exact nI.elim
  .have hk:ps[i].k=2:=aQ hk
   rw[show tA Vi ps[i]=none by unfold tA;rw[aH (by omega),aH λh=>by omega]]at nI;exact nI.elim
  .have hk:ps[i].k=3:=aQ hk
   rw[show tA Vi ps[i]=none by unfold tA;rw[aH (by omega),aH λh=>by omega]]at nI;exact nI.elim
  ·by_cases hk0:ps[i].k=0
   .have hp:tA Vi ps[i]=some (.ok (⟨if ps[i].q then 1 else 0,ps[i].t⟩,Vi)):=by
     unfold tA;rw[aN hk0]
    have agy:li.length<=1000:=by omega
    refine⟨_,r3.ai rfl,ax (λhq=>?_) (λhq=>?_)⟩
    .refine⟨_,_,_,_,_,_,_,_,r3.ai rfl,r3.ai rfl,r3.ai rfl,r3.ai rfl,r3.ai rfl,r3.ai rfl,_,r3.ai rfl,(ab1 h3 agy _ _ _ _ _ _ _ _ _).mono ?_⟩
     rintro _ w4 ⟨rfl,h4,g4⟩;rw[hq]at h4 hp;exact .inl ⟨rfl,step _ hp (FJ _ _) IU w4 h4 g4⟩
    .rw[hq]at hp
     have sD:Still w3 w3.drew:=(Still.refl _).cG;have nE:=h3.on sD;obtain⟨vp,vc,op,oc,hrow,hv,ho⟩:=nE.row;refine⟨λwq=>wq.cell? ⟨xb,4,none⟩=some (.slice op li.length oc)/\wq.cell? ⟨w1.heap.size,2,none⟩=some (.string (S ps[i].t)),⟨hrow.ai rfl,(r3.still sD).ai rfl⟩,_,_,_,λwq hq=>hq.1,_,λwq hq=>hq.2,?_⟩;refine aO λw4 r4 s4 z4=>⟨⟨(hrow.still s4).ai rfl,((r3.still sD).still s4).ai rfl⟩,?_⟩;refine(nE.on s4).push agy ⟨0,ps[i].t⟩ (λj u hu=>?_) (hrow.still s4) (hv.still s4) (ho.still s4) (P:=λw'=>_/\_) (λw5 h5 g5=>?_) λ_ _ _ h=>h
     .rw[bM,cL]
      exact r4.ai hu
     .exact step _ hp (FJ _ _) IU w5 h5 ((h3.gone (sD.trans s4)).trans g5)
   .have hp:tA Vi ps[i]=none:=by
     unfold tA;rw[aH hk0,aH λh=>aZ hk1 h.1]
    rw[hp]at nI;exact nI.elim
 .have hx:i=ps.length:=by have:=aZ hx;omega
  subst hx;rw[aJx]at nI aLf;have e:r=.ok (li++[],Vi):=nI;rw[e];have hbz:Vi.length<=V.length+oe ps:=by simp only[oe,qR,Ks]at aLf;simpa[oe]using aLf
  exact⟨rfl,by simpa using h1,IU,hbz,g1⟩
end
def as1(p q r:Addr)(w:World):
  CallsD aL Kn #[.pointer (some p),.pointer (some q),.pointer (some r)] .returning w λe u' w'=>e=.returned (.tuple #[])/\u'=.returning/\w'=w:=by
 refine callsD_of_wpS Tryz.func367 rfl λc₀ cs hu=>?_;apply wpS_seq;apply wpS_region;simp[wpOpsS,go_sem,recoverD,hu,Tryz.ntmps367,Exit.thenS];apply wpS_seq;apply wpS_region;simp[wpOpsS,go_sem,Tryz.ntmps367,Exit.thenS];refine wpS_cond (t:=false) (by simp[Act.eval,Array.replicate]) ?_;simp only[l9,jq];refine wpS_of_wp (wp_skip ?_);cases c₀;simp_all [bodyPostS,results,Tryz.results367]
def apN(p q r:Addr)(n:Int)(w:World)(K:World->Prop)
  (h:∃Sw:World->Prop,Sw w.drew/\∃(kA:Option Addr) (ki kj:Nat),∃(mM:Option Addr) (mJ mK:Nat),∃fQ:Int,(∀wq:World,Sw wq->wq.cell? p=some (.slice kA ki kj))/\(∀wq:World,Sw wq->wq.cell? (p.add 1)=some (.slice mM mJ mK))/\(∀wq:World,Sw wq->wq.cell? (p.add 2)=some (.int .i64 fQ))/\(cP (w.drew.alloc (.cells #[(.slice kA ki kj),(.slice mM mJ mK),(.int .i64 fQ),(.slice none 0 0),(.slice none 0 0)] wu)) (λ(w1:World)=>(Sw w1/\cA q (λ(w2:World)=>cA r (λ(w3:World)=>K w3) 0 [(.int .i64 n)] w2) 0 [(.pointer (some (Addr.mk w.drew.heap.size 0 none)))] w1)/\(cA q (λ(w4:World)=>Sw w4/\cA r (λ(w5:World)=>K w5) 0 [(.int .i64 n)] w4) 0 [(.pointer (some (Addr.mk w.drew.heap.size 0 none)))] w1)))/\(Sw w.drew/\cP (w.drew.alloc (.cells #[(.slice kA ki kj),(.slice mM mJ mK),(.int .i64 fQ),(.slice none 0 0),(.slice none 0 0)] wu)) (λ(w6:World)=>cA q (λ(w7:World)=>cA r (λ(w8:World)=>K w8) 0 [(.int .i64 n)] w7) 0 [(.pointer (some (Addr.mk w.drew.heap.size 0 none)))] w6))):
  CallsD aL Kn #[.pointer (some p),.pointer (some q),.pointer (some r)] (.panicking [{v:=.iface 28 (.int .i64 n),recovered:=false}]) w λe u' w'=>e=.returned (.tuple #[])/\settle u'=.returning/\K w':=by
 refine callsD_of_wpS Tryz.func367 rfl λc₀ cs hu=>?_;apply wpS_seq;apply wpS_region;simp[wpOpsS,go_sem,recoverD,hu,Tryz.ntmps367,Exit.thenS];apply wpS_seq;apply wpS_region;simp[wpOpsS,go_sem,Tryz.ntmps367,Exit.thenS];refine wpS_cond (t:=true) (by simp[Act.eval,Array.replicate]) ?_;simp only[pq];refine wpS_of_wp ?_;have et:(#[Value.pointer (some p),Value.pointer (some q),Value.pointer (some r)]++((((Array.replicate 9 undef).setIfInBounds 1 (Value.iface 28 (Value.int i64 n))).setIfInBounds 0 (Value.iface 28 (Value.int i64 n))).setIfInBounds 2 (Value.iface 28 (Value.int i64 n))).setIfInBounds 3 (Value.bool true))=
   ⟨[.pointer (some p),.pointer (some q),.pointer (some r),.iface 28 (.int .i64 n),.iface 28 (.int .i64 n),.iface 28 (.int .i64 n),.bool true,undef,undef,undef,undef,undef]⟩:=by rfl
 rw[et];refine Gb (P:=aL) (m:=.held) (ds:=[]) (l:=[.pointer (some p),.pointer (some q),.pointer (some r),.iface 28 (.int .i64 n),.iface 28 (.int .i64 n),.iface 28 (.int .i64 n),.bool true,undef,undef,undef,undef,undef]) (K:=λl' w'=>K w') (E:=λ_ _=>False) (Eq.mp (α:=∃Sw:World->Prop,Sw w.drew/\∃(kA:Option Addr) (ki kj:Nat),∃(mM:Option Addr) (mJ mK:Nat),∃fQ:Int,(∀wq:World,Sw wq->wq.cell? p=some (.slice kA ki kj))/\(∀wq:World,Sw wq->wq.cell? (p.add 1)=some (.slice mM mJ mK))/\(∀wq:World,Sw wq->wq.cell? (p.add 2)=some (.int .i64 fQ))/\(cP (w.drew.alloc (.cells #[(.slice kA ki kj),(.slice mM mJ mK),(.int .i64 fQ),(.slice none 0 0),(.slice none 0 0)] wu)) (λ(w1:World)=>(Sw w1/\cA q (λ(w2:World)=>cA r (λ(w3:World)=>K w3) 0 [(.int .i64 n)] w2) 0 [(.pointer (some (Addr.mk w.drew.heap.size 0 none)))] w1)/\(cA q (λ(w4:World)=>Sw w4/\cA r (λ(w5:World)=>K w5) 0 [(.int .i64 n)] w4) 0 [(.pointer (some (Addr.mk w.drew.heap.size 0 none)))] w1)))/\(Sw w.drew/\cP (w.drew.alloc (.cells #[(.slice kA ki kj),(.slice mM mJ mK),(.int .i64 fQ),(.slice none 0 0),(.slice none 0 0)] wu)) (λ(w6:World)=>cA q (λ(w7:World)=>cA r (λ(w8:World)=>K w8) 0 [(.int .i64 n)] w7) 0 [(.pointer (some (Addr.mk w.drew.heap.size 0 none)))] w6))) (by kernel_rfl) h) ?_ ?_
 .rintro l' w' _ hk
  cases c₀;simp_all [bodyPostS,results,Tryz.results367,act,settle]
 .intro l' c w' _ h
  exact h.elim
def RA{a:Addr}{K K':World->Prop}:∀{vs:List Value} {i:Nat} {w:World},cA a K i vs w->(∀w,K w->K' w)->cA a K' i vs w
 |[],_,w,h,hk=>hk w h
 |v::r,i,w,h,hk=>by obtain⟨hv,h1,h2⟩:=ec h;exact ax (λ_=>⟨h1,RA h2 hk⟩) (λh=>by rw[hv]at h;cases h)
def ayj(w:World)(V:List A.Vr)(st:Int)(n:Nat)(r:Pr (List F.Sg×List A.Vr))(e:Ending)(w':World):Prop:=match r with
 |.ok p=>∃xb,e=.returned (.tuple #[.pointer (some ⟨xb,0,none⟩),.int .i64 0])/\gb w w' xb p.2 st p.1/\pX p.2/\p.2.length<=n
 |.bad k=>∃xb,e=.returned (.tuple #[.pointer (some ⟨xb,0,none⟩),.int .i64 (k:Int)])/\gb w w' xb V st []
def SZ{V:List A.Vr}{st:Int}(he:Env w){vp:Option Addr}{vc:Nat}(hv:A.cR w vp V.length vc V){ps:List L.Pt}{p:Option Addr}{n c:Nat}{D:Nat->Prop}(hs:L.aHg w D ps (.slice p n c))(hV:pX V)(hb:V.length+oe ps<=50000)(hn:ps.length<=900){r:Pr (List F.Sg×List A.Vr)}(hr:tJ ps V=some r):
  an KC #[.slice p n c,.agg #[.slice vp V.length vc,.slice none 0 0,.int .i64 st],.slice none 0 0] w (ayj w V st (V.length+oe ps) r):=by
 apply ana;refine aO λw1 r1 s1 z1=>aO λw2 r2 s2 z2=>aO λw3 r3 s3 z3=>?_;have q1:=(r1.still s2).still s3;have q2:=r2.still s3;refine⟨_,_,_,_,_,_,_,q1.ai rfl,q1.ai rfl,q1.ai rfl,aO λw4 r4 s4 z4=>?_⟩;refine dL (g:=w1.heap.size) (o:=0) (q2.still s4) (by simp[fF]) (by simp[Value.oneCell']) λw5 r5 m5 z5=>?_;have mo:Still w w4:=((s1.trans s2).trans s3).trans s4;have aH6:Still w w5:=mo.box (by omega) m5;have h5:gb w w5 w3.heap.size V st []:=⟨aH6,by omega,vp,vc,none,0,r4.mod m5 (by omega),hv.still aH6,aS.nil _ _ _ _⟩;refine⟨_,r5.ai rfl,(as0 he h5 hs hV hb hn hr).mono ?_⟩;have nF:∀k,k<w3.heap.size->w.heap.size<=k->¬iW w3.heap.size w5 k:=λk h1 h2 hf=>by
  rcases hf with e|⟨v,hv,hk⟩
  .omega
  .have:w5.cell? ⟨w3.heap.size,4,none⟩=some (.slice none 0 0):=(r4.mod m5 (by omega)).ai rfl
   rw[this]at hv;obtain rfl:=bO hv;cases hk
 have p5:Row w5 w.heap.size 109 ⟨[.slice vp V.length vc,.slice none 0 0,.int .i64 st]⟩:=(q1.still s4).mod m5 (by omega);have e5:Row w5 w2.heap.size 28 ⟨[.int .i64 0]⟩:=(r3.still s4).mod m5 (by omega);intro e w6 h6;cases r with
 |bad k=>
  obtain⟨rfl,s6,m6⟩:=h6;have p6:=p5.mod m6 (nF _ (by omega) (by omega));have x6:=r5.mod m6 (nF _ (by omega) (by omega));have e6:=e5.mod m6 (nF _ (by omega) (by omega));refine .inr ⟨_,rfl,?_⟩;have sD:Still w6 w6.drew:=(Still.refl _).cG;have A4:=m6.size;refine(apN ⟨w.heap.size,0,none⟩ ⟨w1.heap.size,0,none⟩ ⟨w2.heap.size,0,none⟩ k w6 (λw9=>Row w9 w1.heap.size 350 ⟨[.pointer (some ⟨w6.heap.size,0,none⟩)]⟩/\Row w9 w2.heap.size 28 ⟨[.int .i64 (k:Int)]⟩/\gb w w9 w6.heap.size V st []) ?_).mono ?_
  .have go:∀{w7:World} {Q:World->Prop},Row w7 w6.heap.size wu ⟨[.slice vp V.length vc,.slice none 0 0,.int .i64 st,.slice none 0 0,.slice none 0 0]⟩->Still w6 w7->(∀w8,Row w8 w.heap.size 109 ⟨[.slice vp V.length vc,.slice none 0 0,.int .i64 st]⟩->Q w8)->cA ⟨w1.heap.size,0,none⟩ (λw8=>Q w8/\cA ⟨w2.heap.size,0,none⟩ (λw9=>Row w9 w1.heap.size 350 ⟨[.pointer (some ⟨w6.heap.size,0,none⟩)]⟩/\Row w9 w2.heap.size 28 ⟨[.int .i64 (k:Int)]⟩/\gb w w9 w6.heap.size V st []) 0 [.int .i64 (k:Int)] w8) 0 [.pointer (some ⟨w6.heap.size,0,none⟩)] w7:=by
    intro w7 Q r7 s7 hQ;refine dL (g:=w1.heap.size) (o:=0) (x6.still s7) (by simp[fF]) (by simp[Value.oneCell']) λw8 r8 m8 z8=>⟨hQ w8 ((p6.still s7).mod m8 (by omega)),?_⟩;refine dL (g:=w2.heap.size) (o:=0) ((e6.still s7).mod m8 (by omega)) (by simp[fF]) (by simp[Value.oneCell']) λw9 r9 m9 z9=>⟨r8.mod m9 (by omega),r9,?_⟩;have s9:Still w w9:=((s6.trans s7).box (by omega) m8).box (by omega) m9;exact⟨s9,by have:=s6.size;omega,vp,vc,none,0,(r7.mod m8 (by omega)).mod m9 (by omega),hv.still s9,aS.nil _ _ _ _⟩
   refine⟨λwq=>Row wq w.heap.size 109 ⟨[.slice vp V.length vc,.slice none 0 0,.int .i64 st]⟩,p6.still sD,_,_,_,_,_,_,_,λwq hq=>hq.ai rfl,λwq hq=>hq.ai rfl,λwq hq=>hq.ai rfl,aO λw7 r7 s7 z7=>⟨⟨(p6.still sD).still s7,?_⟩,?_⟩,p6.still sD,aO λw7 r7 s7 z7=>?_⟩
   .have:=go (Q:=λ_=>True) r7 (sD.trans s7) λ_ _=>trivial
    exact RA this λw8 h=>h.2
   .exact go r7 (sD.trans s7) λ_ h=>h
   .have:=go (Q:=λ_=>True) r7 (sD.trans s7) λ_ _=>trivial
    exact RA this λw8 h=>h.2
  .rintro _ u w9 ⟨rfl,hu,a1,a2,a3⟩
   exact⟨⟨_,rfl⟩,hu,_,a1.ai rfl,_,a2.ai rfl,_,rfl,a3⟩
 |ok q=>
  obtain⟨rfl,h6,hV6,hl6,g6⟩:=h6;have m6:=g6.mod;have x6:=r5.mod m6 (nF _ (by omega) (by omega));have e6:=e5.mod m6 (nF _ (by omega) (by omega));have f6:∀k,k<w3.heap.size->w.heap.size<=k->¬iW w3.heap.size w6 k:=λk h1 h2=>g6.free (by have:=r4.lt;omega) (nF k h1 h2);obtain⟨vp6,vc6,op,oc,hrow,ET,ho⟩:=h6.row;refine .inl ⟨rfl,_,x6.ai rfl,dL (g:=w1.heap.size) (o:=0) x6 (by simp[fF]) (by simp[Value.oneCell']) λw7 r7 m7 z7=>?_⟩;refine dL (g:=w2.heap.size) (o:=0) (e6.mod m7 (by omega)) (by simp[fF]) (by simp[Value.oneCell']) λw8 r8 m8 z8=>?_;have NY:Mod (λk=>k=w1.heap.size\/k=w2.heap.size) w6 w8:=Mod.trans m7 m8 (λ_ h=>.inl h) (λ_ _ h=>.inr h);refine(as1 _ _ _ w8).mono ?_;rintro _ u w9 ⟨rfl,rfl,rfl⟩;refine⟨⟨_,rfl⟩,rfl,_,(r7.mod m8 (by omega)).ai rfl,_,r8.ai rfl,_,rfl,⟨Mod.trans h6.still NY (λ_ h=>h) (λi hi e=>by omega),h6.low,vp6,vc6,op,oc,hrow.mod NY (λe=>by omega),?_,ho.mod NY λk hk e=>f6 k (by omega) (by omega) (.inr ⟨_,hrow.ai rfl,hk⟩)⟩,hV6,hl6⟩;rcases aIi q.2.length with e|e
  .exact⟨ET.1,ET.2.1,λh=>by omega,λh=>by omega⟩
  .refine ET.mod NY λa ha hk=>?_
   obtain⟨a',cs,h1,h2⟩:=ET.2.2.2 e;rw[ha]at h1;obtain rfl:=bO h1;rcases hk with hk|hk
   .exact h2.ne x6 (by decide) hk
   .exact h2.ne e6 (by decide) hk
end Go.Proofs.YtihaaoehhgmphaaGreatDoor
namespace Go.Proofs.YtihaaoehhgmphaaGreatDoor.P
open IntKind Go.RowKit Vc
variable{w:World}
abbrev Still(w w':World):Prop:=Mod (λ_=>False) w w'
def Still.trans{a b c:World}(h:Still a b)(k:Still b c):Still a c:=Mod.trans h k (λ_ h=>h) (λ_ _ h=>h)
def Still.SC{w w':World}(h:Below w.heap.size w w'):Still w w':=Mod.SC h
def pJ(S:sy):List Value:=(List.range 256).map λi=>.bool (S (UInt8.ofNat i))
@[simp]theorem aE8(S:sy):(pJ S).length=256:=by simp[pJ]
def aaY{S:sy}{i:Nat}(h:i<256):(pJ S)[i]?=some (.bool (S (UInt8.ofNat i))):=by simp[pJ,h]
def RB{S T:sy}(h:∀c,S c=T c):pJ S=pJ T:=by rw[show S=T from funext h]
def ara{S:sy}{i:Nat}(h:i<256)(b:Bool):(pJ S).set i (.bool b)=pJ (λc=>if c.toNat=i then b else S c):=by
 apply qO;intro j;rw[Dl]
 by_cases hj:j<256
 .have hR:=aaY (S:=λc=>if c.toNat=i then b else S c) hj
  rw[hR]
  by_cases hij:i=j
  .subst hij
   have:(UInt8.ofNat i).toNat=i:=by simp;omega
   rw[aN rfl,aN (by simpa using h),aN this]
  .have:¬(UInt8.ofNat j).toNat=i:=by simp;omega
   rw[aH hij,aaY hj,aH this]
 .rw[ud (l:=pJ _) (i:=j) (by simp;omega),ud (l:=pJ _) (i:=j) (by simp;omega)]
  by_cases hij:i=j
  .omega
  .rw[aH hij]
section
variable{g o:Nat}{t:TypeId}{pre:List Value}{S:sy}
def _root_.Go.Proofs.YtihaaoehhgmphaaGreatDoor.Row.wrO(hr:Row w g t ⟨pre++pJ S⟩)(ho:pre.length=o){k:Nat}(hk:k<256):Wr w ((Addr.mk g o none).add (k*1)):=by rw[bM,aHA];exact hr.wr _ (by simp;omega)
def _root_.Go.Proofs.YtihaaoehhgmphaaGreatDoor.Row.Ey(hr:Row w g t ⟨pre++pJ S⟩)(ho:pre.length=o){k:Nat}(hk:k<256)(b:Bool):Row (w.setCell ((Addr.mk g o none).add (k*1)) (.bool b)) g t ⟨pre++pJ (λc=>if c.toNat=k then b else S c)⟩:=by rw[bM,aHA];have h:=hr.aHE (o+k) (.bool b);rw[Jz _ _ (by omega),<-ho,Bk,ara hk]at h;rw[<-ho];exact h
def _root_.Go.Proofs.YtihaaoehhgmphaaGreatDoor.Mod.Ey{U:Nat->Prop}{a b:World}(h:Mod U a b)(hp:U g\/a.heap.size<=g)(k:Nat)(u:Value):Mod U a (b.setCell ((Addr.mk g o none).add (k*1)) u):=by rw[bM];exact h.setCell hp _
set_option maxRecDepth 10000 in
def GD(hr:Row w g t ⟨pre++pJ S⟩)(ho:pre.length=o)(lo hi:UInt8):an Yg #[.pointer (some ⟨g,o,none⟩),.int .u8 (lo.toNat:Int),.int .u8 (hi.toNat:Int)] w
  (λe w'=>e=.returned (.tuple #[])/\Mod (λi=>i=g) w w'/\Row w' g t ⟨pre++pJ (yD S lo hi)⟩):=by
 apply ak7;have hl:=lo.toNat_lt;have hh:=hi.toNat_lt;unfold Yh;rw[wrap_i64 (n:=(lo.toNat:Int)) (by omega) (by omega),wrap_i64 (n:=(hi.toNat:Int)) (by omega) (by omega)];refine⟨λx w1=>∃i:Nat,x=(i:Int)/\lo.toNat<=i/\i<=256/\(lo.toNat<=hi.toNat->i<=hi.toNat+1)/\(hi.toNat<lo.toNat->i=lo.toNat)/\Mod (λi=>i=g) w w1/\Row w1 g t ⟨pre++pJ (λc=>S c||(decide (lo.toNat<=c.toNat)&&decide (c.toNat<i)))⟩,λx _=>(256-x).toNat,
  ⟨lo.toNat,rfl,aR _,by omega,by omega,by omega,Mod.refl _ _,?_⟩,?_⟩
 .rw[RB (T:=S) (λc=>by
   by_cases h1:lo.toNat<=c.toNat
   .have h2:¬c.toNat<lo.toNat:=by omega
    rw[fY h2];simp
   .simp[h1])]
  exact hr
 rintro _ _ w1 ⟨i,rfl,hi1,hi2,hi3,hi4,hm,cy⟩;have e1:i64.wrap ((i:Int)+1)=((i+1:Nat):Int):=wI;refine ax (λhx=>?_) (λhx=>?_)
 .have hx:=aQ hx
  have hx':i<256:=by omega
  simp only[e1,bW];refine⟨by omega,by omega,cy.wrO ho hx',⟨i+1,rfl,by omega,by omega,by omega,by omega,hm.Ey (.inl rfl) _ _,?_⟩,by omega⟩;have h:=cy.Ey ho hx' true;rw[RB (T:=λc=>if c.toNat=i then true else S c||(decide (lo.toNat<=c.toNat)&&decide (c.toNat<i))) (λc=>by
   by_cases h1:c.toNat=i
   .rw[aN h1]
    have h2:lo.toNat<=c.toNat:=by omega
    have h3:c.toNat<i+1:=by omega
    simp[h2,h3]
   .rw[aH h1]
    have h2:(decide (c.toNat<i+1))=decide (c.toNat<i):=by apply aIU.2;omega
    rw[h2])]
  exact h
 .have hx:=aZ hx
  refine⟨rfl,hm,?_⟩;rw[RB (S:=yD S lo hi) (T:=λc=>S c||(decide (lo.toNat<=c.toNat)&&decide (c.toNat<i))) (λc=>by
   unfold yD;congr 1
   by_cases h1:lo.toNat<=c.toNat
   .have h2:(decide (c.toNat<=hi.toNat))=decide (c.toNat<i):=by
     apply aIU.2;constructor<;>intro<;>omega
    rw[h2]
   .simp[h1])]
  exact cy
end
def aab{p:List UInt8}(h:p≠[]):an Ka #[.string (S p)] w
  (λe w'=>e=.returned (.tuple #[.int .u8 ((single p).1.toNat:Int),.string (S (single p).2)])/\w'=w.drew):=by
 apply alX
 match p,h with
 |[a],_=>refine ax (λhx=>?_) (λ_=>⟨by decide,a,rfl,by decide,by simp,rfl,rfl⟩);have:=aQ hx;simp at this
 |a::b::r,_=>
  refine ax (λ_=>⟨by decide,a,rfl,ax (λha=>?_) (λha=>?_)⟩) (λhx=>?_)
  .have ha:=aQ ha
   have ha:a=92:=J6.1 (Int.ofNat_inj.1 ha);refine⟨by decide,b,rfl,by decide,?_,?_,rfl⟩
   .show(2:Int)<=((a::b::r).length:Int)
    simp only[a_];omega
   .simp only[single,aN ha];rfl
  .have ha:=aZ ha
   have ha:¬a=92:=λe=>ha (by rw[e];rfl);refine⟨by decide,a,rfl,by decide,?_,?_,rfl⟩
   .show(1:Int)<=((a::b::r).length:Int)
    simp only[a_];omega
   .simp only[single,aH ha];rfl
  .have:=aZ hx
   simp at this;omega
end Go.Proofs.YtihaaoehhgmphaaGreatDoor.P
