/- Texts of one proof, one behind the other. Conditions: as each theorem names them. -/
import Derived.Test.YtihaaoehhgmphaaGreatDoorQ5
import Derived.Lib.SliceRun
import Derived.Lib.SplitLaws
import Derived.Tactics
import Derived.Tactics2
import Derived.Defers
import Derived.Recover
import Derived.Shelf.Spec.SlicesGrow
import Derived.Laws.RangeAny
import Derived.Shelf.Strings.SlTrimAscii
import Derived.Lib.ItoaLen
import Derived.OpenShut
namespace Go.Proofs
open Go.Shelf
def Tryz.grow_ren : Go.Shelf.Ren := ⟨fun | 4 => 355 | n => n, fun | 22 => 27 | 25 => 32 | 3 => 3 | 4 => 4 | 9 => 9 | 20 => 20 | 0 => 0 | n => n, fun | n => n⟩
theorem Tryz.grow : Go.Proofs.Lays8.n4 Tryz.prog Tryz.grow_ren := {
 mixed := by kernel_rfl
 f4 := ⟨Tryz.f355.name, by decide, Tryz.func355.trans (congrArg some (by kernel_rfl))⟩
 t0 := Tryz.underlying0
 a0 := Tryz.isAgg0
 z0 := Tryz.sizeOf0
 v0 := Tryz.zeroValue0
 t3 := Tryz.underlying3
 a3 := Tryz.isAgg3
 z3 := Tryz.sizeOf3
 v3 := Tryz.zeroValue3
 t4 := Tryz.underlying4
 a4 := Tryz.isAgg4
 z4 := Tryz.sizeOf4
 v4 := Tryz.zeroValue4
 t9 := Tryz.underlying9
 a9 := Tryz.isAgg9
 z9 := Tryz.sizeOf9
 v9 := Tryz.zeroValue9
 t20 := Tryz.underlying20
 a20 := Tryz.isAgg20
 z20 := Tryz.sizeOf20
 v20 := Tryz.zeroValue20
 t22 := Tryz.underlying27
 a22 := Tryz.isAgg27
 z22 := Tryz.sizeOf27
 v22 := Tryz.zeroValue27 }
end Go.Proofs
set_option linter.all false
namespace Go.Proofs.YtihaaoehhgmphaaGreatDoor
open IntKind Go.RowKit Vc
set_option maxRecDepth 100000
variable{w w0:World}
def Af{fn:FuncId}{cap:List Value}{K:FuncId->List Value->List Value->Prop}(h:K fn [] cap):gu (.func (.func fn) #[] ⟨cap⟩) K:=h
def afo(f:FuncId)(cap:List Value)(w0:World)(S:Nat->Prop)(P:ag->Bool)(l:List ag):Prop:=
 dD aM f=true/\∀x∈l,∀w,Mod S w0 w->aq f ⟨.string (S' x)::cap⟩ w λe w'=>e=.returned (.bool (P x))/\Still w w'
where S' (x:ag):ByteArray:=Go.Proofs.YtihaaoehhgmphaaGreatDoor.Vc.S x
def adq{l:List ag}{j:Nat}(hj:j<l.length):(strs l)[j]?=some (.string (S l[j])):=by simp[strs,hj]
def aS.xO{B:Nat}{p:Option Addr}{c:Nat}{l:List ag}(h:aS w B cm 1 (.slice p l.length c) l.length (strs l)){j:Nat}(hj:j<l.length):∃g,p=some ⟨g,0,none⟩/\w.cell? ((Addr.mk g 0 none).add (j*1))=some (.string (S l[j])):=by obtain⟨g,cap,cur,hv,_⟩:=h.row (by omega);injection hv with e1 e2 e3;subst e1;refine⟨g,rfl,?_⟩;rw[aHa,cQ,aHp];exact h.cells rfl j _ (adq hj)
def aoh{B:Nat}{p:Option Addr}{c:Nat}{l:List ag}{f:FuncId}{cap:List Value}{S:Nat->Prop}{P:ag->Bool}(hl:l.length<=1000000)(h:aS w B cm 1 (.slice p l.length c) l.length (strs l))(hf:afo f cap w S P l):
  aq FQ #[.slice p l.length c,.func (.func f) #[] ⟨cap⟩] w λe w'=>∃r:Int,e=.returned (.int .i64 r)/\Still w w'/\((r= -1/\∀x∈l,P x=false)\/∃k:Nat,k<l.length/\r=(k:Int)/\(∀x∈l.take k,P x=false)/\∃x,l[k]?=some x/\P x=true):=by
 apply XT;refine⟨λi w1=>0<=i/\i<=(l.length:Nat)/\Still w w1/\∀x∈l.take i.toNat,P x=false,λi _=>(l.length-i).toNat,⟨by decide,by omega,Still.refl _,λx hx=>by simp at hx⟩,?_⟩;rintro i _ w1 ⟨i1,i2,s1,hno⟩;refine aA (λhi=>?_) (λhi=>?_)
 .have hi:i<(l.length:Nat):=by simpa using hi
  have hj:i.toNat<l.length:=by omega
  obtain⟨g,rfl,hc⟩:=(h.still s1).xO hj;refine⟨i1,hi,_,hc,Af (aA (λ_=>?_) (λh=>by rw[hf.1]at h;cases h))⟩;refine(hf.2 l[i.toNat] (kI hj) w1 (s1.weaken λ_ h=>h.elim)).mono ?_;rintro _ w2 ⟨rfl,s2⟩;refine .inl ⟨_,rfl,aA (λhb=>?_) (λhb=>?_)⟩
  .exact⟨i,rfl,s1.trans s2,.inr ⟨i.toNat,hj,by omega,hno,_,gW hj,hb⟩⟩
  .rw[wrap_i64 (by omega) (by omega)]
   refine⟨⟨by omega,by omega,s1.trans s2,λx hx=>?_⟩,by dsimp only;omega⟩;rw[show(i+1).toNat=i.toNat+1 by omega,FO hj,kW]at hx;rcases hx with hx|hx
   .exact hno x hx
   .obtain rfl:=gE.1 hx
    exact hb
 .have hi:¬i<(l.length:Nat):=by simpa using hi
  refine⟨-1,rfl,s1,.inl ⟨rfl,λx hx=>hno x ?_⟩⟩;rw[wu (by omega)];exact hx
def auX:Tryz.prog.underlying DZ=some (.slice cm):=rfl
def aq7(n:Nat):(Builtin.zeroCells (Value.string (S [])).cells n).toList=List.replicate n (.string (S [])):=by
 have:(Value.string (S [])).cells=#[.string (S [])]:=rfl;rw[this];simp[Builtin.zeroCells];apply List.ext_getElem
 .simp
 .intro i h1 h2
  simp[Nat.mod_one]
def asR{g o n c:Nat}{t:TypeId}{cs:List Value}{w:World}{K:World->Prop}(hn:0<n)(hr:Row w g t ⟨cs⟩)(hl:o+n<=cs.length)
  (h:∀w',Row w' g t ⟨fh cs o (List.replicate n (.string (S [])))⟩->Mod (λk=>k=g) w w'->w'.heap.size=w.heap.size->K w'):Mv aM DZ (.slice (some ⟨g,o,none⟩) n c) w K:=by
 have:=dO (g:=g) (o:=o) (vs:=List.replicate n (.string (S []))) hr (by simpa using hl) (λv hv=>by rw[List.eq_of_mem_replicate hv];rfl) (K:=λw'=>Row w' g t ⟨fh cs o (List.replicate n (.string (S [])))⟩/\Mod (λk=>k=g) w w'/\w'.heap.size=w.heap.size) λw' a b c=>⟨a,b,c⟩;obtain⟨w',h1,h2,h3,h4⟩:=aab (P:=aM) this;refine⟨w',λty=>?_,h w' h2 h3 h4⟩;have hz:∀w,(zeroValue cm).run aM w=.ok (.string (S [])) w:=adn;obtain⟨m,rfl⟩:∃m,n=m+1:=⟨n-1,by omega⟩;simp[Builtin.clear_,run_underlying auX,hz,aq7,h1,Result.andThen]
def anS{B:Nat}{p:Option Addr}{c:Nat}{l:List ag}{f:FuncId}{cap:List Value}{P:ag->Bool}(hl:l.length<=1000000)(h:aS w B cm 1 (.slice p l.length c) l.length (strs l))(hf:afo f cap w (λk=>(Value.slice p l.length c).ownBlock=some k) P l):
  aq Pv #[.slice p l.length c,.func (.func f) #[] ⟨cap⟩] w λe w'=>e=.returned (.slice p (l.filter λx=>!P x).length c)/\aS w' B cm 1 (.slice p (l.filter λx=>!P x).length c) (l.filter λx=>!P x).length (strs (l.filter λx=>!P x))/\Mod (λk=>(Value.slice p l.length c).ownBlock=some k) w w':=by
 apply ajD;refine(aoh hl h hf).mono ?_;rintro _ w1 ⟨r,rfl,s1,⟨rfl,hno⟩|⟨k,hk,rfl,hno,y,hy,hP⟩⟩
 .refine .inl ⟨_,rfl,aA (λ_=>?_) (λhb=>absurd rfl (aX hb))⟩
  have e:l.filter (λx=>!P x)=l:=FZ.2 λx hx=>by rw[hno x hx];rfl
  rw[e];exact⟨rfl,h.still s1,s1.weaken λ_ h=>h.elim⟩
 .refine .inl ⟨_,rfl,aA (λhb=>absurd (aR hb) (by omega)) (λ_=>?_)⟩
  obtain⟨g,rfl,_⟩:=h.xO hk;have e0:(l.take (k+1)).filter (λx=>!P x)=l.take k:=by rw[F8,hy];simp only[Option.toList_some,YD];rw[FZ.2 λx hx=>by rw[hno x hx];rfl];simp[hP]
  refine⟨λi j w2=>∃m:List ag,m.length=l.length/\aS w2 B cm 1 (.slice (some ⟨g,0,none⟩) l.length c) l.length (strs m)/\0<=i/\i<j/\j<=(l.length:Nat)/\m.take i.toNat=(l.take j.toNat).filter (λx=>!P x)/\i.toNat=((l.take j.toNat).filter (λx=>!P x)).length/\m.drop j.toNat=l.drop j.toNat/\Mod (λk=>k=g) w w2,λ_ j _=>(l.length-j).toNat,?_,?_⟩
  .rw[wrap_i64 (by omega) (by omega)]
   refine⟨l,rfl,h.still s1,by omega,by omega,by omega,?_,?_,rfl,s1.weaken λ_ h=>h.elim⟩
   .rw[show((k:Int)+1).toNat=k+1 by omega,show(k:Int).toNat=k by omega,e0]
   .rw[show((k:Int)+1).toNat=k+1 by omega,show(k:Int).toNat=k by omega,e0,aHl]
    omega
  rintro i j _ w2 ⟨m,hm,o2,i1,i2,i3,t1,t2,t3,m2⟩;refine aA (λhj=>?_) (λhj=>?_)
  .have hj:j<(l.length:Nat):=by simpa using hj
   have hjl:j.toNat<l.length:=by omega
   have hcell:w2.cell? ((Addr.mk g 0 none).add (j.toNat*1))=some (.string (S l[j.toNat])):=by
    have o2':aS w2 B cm 1 (.slice (some ⟨g,0,none⟩) m.length c) m.length (strs m):=by rw[hm];exact o2
    obtain⟨g',e,hc⟩:=o2'.xO (j:=j.toNat) (by omega);injection e with e;injection e with e;subst e;rw[hc];have e2:m[j.toNat]?=l[j.toNat]?:=by have:=gJ (λz=>z[0]?) t3;simpa[DG]using this
    rw[gW (by omega),gW hjl]at e2;rw[bU e2]
   refine⟨by omega,hj,_,hcell,Af (aA (λ_=>?_) (λh=>by rw[hf.1]at h;cases h))⟩;refine(hf.2 l[j.toNat] (kI hjl) w2 (m2.weaken λk hk=>by rw[hk];rfl)).mono ?_;rintro _ w3 ⟨rfl,s3⟩;have m3:Mod (λk=>k=g) w w3:=Mod.trans m2 s3 (λ_ h=>h) (λ_ _ h=>h.elim);have ts:(l.take (j+1).toNat).filter (λx=>!P x)=(l.take j.toNat).filter (λx=>!P x)++(if P l[j.toNat]then[]else[l[j.toNat]]):=by rw[show(j+1).toNat=j.toNat+1 by omega,FO hjl,YD];congr 1;rw[YQ,List.filter_nil];cases hq:P l[j.toNat]<;>rfl
   refine .inl ⟨_,rfl,aA (λhb=>?_) (λhb=>?_)⟩
   .have hb:P l[j.toNat]=false:=by simpa using hb
    refine⟨i1,by omega,?_⟩;rw[aHp];refine aS.store (o2.still s3) (by omega) rfl λw4 o4 m4 z4=>?_;rw[wrap_i64 (by omega) (by omega),wrap_i64 (by omega) (by omega)];have hit:i.toNat<m.length:=by omega
    have d1:((l.take j.toNat).filter (λx=>!P x)++[l[j.toNat]]).length=i.toNat+1:=by simp;omega
    refine⟨⟨m.set i.toNat l[j.toNat],by simpa using hm,?_,by omega,by omega,by omega,?_,?_,?_,Mod.trans m3 m4 (λ_ h=>h) (λ_ _ h=>h)⟩,by dsimp only;omega⟩
    .have:strs (m.set i.toNat l[j.toNat])=(strs m).set i.toNat (.string (S l[j.toNat])):=by simp[strs,List.map_set]
     rw[this];exact o4
    .rw[ts,hb,show(i+1).toNat=i.toNat+1 by omega,FO (by simpa using hit),List.take_set_of_le (aV _),t1]
     simp
    .rw[ts,hb]
     simp only[kV,iV];omega
    .rw[List.drop_set_of_lt (by omega),show(j+1).toNat=j.toNat+1 by omega,<-B0,t3,B0]
   .have hb:P l[j.toNat]=true:=by simpa using hb
    rw[wrap_i64 (by omega) (by omega)];refine⟨⟨m,hm,o2.still s3,i1,by omega,by omega,?_,?_,?_,m3⟩,by dsimp only;omega⟩
    .rw[ts,hb,t1];simp
    .rw[ts,hb];simpa using t2
    .rw[show(j+1).toNat=j.toNat+1 by omega,<-B0,t3,B0]
  .have hj:¬j<(l.length:Nat):=by simpa using hj
   have hjl:j.toNat=l.length:=by omega
   rw[hjl,wu (aV _)]at t1 t2;have hc:l.length<=c:=aS.af4 o2;refine⟨i1,by omega,?_⟩;rw[aG (by omega)];obtain⟨g',cap',cur,hv,hB,hr,hcc,hsz,ht⟩:=o2.row (by omega);injection hv with e1 e2 e3;injection e1 with e1;injection e1 with e1;subst e1 e3;have hcap:c<=maxLen:=by
    rcases o2.2 with⟨e,_⟩|⟨g2,cap2,aFZ,e,_,_,_,hm,_⟩
    .cases e
    .injection e with e1 e2 e3;omega
   have hr':Row w2 g cm ⟨cur.toList⟩:=by simpa using hr
   have hlen:cur.toList.length=c:=by simpa using hsz
   rw[aHp]at ht;show Mv aM DZ (.slice (some ((Addr.mk g 0 none).add (i.toNat*1))) _ _) _ _
   rw[aHa,cQ,aHp];refine asR (by omega) hr' (by omega) λw3 r3 m3 z3=>⟨i1,by omega,?_⟩;rw[ado _ _ _ (by simp;omega)]at r3;refine⟨by rw[t2],⟨by simp[strs],.inr ⟨g,c,_,rfl,hB,r3,by omega,hcap,?_,?_⟩⟩,Mod.trans m2 m3 (λk hk=>by rw[hk];rfl) (λk _ hk=>by rw[hk];rfl)⟩
   .simp only[wB,cB,aHl,ig,PZ,hlen]
    omega
   .rw[aHp,<-t2]
    rw[aIi,XZ (by simp;omega),Re,Nat.min_self,<-t1];have:(strs m).take i.toNat=strs (m.take i.toNat):=by simp[strs,List.map_take]
    rw[<-this,<-ht,Re,BZ (by omega)]
structure fJ(w:World):Prop where
 env:Env w
 max:∃m:Int,w.cell? ⟨0,0,none⟩=some (.int .i64 m)
def fJ.still{w':World}(h:fJ w)(hm:Still w w'):fJ w':=⟨h.env.still hm,by obtain⟨m,h2⟩:=h.max;exact⟨m,hm.cell h2⟩⟩
def aIv(s sep:ag):List ag:=Lib.split s sep
def abb(s sep:ag):(Lib.splitB (S sep) 0 (Lib.countB (S s) (S sep)) (S s)).map Value.string=strs (aIv s sep):=by
 have h:=Lib.splitB_data (S sep) 0 (Lib.countB (S s) (S sep)) (S s);have e:aIv s sep=Lib.splitK sep 0 (Lib.countB (S s) (S sep)) s:=rfl;rw[e,strs];have h2:(Lib.splitB (S sep) 0 (Lib.countB (S s) (S sep)) (S s))=(Lib.splitK sep 0 (Lib.countB (S s) (S sep)) s).map S:=by
  have:∀l:List ByteArray,l=(l.map (·.data.toList)).map S:=λl=>by
   rw[DU]
   conv=>lhs;rw[<-List.map_id l]
   apply List.map_congr_left;intro b _;rfl
  rw[this (Lib.splitB _ _ _ _),h]
 rw[h2,DU];rfl
def SD(s sep:ag)(h:sep≠[]):(aIv s sep).length=Lib.countB (S s) (S sep)+1/\(aIv s sep).length<=s.length+1:=by have h1:1<=(S sep).size:=mK.2 h;have e:=gJ List.length (abb s sep);have e2:=Lib.splitB_all (S sep) h1 0 _ (S s) rfl;have e3:=Lib.countB_le (S sep) h1 _ (S s) (aV _);have e4:(S s).size=s.length:=rfl;simp only[lG,strs]at e;omega
def LD(he:fJ w){s sep:ag}(hs:s.length<=900000)(hsep:sep≠[]):aq Rg #[.string (S s),.string (S sep)] w (λe w'=>∃p c,e=.returned (.slice p (aIv s sep).length c)/\aS w' w.heap.size cm 1 (.slice p (aIv s sep).length c) (aIv s sep).length (strs (aIv s sep))/\Still w w'):=by obtain⟨m,hm⟩:=he.max;obtain⟨l1,l2⟩:=SD s sep hsep;refine(Tryz.strings_Split (S s) (S sep) m w (by show s.length<_;omega) hm (mK.2 hsep)).mono ?_;rintro _ w' ⟨rfl,rfl⟩;refine⟨_,_,by rw[l1],?_,(Mod.refl _ _).alloc _⟩;rw[abb];have r:=Row.new w cm (strs (aIv s sep)).toArray;refine⟨by simp[strs],.inr ⟨w.heap.size,_,_,by rw[l1],aV _,r,by omega,?_,by simp[strs,l1],by rw[aHp];exact wu (by simp[strs])⟩⟩;simp only[maxLen];omega
def adr(x:ag):Bool:=decide (x=[])
def HA(path:ag):List ag:=(aIv path [47]).filter λx=>!adr x
def anA:dD aM Rj=true:=by kernel_rfl
def ao9(he:fJ w){path:ag}(hs:path.length<=1000):aq aKz #[.string (S path)] w (λe w'=>∃p c,e=.returned (.slice p (HA path).length c)/\aS w' w.heap.size cm 1 (.slice p (HA path).length c) (HA path).length (strs (HA path))/\Still w w'):=by
 apply am0;refine(LD he (by omega) (by decide)).mono ?_;rintro _ w1 ⟨p,c,rfl,ho,s1⟩;have hl:=(SD path [47] (by decide)).2;refine .inl ⟨_,_,_,rfl,(anS (P:=adr) (cap:=[]) (by omega) ho ⟨anA,λx _ w _=>?_⟩).mono ?_⟩
 .apply amo
  exact⟨rfl,Still.refl _⟩
 .rintro _ w2 ⟨rfl,o2,m2⟩
  exact .inl ⟨_,_,_,rfl,p,c,rfl,o2,s1.own ho (aV _) m2⟩
def nV(b:Bool)(x:Int)(hb:b=true):aq jX #[.bool b,.int .i64 x] w (λe w'=>e=.returned (.tuple #[])/\w'=w):=by subst hb;apply anM;exact aA (λh=>by cases h) (λ_=>⟨rfl,rfl⟩)
abbrev VD:TypeId:=186
abbrev y_:TypeId:=374
abbrev iM(w:World)(pb a:Nat):Prop:=Row w pb VD ⟨[.pointer (some ⟨a,0,none⟩),.string (S []),.int .i64 0]⟩
def Ak{a:Nat}{um:Int}(hu:um=0):aq aJm #[.pointer (some ⟨a,0,none⟩),.string (S []),.int .i64 um] w (λe w'=>e=.returned (.pointer (some ⟨w.heap.size,0,none⟩))/\iM w' w.heap.size a/\Still w w'/\w'.heap.size=w.heap.size+1):=by
 subst hu;apply an7;refine aQ λw1 r1 s1 z1=>?_;have:bits .and .i64 0 7=0:=by decide
 rw[this]at r1;exact⟨rfl,r1,s1,z1⟩
section
variable{a g n:Nat}{tr:Option Tb}{T:Tree}
def RF.new(h:cU w w0.heap.size a g tr n T){k:Nat}(hk:w.heap.size<=k):¬RF tr k:=λhr=>by have:=(h.k6 (RF.sf (a:=a) (g:=g) hr)).2;omega
def awl(he:Env w0)(h0:Still w0 w)(h:cU w w0.heap.size a g tr n T){p:ag}(hp:p.length<=1000){Sw:World->Prop}{xJ:Option Addr->World->Prop}{R:List PanicEntry->World->Prop}
  (OH:∀w',Mod (RF tr) w w'->Sw w')(hJ:∀b w',w.heap.size<=b->Row w' b qH ⟨vt (jl T p)⟩->cU w' w0.heap.size a g tr (n+1) T->Mod (RF tr) w w'->xJ (some ⟨b,0,none⟩) w'):
  aq qE #[.pointer (some ⟨a,0,none⟩),.string (S p)] w (λed w1=>(∃dh:Int,∃aHB:Int,∃aHC:List UInt8,ed=.returned (.agg #[(.int .i64 dh),(.int .i64 aHB),(.string (S aHC))])/\c7 (w1.alloc (.cells #[(.int .i64 0),(.int .i64 0),(.string (S ([]:List UInt8)))] qH)) (λ(w2:World)=>Sw w2/\cJ (Addr.mk w1.heap.size 0 none) (λ(w3:World)=>xJ (some (Addr.mk w1.heap.size 0 none)) w3) 0 [(.int .i64 dh),(.int .i64 aHB),(.string (S aHC))] w2))\/(∃ch,ed=.panicked ch/\R ch w1)):=by
 refine(Uc he h0 h hp).mono ?_;rintro _ w1 ⟨rfl,h1,m1⟩;refine .inl ⟨_,_,_,rfl,aQ λw2 r2 s2 z2=>?_⟩;have m2:Mod (RF tr) w w2:=Mod.trans m1 s2 (λ_ h=>h) (λ_ _ h=>h.elim);refine⟨OH _ m2,aHb (g:=w1.heap.size) (o:=0) r2 λw3 r3 m3 z3=>?_⟩;refine hJ _ _ m1.size r3 ((h1.still s2).mod m3 λk hk e=>?_) (Mod.trans m2 m3 (λ_ h=>h) λi hi e=>?_)
 .have:=(h1.k6 hk).2;omega
 .have:=m1.size;omega
def aes(he:Env w0)(h0:Still w0 w)(h:cU w w0.heap.size a g tr n T){p:ag}(hp:p.length<=1000){xJ:Option Addr->World->Prop}{R:List PanicEntry->World->Prop}{b:Nat}{cs:List Value}(hb:Row w b qH ⟨cs⟩)(hl:cs.length=3)(hn:∀k,SF a g tr k->k≠b)
  (hJ:∀w',Row w' b qH ⟨vt (jl T p)⟩->cU w' w0.heap.size a g tr (n+1) T->Mod (λk=>RF tr k\/k=b) w w'->xJ (some ⟨b,0,none⟩) w'):
  aq qE #[.pointer (some ⟨a,0,none⟩),.string (S p)] w (λed w1=>(∃dh:Int,∃aHB:Int,∃aHC:List UInt8,ed=.returned (.agg #[(.int .i64 dh),(.int .i64 aHB),(.string (S aHC))])/\cJ (Addr.mk b 0 none) (λ(w6:World)=>xJ (some (Addr.mk b 0 none)) w6) 0 [(.int .i64 dh),(.int .i64 aHB),(.string (S aHC))] w1)\/(∃ch,ed=.panicked ch/\R ch w1)):=by
 refine(Uc he h0 h hp).mono ?_;rintro _ w1 ⟨rfl,h1,m1⟩;have hU:=hb.mod m1 (λhr=>hn _ (RF.sf hr) rfl);refine .inl ⟨_,_,_,rfl,dO (g:=b) (o:=0) hU (by simp[hl]) (by simp[Value.oneCell']) λw3 r3 m3 z3=>?_⟩;have e:fh cs 0 [Value.int .i64 (jl T p).k,Value.int .i64 (jl T p).m,Value.string (S (jl T p).d)]=vt (jl T p):=by
  obtain⟨x,y,z,rfl⟩:∃x y z,cs=[x,y,z]:=by
   match cs,hl with
   |[x,y,z],_=>exact⟨x,y,z,rfl⟩
  rfl
 rw[e]at r3;exact hJ _ r3 (h1.mod m3 λk hk e=>hn k hk e) (Mod.trans m1 m3 (λ_ h=>.inl h) λi hi e=>.inr e)
def Ask(w w0:World)(a g n:Nat)(tr:Option Tb)(T:Tree)(p:ag)(ex:Option Addr)(w':World):Prop:=∃b,ex=some ⟨b,0,none⟩/\w.heap.size<=b/\Row w' b qH ⟨vt (jl T p)⟩/\cU w' w0.heap.size a g tr (n+1) T/\Mod (RF tr) w w'
def Ask.pre{v:World}(hs:Still v w){p:ag}{ex:Option Addr}{w':World}(h:Ask w w0 a g n tr T p ex w'):Ask v w0 a g n tr T p ex w':=by obtain⟨b,h1,h2,h3,h4,h5⟩:=h;exact⟨b,h1,kJ hs.size h2,h3,h4,Mod.trans hs h5 (λ_ h=>h.elim) (λ_ _ h=>h)⟩
def Ud(he:Env w0)(h0:Still w0 w)(h:cU w w0.heap.size a g tr n T){p:ag}(hp:p.length<=1000){v:World}(hv:Still v w){Sw:World->Prop}{R R':List PanicEntry->World->Prop}
  (OH:∀w',Mod (RF tr) w w'->Sw w'):
  (aq qE #[.pointer (some ⟨a,0,none⟩),.string (S p)] w (λed w1=>(∃dh:Int,∃aHB:Int,∃aHC:List UInt8,ed=.returned (.agg #[(.int .i64 dh),(.int .i64 aHB),(.string (S aHC))])/\c7 (w1.alloc (.cells #[(.int .i64 0),(.int .i64 0),(.string (S ([]:List UInt8)))] qH)) (λ(w2:World)=>Sw w2/\cJ (Addr.mk w1.heap.size 0 none) (λ(w3:World)=>Ask v w0 a g n tr T p (some (Addr.mk w1.heap.size 0 none)) w3) 0 [(.int .i64 dh),(.int .i64 aHB),(.string (S aHC))] w2))\/(∃ch,ed=.panicked ch/\R ch w1)))/\
  (c7 (w.alloc (.cells #[(.int .i64 0),(.int .i64 0),(.string (S ([]:List UInt8)))] qH)) (λ(w4:World)=>Sw w4/\aq qE #[.pointer (some ⟨a,0,none⟩),.string (S p)] w4 (λed w1=>(∃dh:Int,∃aHB:Int,∃aHC:List UInt8,ed=.returned (.agg #[(.int .i64 dh),(.int .i64 aHB),(.string (S aHC))])/\cJ (Addr.mk w.heap.size 0 none) (λ(w6:World)=>Ask v w0 a g n tr T p (some (Addr.mk w.heap.size 0 none)) w6) 0 [(.int .i64 dh),(.int .i64 aHB),(.string (S aHC))] w1)\/(∃ch,ed=.panicked ch/\R' ch w1)))):=by
 refine⟨awl (xJ:=Ask v w0 a g n tr T p) he h0 h hp OH (λb w' hb hr h1 m1=>Ask.pre hv ⟨b,rfl,hb,hr,h1,m1⟩),aQ λw1 r1 s1 z1=>⟨OH _ (s1.weaken λ_ h=>h.elim),?_⟩⟩;refine aes (xJ:=Ask v w0 a g n tr T p) he (h0.trans s1) (h.still s1) hp r1 rfl (λk hk e=>by have:=(h.k6 hk).2;omega) λw2 r2 h2 m2=>Ask.pre hv ⟨_,rfl,aV _,r2,h2,Mod.trans s1 m2 (λ_ h=>h.elim) λi hi e=>?_⟩;rcases e with e|e
 .exact e
 .omega
def ads:jl T []=⟨2,7,[]⟩:=by simp[jl]
def apR(he:Env w0)(h0:Still w0 w)(h:cU w w0.heap.size a g tr n T){pb wb:Nat}(hp:iM w pb a){r:List Value}(hw:Row w wb y_ ⟨.pointer (some ⟨pb,0,none⟩)::.string (S [])::r⟩)(hnp:¬RF tr pb)(Dd:¬RF tr wb):
  aq QM #[.pointer (some ⟨wb,0,none⟩)] w (λe w'=>e=.returned (.tuple #[])/\cU w' w0.heap.size a g tr (n+1) T/\Mod (RF tr) w w'):=by
 apply alz;have sD:Still w w.drew:=(Still.refl w).cy;have hD:=h.still sD;have fin:∀wq,Mod (RF tr) w.drew wq->iM wq pb a/\Row wq wb y_ ⟨.pointer (some ⟨pb,0,none⟩)::.string (S [])::r⟩:=λwq m=>⟨(hp.still sD).mod m hnp,(hw.still sD).mod m Dd⟩;refine⟨Ask w w0 a g n tr T [],?_,?_⟩
 .refine⟨λwq=>iM wq pb a/\Row wq wb y_ ⟨.pointer (some ⟨pb,0,none⟩)::.string (S [])::r⟩,fin _ (Mod.refl _ _),_,λwq hq=>hq.2.aj rfl,_,λwq hq=>hq.1.aj rfl,_,λwq hq=>hq.2.aj rfl,?_⟩
  exact Ud he (h0.trans sD) hD (p:=[]) (dK _) sD fin
 .rintro _ _ w1 ⟨b,rfl,hb,hr,h1,m1⟩
  rw[ads]at hr;refine⟨_,hr.aj rfl,(nV _ _ (by decide)).mono ?_⟩;rintro _ _ ⟨rfl,rfl⟩;refine .inl ⟨rfl,_,hr.aj rfl,(nV _ _ (by decide)).mono ?_⟩;rintro _ _ ⟨rfl,rfl⟩;refine .inl ⟨rfl,_,hr.aj rfl,(nV _ _ (by decide)).mono ?_⟩;rintro _ _ ⟨rfl,rfl⟩;exact .inl ⟨rfl,rfl,h1,m1⟩
structure sx(path nm:ag):Prop where
 WK:HA path=[nm]
 ne:path≠[]
 len:path.length<=200
 VE:nm.length<=32
 aJy:Lib.hasSuffix path [47]=false
 azv:nm≠[46,46]
def mP(nm:ag):ag:=if nm=[46]then[]else 47::nm
abbrev EE(pb:Nat)(at':ag)(p:Option Addr)(l c:Nat)(b:Bool):List Value:=[.pointer (some ⟨pb,0,none⟩),.string (S at'),.slice p l c,.int .i64 0,.bool b,.bool false]
def asS(he:Env w0)(h0:Still w0 w)(h:cU w w0.heap.size a g tr n T){pb wb:Nat}(hp:iM w pb a){p:Option Addr}{c:Nat}{fo:Bool}{nm:ag}(hw:Row w wb y_ ⟨EE pb [] p 1 c fo⟩){B:Nat}(ho:aS w B cm 1 (.slice p 1 c) 1 (strs [nm]))(hnp:¬RF tr pb)(Dd:¬SF a g tr wb)(WQ:pb≠wb)(hwb:w0.heap.size<=wb)(hl:nm.length<=32)(hd:nm≠[46,46]):
  aq Q_ #[.pointer (some ⟨wb,0,none⟩)] w (λe w'=>e=.returned (.tuple #[])/\cU w' w0.heap.size a g tr (n+2) T/\(∃p' c',Row w' wb y_ ⟨EE pb (mP nm) p' 0 c' fo⟩)/\Mod (λk=>RF tr k\/k=wb) w w'):=by
 have ho':aS w B cm 1 (.slice p ([nm]:List ag).length c) ([nm]:List ag).length (strs [nm]):=ho;obtain⟨gs,rfl,hc⟩:=ho'.xO (j:=0) (by simp);apply al7;refine⟨_,_,_,hw.aj rfl,by decide,by decide,_,hc,_,_,_,hw.aj rfl,by decide,by decide,?_⟩;refine aHb (g:=wb) (o:=2) hw λw1 r1 m1 z1=>?_;have h1:=h.mod m1 λk hk e=>Dd (by rw[<-e];exact hk);have hp1:=hp.mod m1 WQ;have VF:¬RF tr wb:=λhr=>Dd (RF.sf hr);have rB:Still w0 w1:=Mod.trans h0 m1 (λ_ h=>h) λi hi e=>by omega
 refine(apR he rB h1 hp1 r1 hnp VF).mono ?_;rintro _ w2 ⟨rfl,h2,m2⟩;obtain⟨p2,c2,r2⟩:∃p2 c2,Row w2 wb y_ ⟨EE pb [] p2 0 c2 fo⟩:=⟨_,_,r1.mod m2 VF⟩;have hp2:=hp1.mod m2 hnp;have vU:Still w0 w2:=Mod.trans rB m2 (λ_ h=>h) λi hi e=>by have:=(h1.k6 (RF.sf e)).1;omega
 have xP:Mod (λk=>RF tr k\/k=wb) w w2:=Mod.trans m1 m2 (λ_ h=>.inr h) (λ_ _ h=>.inl h);refine .inl ⟨rfl,(nV _ _ (fe (by show(nm.length:Int)<=32;omega))).mono ?_⟩;rintro _ _ ⟨rfl,rfl⟩;refine .inl ⟨rfl,aA (λhb=>?_) (λhb=>aA (λfS=>absurd (aR fS) hd) (λ_=>?_))⟩
 .have e:nm=[46]:=aR hb
  exact⟨rfl,h2.up (B6 _),⟨p2,c2,by rw[mP,aL e];exact r2⟩,xP⟩
 .have e:nm≠[46]:=aX hb
  have e2:mP nm=47::nm:=aG e;have hle:([]++[47]++nm:ag).length<=1000:=by simp;omega
  refine⟨_,r2.aj rfl,by simp,by simp;omega,_,r2.aj rfl,_,hp2.aj rfl,(Uc he vU h2 (p:=[]++[47]++nm) hle).mono ?_⟩;rintro _ w3 ⟨rfl,h3,m3⟩;have ek:(jl T ([]++[47]++nm)).k≠3:=by rcases(UD h3.eS.1 ([]++[47]++nm)).k with h|h|h<;>omega
  have r3:=r2.mod m3 VF;refine .inl ⟨_,_,_,rfl,aQ λw4 r4 s4 z4=>aHb (g:=w3.heap.size) (o:=0) r4 λw5 r5 m5 z5=>?_⟩;have Ju:Still w3 w5:=s4.box (aV _) m5;have Ov:=r3.still Ju;have h5:=h3.still Ju;refine⟨_,_,_,Ov.aj rfl,λb wq=>b=false/\wq=w5,⟨_,r5.aj rfl,aA (λhb=>absurd (aR hb) ek) (λ_=>⟨rfl,rfl⟩)⟩,?_⟩;rintro _ _ w6 ⟨rfl,rfl⟩;refine aA (λhb=>by cases hb) (λ_=>aA (λ_=>?_) (λhb=>absurd rfl (aX hb)));refine(nV _ _ rfl).mono ?_;rintro _ _ ⟨rfl,rfl⟩;refine .inl ⟨rfl,aHb (g:=wb) (o:=1) Ov λw7 r7 m7 z7=>?_⟩;refine⟨rfl,h5.mod m7 λk hk e=>Dd (by rw[<-e];exact hk),⟨p2,c2,?_⟩,Mod.trans (Mod.trans (Mod.trans xP m3 (λ_ h=>h) (λ_ _ h=>.inl h)) Ju (λ_ h=>h) (λ_ _ h=>h.elim)) m7 (λ_ h=>h) (λ_ _ h=>.inr h)⟩;rw[e2];exact r7
def find_spec(b_:fJ w0)(h0:Still w0 w)(h:cU w w0.heap.size a g tr n T){pb:Nat}(hp:iM w pb a)(hnp:¬RF tr pb){path nm:ag}(o:sx path nm)(fo:Bool):
  aq aKk #[.pointer (some ⟨pb,0,none⟩),.string (S path),.bool fo] w (λe w'=>e=.returned (.tuple #[.string (S (mP nm)),vu (jl T (mP nm))])/\cU w' w0.heap.size a g tr (n+3) T/\Mod (RF tr) w w'):=by
 have he:=b_.env;apply al5;refine aQ λw1 r1 s1 z1=>(nV _ _ (by simp[o.ne])).mono ?_;rintro _ _ ⟨rfl,rfl⟩;refine .inl ⟨rfl,(nV _ _ (fe (by have:=o.len;omega))).mono ?_⟩;rintro _ w1 ⟨rfl,rfl⟩;have hn0:∀k,w.heap.size<=k->¬SF a g tr k:=λk hk hr=>by have:=(h.k6 hr).2;omega
 have hwr:∀k,w.heap.size<=k->¬RF tr k:=λk hk hr=>hn0 k hk (RF.sf hr);have hpb:=hp.lt;have rB:=h0.trans s1;have hz0:=h0.size;have hp1:=hp.still s1;have h1:=h.still s1;have sD:Still w1 w1.drew:=(Still.refl _).cy;refine .inl ⟨rfl,λwq=>iM wq pb a,hp1.still sD,_,λwq hq=>hq.aj rfl,(ao9 (b_.still (rB.trans sD)) (by have:=o.len;omega)).mono ?_⟩;rintro _ w2 ⟨p,c,rfl,ho,s2⟩;have dP:=sD.trans s2;rw[o.WK]at ho;refine .inl ⟨_,_,_,rfl,hp1.still dP,(Tryz.strings_HasSuffix (S path) (S [47]) w2 (by show path.length<=_;have:=o.len;omega)).mono ?_⟩;rintro _ w2 ⟨rfl,rfl⟩;refine .inl ⟨_,rfl,hp1.still dP,?_⟩;rw[show Lib.hasSuffix (S path).data.toList (S [47]).data.toList=false from o.aJy,o.WK];refine aQ λw3 r3 s3 z3=>?_;have aHY:=dP.trans s3;have azw:=dP.size;refine⟨λwq=>Row wq w2.heap.size y_ ⟨EE pb [] p 1 c fo⟩/\Still w1 wq/\aS wq w1.drew.heap.size cm 1 (.slice p 1 c) 1 (strs [nm]),⟨by decide,?_⟩,?_⟩
 .cases aym:path with
  |nil=>exact absurd aym o.ne
  |cons x r=>refine⟨x,rfl,aA (λ_=>?_) (λ_=>⟨r3,aHY,ho.still s3⟩)⟩;refine aHb (g:=w2.heap.size) (o:=1) r3 λw4 r4 m4 z4=>⟨r4,aHY.box azw m4,(ho.still s3).mod m4 λk hk e=>?_⟩;have:=(ho.lt k hk).2;omega
 rintro _ w4 ⟨r4,s4,o4⟩;have WQ:pb≠w2.heap.size:=by omega
 refine⟨λwq=>∃at' p' l c',(l=1/\at'=[]/\wq=w4/\p'=p/\c'=c\/l=0/\at'=mP nm)/\Row wq w2.heap.size y_ ⟨EE pb at' p' l c' fo⟩/\cU wq w0.heap.size a g tr (n+2) T/\Mod (RF tr) w1 wq,λwq=>match wq.cell? ⟨w2.heap.size,2,none⟩with
  |some (.slice _ l _)=>l
  |_=>0,⟨[],p,1,c,.inl ⟨rfl,rfl,rfl,rfl,rfl⟩,r4,(h1.still s4).up (by omega),s4.weaken λ_ h=>h.elim⟩,?_⟩
 rintro _ w5 ⟨at',p',l,c',hl,r5,h5,m5⟩;refine⟨_,_,_,r5.aj rfl,aA (λhb=>?_) (λhb=>?_)⟩
 .rcases hl with⟨rfl,rfl,rfl,rfl,rfl⟩|⟨rfl,_⟩
  .refine(asS he (rB.trans s4) (h1.still s4) (hp1.still s4) r5 o4 hnp (hn0 _ (by omega)) WQ (by omega) o.VE o.azv).mono ?_
   rintro _ w6 ⟨rfl,h6,⟨p6,c6,r6⟩,m6⟩;refine .inl ⟨rfl,⟨_,p6,0,c6,.inr ⟨rfl,rfl⟩,r6,h6,Mod.trans s4 m6 (λ_ h=>h.elim) λi hi e=>?_⟩,?_⟩
   .rcases e with e|e
    .exact e
    .omega
   .have e1:w6.cell? ⟨w2.heap.size,2,none⟩=some (.slice p6 0 c6):=r6.aj rfl
    have e2:w5.cell? ⟨w2.heap.size,2,none⟩=some (.slice p' 1 c'):=r5.aj rfl;dsimp only;rw[e1,e2];exact Nat.zero_lt_one
  .exact absurd (aR hb) (by decide)
 .rcases hl with⟨rfl,_⟩|⟨rfl,rfl⟩
  .exact absurd (aX hb) (by decide)
  have WR:Still w0 w5:=Mod.trans rB m5 (λ_ h=>h) λi hi e=>by have:=(h.k6 (RF.sf e)).1;omega
  have De:Still w5 w5.drew:=(Still.refl _).cy;have aJM:=hp1.mod m5 hnp;have agZ:=hwr w2.heap.size (by omega);have ayn:(mP nm).length<=1000:=by
   unfold mP;split
   .simp
   .have:=o.VE;simp;omega
  refine⟨Ask w5 w0 a g (n+2) tr T (mP nm),⟨λwq=>iM wq pb a/\Row wq w2.heap.size y_ ⟨EE pb (mP nm) p' 0 c' fo⟩,⟨aJM.still De,r5.still De⟩,_,λwq hq=>hq.1.aj rfl,_,λwq hq=>hq.2.aj rfl,Ud he (WR.trans De) (h5.still De) ayn De λw' m=>⟨(aJM.still De).mod m hnp,(r5.still De).mod m agZ⟩⟩,?_⟩;rintro _ _ w6 ⟨b,rfl,hb,r6,h6,m6⟩;have rw6:=r5.mod m6 agZ;refine⟨λwq=>wq=w6,⟨_,rw6.aj rfl,aA (λ_=>(nV _ _ rfl).mono (by rintro _ _ ⟨rfl,rfl⟩;exact .inl ⟨rfl,rfl⟩)) (λhb=>by cases hb)⟩,?_⟩;rintro _ w7 rfl;have Df:Still w7 w7.drew:=(Still.refl _).cy;have m17:Mod (RF tr) w1 w7:=Mod.trans m5 m6 (λ_ h=>h) (λ_ _ h=>h);have rr:=(r1.mod m17 (hwr _ (aV _))).still Df;refine⟨λwq=>wq=w7.drew,rfl,_,λwq hq=>by rw[hq];exact(rw6.still Df).aj rfl,_,_,_,λwq hq=>by rw[hq];exact(r6.still Df).aj rfl,λwq hq=>by rw[hq];exact(r6.still Df).aj rfl,λwq hq=>by rw[hq];exact(r6.still Df).aj rfl,?_⟩;refine aHb (g:=w.heap.size) (o:=0) rr λw8 r8 m8 z8=>?_;refine⟨_,_,_,r8.aj rfl,r8.aj rfl,r8.aj rfl,rfl,(h6.still Df).mod m8 λk hk e=>hn0 _ (RB e.symm) hk,?_⟩;exact Mod.trans (Mod.trans (Mod.trans s1 m17 (λ_ h=>h.elim) (λ_ _ h=>h)) Df (λ_ h=>h) (λ_ _ h=>h.elim)) m8 (λ_ h=>h) (λi hi e=>by omega)
end
def asT(p:Addr)(w:World):
  CallsD aM aIP #[.pointer (some p)] .returning w λe u' w'=>e=.returned (.tuple #[])/\u'=.returning/\w'=w:=by
 refine callsD_of_wpS Tryz.func247 rfl λc₀ cs hu=>?_;apply wpS_seq;apply wpS_region;simp[wpOpsS,go_sem,recoverD,hu,Tryz.ntmps247,Exit.thenS];apply wpS_seq;apply wpS_region;simp[wpOpsS,go_sem,Tryz.ntmps247,Exit.thenS];refine wpS_cond (t:=false) (by simp[Act.eval,Array.replicate]) ?_;simp only[kV,iV];refine wpS_of_wp (wp_skip ?_);cases c₀;simp_all [bodyPostS,results,Tryz.results247]
def aet{p:Addr}{w:World}{K:World->Prop}(h:K w):CallsD aM aIP #[.pointer (some p)] .returning w λe ux w'=>(∃rv,e=.returned rv)/\settle ux=.returning/\K w':=by refine(asT p w).mono ?_;rintro _ _ _ ⟨rfl,rfl,rfl⟩;exact⟨⟨_,rfl⟩,rfl,h⟩
def abc{place:ag}(hl:place.length<=1000)(h0:Lib.lastIndexByte (S place) 47=0):aq Gr #[.string (S place)] w (λe w'=>e=.returned (.string (S []))/\w'=w):=by apply anq;refine(Tryz.strings_LastIndexByte (S place) 47 (by show place.length<_;omega) w).mono ?_;rintro _ w1 ⟨rfl,rfl⟩;rw[h0];refine .inl ⟨_,rfl,by decide,by simp,?_⟩;simp[zR]
section
variable{a g n:Nat}{tr:Option Tb}{T:Tree}
def asU(he:Env w0)(h0:Still w0 w)(h:cU w w0.heap.size a g tr n T){pb:Nat}(hp:iM w pb a)(hnp:¬RF tr pb){place:ag}(hl:place.length<=1000)(hne:place≠[])(hi:Lib.lastIndexByte (S place) 47=0):
  aq Q9 #[.pointer (some ⟨pb,0,none⟩),.string (S place)] w (λe w'=>e=.returned (.tuple #[])/\cU w' w0.heap.size a g tr (n+1) T/\Mod (RF tr) w w'):=by
 apply al6;have sD:Still w w.drew:=(Still.refl w).cy;have hD:=h.still sD;have Jw:=hp.still sD;refine⟨Ask w w0 a g n tr T [],?_,?_⟩
 .refine⟨λwq=>iM wq pb a,Jw,_,λwq hq=>hq.aj rfl,?_,?_⟩
  .refine(abc hl hi).mono ?_
   rintro _ _ ⟨rfl,rfl⟩;refine .inl ⟨_,rfl,Jw,?_⟩;exact Ud he (h0.trans sD) hD (p:=[]) (dK _) sD λw' m=>Jw.mod m hnp
  .refine aQ λw1 r1 s1 z1=>⟨Jw.still s1,(abc hl hi).mono ?_⟩
   rintro _ w2 ⟨rfl,rfl⟩;refine .inl ⟨_,rfl,Jw.still s1,?_⟩;refine aes (xJ:=Ask w w0 a g n tr T []) he ((h0.trans sD).trans s1) (hD.still s1) (p:=[]) (dK _) r1 rfl (λk hk e=>by have:=(hD.k6 hk).2;omega) λw2 r2 h2 m2=>⟨_,rfl,aV _,r2,h2,Mod.trans (sD.trans s1) m2 (λ_ h=>h.elim) λi hi e=>?_⟩;rcases e with e|e
   .exact e
   .have:w.drew.heap.size=w.heap.size:=rfl
    omega
 .rintro _ _ w1 ⟨b,rfl,hb,hr,h1,m1⟩
  rw[ads]at hr;refine(nV _ _ (by simp[hne])).mono ?_;rintro _ _ ⟨rfl,rfl⟩;refine .inl ⟨rfl,_,hr.aj rfl,(nV _ _ (by decide)).mono ?_⟩;rintro _ _ ⟨rfl,rfl⟩;refine .inl ⟨rfl,_,hr.aj rfl,(nV _ _ (by decide)).mono ?_⟩;rintro _ _ ⟨rfl,rfl⟩;exact .inl ⟨rfl,rfl,h1,m1⟩
def aq8(b_:fJ w0)(h0:Still w0 w)(h:cU w w0.heap.size a g tr n T){pb:Nat}(hp:iM w pb a)(hnp:¬RF tr pb){path nm:ag}(o:sx path nm)(fo:Bool)(hk:(jl T (mP nm)).k≠0):
  aq Q0 #[.pointer (some ⟨pb,0,none⟩),.string (S path),.bool fo] w (λe w'=>e=.returned (.tuple #[.string (S (mP nm)),vu (jl T (mP nm))])/\cU w' w0.heap.size a g tr (n+3) T/\Mod (RF tr) w w'):=by
 apply alQ;refine aQ λw1 r1 s1 z1=>(find_spec b_ (h0.trans s1) (h.still s1) (hp.still s1) hnp o fo).mono ?_;rintro _ w2 ⟨rfl,h2,m2⟩;have hwr:∀k,w.heap.size<=k->¬RF tr k:=λk hk hr=>RF.new h hk hr;refine .inl ⟨_,_,_,_,rfl,aQ λw3 r3 s3 z3=>aHb (g:=w2.heap.size) (o:=0) r3 λw4 r4 m4 z4=>?_⟩;have jd:Still w2 w4:=s3.box (aV _) m4;refine⟨_,r4.aj rfl,(nV _ _ (by simp[hk])).mono ?_⟩;rintro _ w5 ⟨rfl,rfl⟩;have sD:Still w5 w5.drew:=(Still.refl _).cy;refine .inl ⟨rfl,λwq=>wq=w5.drew,rfl,_,_,_,λwq hq=>by rw[hq];exact(r4.still sD).aj rfl,λwq hq=>by rw[hq];exact(r4.still sD).aj rfl,λwq hq=>by rw[hq];exact(r4.still sD).aj rfl,?_⟩;have m15:Mod (RF tr) w1 w5.drew:=Mod.trans m2 (jd.trans sD) (λ_ h=>h) (λ_ _ h=>h.elim);have Fh:=r1.mod m15 (hwr _ (aV _));refine aHb (g:=w.heap.size) (o:=0) Fh λw6 r6 m6 z6=>?_;refine⟨_,_,_,r6.aj rfl,r6.aj rfl,r6.aj rfl,rfl,(h2.still (jd.trans sD)).mod m6 λk hk e=>?_,?_⟩
 .have:=(h.k6 hk).2;omega
 .exact Mod.trans (Mod.trans s1 m15 (λ_ h=>h.elim) (λ_ _ h=>h)) m6 (λ_ h=>h) (λi hi e=>by omega)
def acr(b_:fJ w0)(h0:Still w0 w)(h:cU w w0.heap.size a g tr n T){pb:Nat}(hp:iM w pb a)(hnp:¬RF tr pb){path nm d:ag}(o:sx path nm)(hf:jl T (mP nm)=⟨1,6,d⟩):
  aq KK #[.pointer (some ⟨pb,0,none⟩),.string (S path)] w (λe w'=>e=.returned (.tuple #[.string (S d),.int .i64 0])/\cU w' w0.heap.size a g tr (n+3) T/\Mod (RF tr) w w'):=by
 apply al4;refine aQ λw1 r1 s1 z1=>(aq8 b_ (h0.trans s1) (h.still s1) (hp.still s1) hnp o true (by rw[hf];exact Q8)).mono ?_;rintro _ w2 ⟨rfl,h2,m2⟩;rw[hf];have hwr:∀k,w.heap.size<=k->¬RF tr k:=λk hk hr=>RF.new h hk hr;refine .inl ⟨_,_,_,_,rfl,aQ λw3 r3 s3 z3=>aHb (g:=w2.heap.size) (o:=0) r3 λw4 r4 m4 z4=>?_⟩;have jd:Still w2 w4:=s3.box (aV _) m4;refine⟨_,r4.aj rfl,(nV _ _ (by show(!decide ((1:Int)=2))=true;decide)).mono ?_⟩;rintro _ _ ⟨rfl,rfl⟩;refine .inl ⟨rfl,_,r4.aj rfl,(nV _ _ (by show(!decide (bits .and .i64 6 4=0))=true;decide)).mono ?_⟩;rintro _ w5 ⟨rfl,rfl⟩;have m15:Mod (RF tr) w1 w5:=Mod.trans m2 jd (λ_ h=>h) (λ_ _ h=>h.elim);refine .inl ⟨rfl,_,r4.aj rfl,aHb (g:=w.heap.size) (o:=0) (r1.mod m15 (hwr _ (aV _))) λw6 r6 m6 z6=>aet ?_⟩;refine⟨_,r6.aj rfl,rfl,(h2.still jd).mod m6 λk hk e=>?_,Mod.trans (Mod.trans s1 m15 (λ_ h=>h.elim) (λ_ _ h=>h)) m6 (λ_ h=>h) (λi hi e=>by omega)⟩;have:=(h.k6 hk).2;omega
def k4(T:Tree):Prop:=∀x∈T,x.2.k=1/\x.2.m=6
def LQ:∀{T:Tree},k4 T->∀p,gi T p=CH\/gi T p=⟨1,6,(gi T p).d⟩
 |[],_,_=>.inl rfl
 |(q,e)::r,h,p=>by
  unfold gi;split
  .have:=h (q,e) (by simp)
   obtain⟨k,m,d⟩:=e;obtain⟨rfl,rfl⟩:=this;exact .inr rfl
  .exact LQ (λx hx=>h x (by simp[hx])) p
def k4.put{T:Tree}(h:k4 T)(p d:ag):k4 (aIm T p ⟨1,6,d⟩):=λx hx=>by
 rcases LY hx with rfl|hx
 .exact⟨rfl,rfl⟩
 .exact h x hx
def lz(T:Tree)(nm data:ag)(more:Bool):Tree:=aIm T (47::nm) ⟨1,6,if more then(gi T (47::nm)).d++data else data⟩
def abd(b_:fJ w0)(h0:Still w0 w)(h:cU w w0.heap.size a g tr n T){pb:Nat}(hp:iM w pb a)(hnp:¬RF tr pb){path nm:ag}(o:sx path nm)(hnm:nm≠[46])(hi:Lib.lastIndexByte (S (47::nm)) 47=0)(hT:k4 T)(data:ag)(more:Bool)
  (hd:((if more then(gi T (47::nm)).d++data else data):ag).length<=50000):
  aq KE #[.pointer (some ⟨pb,0,none⟩),.string (S path),.string (S data),.bool more] w (λe w'=>e=.returned (.int .i64 0)/\cU w' w0.heap.size a g tr (n+5) (lz T nm data more)/\Mod (WF g tr) w w'):=by
 have ep:mP nm=47::nm:=aG hnm;have et:jl T (47::nm)=gi T (47::nm):=aG (by simp);have hlen:(47::nm).length<=1000:=by have:=o.VE;simp;omega
 have hwr:∀k,w.heap.size<=k->¬RF tr k:=λk hk hr=>RF.new h hk hr;have sN:∀k,SF a g tr k->k<w.heap.size:=λk hk=>(h.k6 hk).2;have hgd:(gi T (47::nm)).d.length<=50000:=by rw[<-et];exact Ub h.eS _
 apply alL;refine aQ λw1 r1 s1 z1=>(find_spec b_ (h0.trans s1) (h.still s1) (hp.still s1) hnp o true).mono ?_;rw[ep,et];rintro _ w2 ⟨rfl,h2,m2⟩;refine .inl ⟨_,_,_,_,rfl,aQ λw3 r3 s3 z3=>aHb (g:=w2.heap.size) (o:=0) r3 λw4 r4 m4 z4=>?_⟩;have jd:Still w2 w4:=s3.box (aV _) m4;have jz:=m2.size;have hk2:(gi T (47::nm)).k≠2:=by rcases LQ hT (47::nm)with e|e<;>rw[e]<;>show(_:Int)≠2<;>simp[CH]
 refine⟨_,r4.aj rfl,(nV _ _ (by simp[hk2])).mono ?_⟩;rintro _ w5 ⟨rfl,rfl⟩;have h5:=h2.still jd;have m15:Mod (RF tr) w1 w5:=Mod.trans m2 jd (λ_ h=>h) (λ_ _ h=>h.elim);have aKU:Mod (RF tr) w w5:=Mod.trans s1 m15 (λ_ h=>h.elim) (λ_ _ h=>h);have WR:Still w0 w5:=Mod.trans h0 aKU (λ_ h=>h) λi hi e=>by have:=(h.k6 (RF.sf e)).1;omega
 have aJM:=hp.mod aKU hnp;have fS:¬RF tr w2.heap.size:=hwr _ (by omega);have hs2:∀k,SF a g tr k->k≠w2.heap.size:=λk hk e=>by have:=sN k hk;omega
 refine .inl ⟨rfl,λwq=>Row wq w2.heap.size qH ⟨vt ⟨1,6,(gi T (47::nm)).d⟩⟩/\cU wq w0.heap.size a g tr (n+4) T/\Mod (λk=>RF tr k\/k=w2.heap.size) w5 wq,⟨_,r4.aj rfl,aA (λhk=>?_) (λhk=>?_)⟩,?_⟩
 .have hk:(gi T (47::nm)).k=0:=aR hk
  have e:gi T (47::nm)=CH:=by
   rcases LQ hT (47::nm)with e|e
   .exact e
   .rw[e]at hk;exact absurd hk Q8
  refine(Tryz.strings_HasSuffix (S path) (S [47]) w5 (by show path.length<=_;have:=o.len;omega)).mono ?_;rintro _ w5 ⟨rfl,rfl⟩;refine .inl ⟨_,rfl,(nV _ _ (by rw[show Lib.hasSuffix (S path).data.toList (S [47]).data.toList=false from o.aJy];rfl)).mono ?_⟩;rintro _ w5 ⟨rfl,rfl⟩;refine .inl ⟨rfl,(asU b_.env WR h5 aJM hnp hlen (by simp) hi).mono ?_⟩;rintro _ w6 ⟨rfl,h6,m6⟩;refine .inl ⟨rfl,_,(aJM.mod m6 hnp).aj rfl,dO (g:=w2.heap.size) (o:=0) (r4.mod m6 fS) (by simp[fh]) (by simp[Value.oneCell']) λw7 r7 m7 z7=>?_⟩;have e6:bits .andNot .i64 6 0=6:=by decide
  rw[e6]at r7;rw[e];exact⟨r7,h6.mod m7 λk hk e=>hs2 k hk e,Mod.trans m6 m7 (λ_ h=>.inl h) (λ_ _ h=>.inr h)⟩
 .have hk:(gi T (47::nm)).k≠0:=aX hk
  have e:gi T (47::nm)=⟨1,6,(gi T (47::nm)).d⟩:=by
   rcases LQ hT (47::nm)with e|e
   .rw[e]at hk;exact absurd rfl hk
   .exact e
  rw[e]at r4;refine⟨_,r4.aj rfl,(nV _ _ (by show(!decide (bits .and .i64 6 2=0))=true;decide)).mono ?_⟩;rintro _ w6 ⟨rfl,rfl⟩;exact .inl ⟨rfl,r4,h5.up (by omega),(Mod.refl _ _)⟩
 rintro _ w6 ⟨r6,h6,m6⟩;refine⟨λx wq=>x=(if more then(gi T (47::nm)).d++data else data)/\wq=w6,?_,?_⟩
 .cases more with
  |true=>exact⟨_,r6.aj rfl,by simp only[nu]at hd;simp at hd⊢;omega,rfl,rfl⟩
  |false=>exact⟨rfl,rfl⟩
 rintro _ _ w7 ⟨rfl,rfl⟩;refine(nV _ _ (fe (by omega))).mono ?_;rintro _ w7 ⟨rfl,rfl⟩;refine .inl ⟨rfl,dO (g:=w2.heap.size) (o:=2) r6 (by simp[vt]) (by simp[Value.oneCell']) λw8 r8 m8 z8=>?_⟩;have sD:Still w8 w8.drew:=(Still.refl _).cy;have h8:=(h6.mod m8 λk hk e=>hs2 k hk e).still sD;have WT:Mod (λk=>RF tr k\/k=w2.heap.size) w5 w8.drew:=Mod.trans (Mod.trans m6 m8 (λ_ h=>h) (λ_ _ h=>.inr h)) sD (λ_ h=>h) (λ_ _ h=>h.elim);have azx:pb≠w2.heap.size:=by have:=hp.lt;omega
 have hp8:iM w8.drew pb a:=aJM.mod WT λh=>h.elim hnp azx;have m08:Mod (RF tr) w w8.drew:=Mod.trans aKU WT (λ_ h=>h) λi hi e=>by
  rcases e with e|e
  .exact e
  .omega
 have h08:Still w0 w8.drew:=Mod.trans h0 m08 (λ_ h=>h) λi hi e=>by have:=(h.k6 (RF.sf e)).1;omega
 refine⟨λwq=>wq=w8.drew,rfl,_,λwq hq=>by rw[hq];exact hp8.aj rfl,_,_,_,λwq hq=>by rw[hq];exact(r8.still sD).aj rfl,λwq hq=>by rw[hq];exact(r8.still sD).aj rfl,λwq hq=>by rw[hq];exact(r8.still sD).aj rfl,?_⟩;refine(auR b_.env h08 h8 hlen (by simp) (x:=⟨1,6,if more then(gi T (47::nm)).d++data else data⟩) ⟨.inr (.inl rfl),⟨by show(0:Int)<=6;decide,by show(6:Int)<=7;decide⟩,by dsimp only;omega⟩ Q8 hd).mono ?_;rintro _ w9 ⟨rfl,h9,m9⟩;have m19:Mod (WF g tr) w1 w9:=Mod.trans (Mod.trans m15 WT (λk h=>(by
  obtain⟨t,ht,e⟩:=h;exact .inr ⟨t,ht,.inl e⟩:WF g tr k)) (λi hi e=>by
  rcases e with⟨t,ht,e⟩|e
  .exact .inr ⟨t,ht,.inl e⟩
  .omega)) m9 (λ_ h=>h) (λ_ _ h=>h)
 have hwf:¬WF g tr w.heap.size:=λhk=>by have:=sN _ (WF.sf (a:=a) hk);omega
 refine .inl ⟨rfl,aHb (g:=w.heap.size) (o:=0) (r1.mod m19 hwf) λaO eB m10 aIs=>aet ?_⟩;refine⟨_,eB.aj rfl,rfl,h9.mod m10 λk hk e=>?_,Mod.trans (Mod.trans s1 m19 (λ_ h=>h.elim) (λ_ _ h=>h)) m10 (λ_ h=>h) (λi hi e=>by omega)⟩;have hk':=sN k (by
  rcases hk with h|h|⟨t,ht,h⟩
  .exact .inl h
  .exact .inr (.inl h)
  .exact .inr (.inr ⟨t,ht,h⟩))
 omega
end
end Go.Proofs.YtihaaoehhgmphaaGreatDoor
namespace Go.Proofs.YtihaaoehhgmphaaGreatDoor.A
open IntKind Go.RowKit Vc Go.Shelf
variable{w:World}
def aHi{a b:UInt8}:(a.toNat:Int)=(b.toNat:Int)↔a=b:=⟨λh=>KH.1 (by omega),λh=>by rw[h]⟩
def getD_some{α:Type}{p:List α}{i:Nat}(h:i<p.length):p[i]?=some p[i]:=gW h
def GH{g:FuncId}{first cap:List Value}{K:FuncId->List Value->List Value->Prop}(h:K g first cap):gu (.func (.func g) ⟨first⟩ ⟨cap⟩) K:=h
def cK(w:World)(p:Option Addr)(n C:Nat)(l:List Vr):Prop:=l.length=n/\n<=C/\(0<n->∃a,p=some a/\∀(j:Nat) (u:Value),(vcs l)[j]?=some u->w.cell? (a.add j)=some u)/\(0<n->∃a cs,p=some a/\Row w a.block 32 cs)
def abe(a:Addr)(i:Nat):(a.add i).block=a.block:=by unfold Addr.add;split<;>rfl
section
variable{p:Option Addr}{n C:Nat}{l:List Vr}
def cK.still{w':World}(h:cK w p n C l)(hm:Still w w'):cK w' p n C l:=
 ⟨h.1,h.2.1,λhn=>by
  obtain⟨a,h1,h2⟩:=h.2.2.1 hn;exact⟨a,h1,λj u hu=>hm.cell (h2 j u hu)⟩,λhn=>by
  obtain⟨a,cs,h1,h2⟩:=h.2.2.2 hn;exact⟨a,cs,h1,h2.mod hm λh=>h⟩⟩
def cK.mod{S:Nat->Prop}{w':World}(h:cK w p n C l)(hm:Mod S w w')(hS:∀a,p=some a->¬S a.block):cK w' p n C l:=
 ⟨h.1,h.2.1,λhn=>by
  obtain⟨a,h1,h2⟩:=h.2.2.1 hn;exact⟨a,h1,λj u hu=>(World.cell?_of_block (hm.block _ (World.block_lt_of_cell? _ _ (h2 j u hu)) (by rw[abe];exact hS a h1))).trans (h2 j u hu)⟩,λhn=>by
  obtain⟨a,cs,h1,h2⟩:=h.2.2.2 hn;exact⟨a,cs,h1,h2.mod hm (hS a h1)⟩⟩
def cK.nil(w:World):cK w none 0 0 []:=⟨rfl,aV _,λh=>absurd h (DR _),λh=>absurd h (DR _)⟩
def cK.get(h:cK w p n C l){i:Nat}{x:Vr}(hx:l[i]?=some x):∃a,p=some a/\w.cell? (a.add (i*4))=some (.string (S x.name))/\w.cell? ((a.add (i*4)).add 1)=some (.string (S x.value))/\
  w.cell? ((a.add (i*4)).add 2)=some (.bool x.exp)/\w.cell? ((a.add (i*4)).add 3)=some (.bool x.ro):=by
 have hi:=(iU.1 hx).1;obtain⟨a,h1,h2⟩:=h.2.2.1 (by have:=h.1;omega);obtain⟨g1,g2,g3,g4⟩:=ael hx;refine⟨a,h1,h2 _ _ g1,?_,?_,?_⟩
 .rw[aIC]
  exact h2 _ _ g2
 .rw[aIC]
  exact h2 _ _ g3
 .rw[aIC]
  exact h2 _ _ g4
def cK.take(h:cK w p n C l){k:Nat}(hk:k<=n):cK w p k C (l.take k):=by
 obtain⟨h1,h2,h3,h7⟩:=h;refine⟨by rw[aHl];omega,by omega,λhk0=>?_,λhk0=>h7 (by omega)⟩;obtain⟨a,h4,h5⟩:=h3 (by omega);refine⟨a,h4,λj u hu=>h5 j u ?_⟩;rw[<-pV k l,Sz,x_]
 .exact hu
 .exact(iU.1 hu).1
def cK.drop(h:cK w p n C l){k:Nat}(hk:k<=n):cK w (if C=k then p else Option.map (·.add (k*4)) p) (n-k) (C-k) (l.drop k):=by obtain⟨h1,h2,h3,h7⟩:=h;refine⟨by rw[ig];omega,by omega,λhk0=>?_,λhk0=>by obtain⟨a,cs,rfl,h9⟩:=h7 (by omega);rw[aG (by omega)];exact⟨_,cs,rfl,by rw[abe];exact h9⟩⟩;obtain⟨a,rfl,h5⟩:=h3 (by omega);rw[aG (by omega)];refine⟨a.add (k*4),rfl,λj u hu=>?_⟩;rw[aIC];refine h5 _ u ?_;rw[<-pV k l,Sz,aJY (by rw[LB,aHl,BZ (by omega)];omega),LB,aHl,BZ (by omega),BM];exact hu
def cK.of{B:Nat}(h:aS w B 32 4 (.slice p n C) n (vcs l)):cK w p n C l:=by
 have h1:=h.length;rw[LB]at h1;refine⟨by omega,?_,λhn=>?_,λhn=>by obtain⟨g,cap,cur,he,_,hr,_⟩:=h.row hn;injection he with e1 e2 e3;exact⟨_,cur,e1,hr⟩⟩
 .rcases h.2 with⟨he,_⟩|⟨g,cap,cur,he,_,_,hc,_⟩
  .injection he with e1 e2 e3
   omega
  .injection he with e1 e2 e3
   omega
 .obtain⟨g,cap,he,_,_,_,hc⟩:=h.Ax hn
  injection he with e1 e2 e3;subst e1;refine⟨_,rfl,λj u hu=>?_⟩;rw[aHa,cQ];exact hc j u hu
end
def Z0(c:Int):aq K7 #[.int .i32 c] w (λe w'=>e=.returned (.bool (Cp c))/\w'=w):=by
 apply Y3;unfold Cp;refine aA (λh1=>aA (λh2=>⟨by simp[aR h1,aR h2],rfl⟩) (λh2=>aA (λh3=>aA (λh4=>⟨by simp[aR h3,aR h4],rfl⟩) (λh4=>⟨?_,rfl⟩)) (λh3=>⟨?_,rfl⟩)))
  (λh1=>aA (λh3=>aA (λh4=>⟨by simp[aR h3,aR h4],rfl⟩) (λh4=>⟨?_,rfl⟩)) (λh3=>⟨?_,rfl⟩))
 .rw[h1,h2,h3,h4];rfl
 .rw[h1,h2,h3];rfl
 .rw[h1,h3,h4];rfl
 .rw[h1,h3];rfl
def aas(c:Int):aq Ld #[.int .i32 c] w (λe w'=>e=.returned (.bool (aKb c))/\w'=w):=by apply Ze;unfold aKb;exact aA (λh1=>⟨by rw[h1];rfl,rfl⟩) (λh1=>⟨by rw[h1];rfl,rfl⟩)
def rN(h:Nat)(w:World):Nat:=match w.heap[h]? with
 |some (.stringIter s p)=>s.size-p
 |_=>0
def aat{c:Int}(h:128<=c):Cp c=false/\aKb c=false:=by
 unfold Cp aKb;constructor
 .simp only[P7,Dz,aJZ]
  omega
 .simp only[Dz,aJZ]
  omega
def acs(s:ag)(hs:s.length<=9223372036854775807):aq B9 #[.string (S s)] w (λe w'=>e=.returned (.string (S (s.take (bV true s))))/\Still w w'):=by
 apply Zr;refine⟨λw1=>∃k:Nat,w1.heap[w.heap.size]?=some (.stringIter (S s) k)/\k<=s.length/\bV true s=k+bV (decide (k=0)) (s.drop k)/\Still w w1,rN w.heap.size,⟨0,heap_alloc_new w _,dK _,by simp,(Mod.refl _ _).alloc _⟩,?_⟩;rintro _ w1 ⟨k,hk,hkl,hn,hst⟩;refine⟨rfl,s,k,hk,aA (λhx=>?_) (λhx=>?_)⟩
 .have hx:k<s.length:=aR hx
  have hd:s.drop k=s[k]::s.drop (k+1):=qB hx;have hlt:w.heap.size<w1.heap.size:=(aH0.1 hk).1;have hb:(S s).size=s.length:=rfl;have still:∀q,Still w (w1.iterAt w.heap.size (S s) q):=λq=>⟨hst.os,hst.tape,hst.output,by have:=hst.size;simp only[World.iterAt,Array.size_setIfInBounds];exact this,λi hi hn=>by have:=hst.block i hi hn;simp only[World.iterAt,Array.getElem?_setIfInBounds];rw[aG (by omega)];exact this⟩;have stop:(letter s[k]||(!decide (k=0)&&digit s[k]))=false->bV true s=k:=by intro h;rw[hn,hd,bV,aG (by rw[h];decide)];omega
  have go:∀q,(letter s[k]||(!decide (k=0)&&digit s[k]))=true->q=k+1->(∃k:Nat,(w1.iterAt w.heap.size (S s) q).heap[w.heap.size]?=some (.stringIter (S s) k)/\k<=s.length/\bV true s=k+bV (decide (k=0)) (s.drop k)/\Still w (w1.iterAt w.heap.size (S s) q))/\rN w.heap.size (w1.iterAt w.heap.size (S s) q)<rN w.heap.size w1:=by
   rintro q h rfl;have h1:(w1.iterAt w.heap.size (S s) (k+1)).heap[w.heap.size]?=some (.stringIter (S s) (k+1)):=by simp[World.iterAt,hlt]
   refine⟨⟨k+1,h1,hx,?_,still _⟩,?_⟩
   .rw[hn,hd,bV,aL h,eX (show¬k+1=0 by omega)]
    omega
   .unfold rN
    rw[h1,hk];dsimp only;rw[hb];omega
  have ret:bV true s=k->0<=(k:Int)/\(k:Int)<=s.length/\(Ending.returned (.string (S (s.take (Int.toNat (k:Int)))))=Ending.returned (.string (S (s.take (bV true s))))/\Still w (w1.iterAt w.heap.size (S s) (k+(Utf8.decode (S s) k).2))):=by intro h;exact⟨by omega,by omega,by rw[b6,h],still _⟩
  have WU:k<(S s).size:=hx;have hby:(S s)[k]'WU=s[k]:=rfl;rcases yl (s[k].toNat) 128 with hlo|hhi
  .have ag0:Utf8.decode (S s) k=(s[k].toNat,1):=decode_ascii (S s) k WU hlo
   rw[show(⟨⟨s⟩⟩:ByteArray)=S s from rfl,ag0];rw[ag0]at ret;refine(Z0 _).mono ?_;rintro _ w2 ⟨rfl,rfl⟩;refine .inl ⟨_,rfl,aA (λh=>?_) (λh=>?_)⟩
   .have h:Cp (s[k].toNat:Int)=false:=by simpa using h
    have h:letter s[k]=false:=h;refine aA (λh0=>ret (stop ?_)) (λh0=>(aas _).mono ?_)
    .have h0:k=0:=by have:=aR h0;omega
     rw[h,fe h0];rfl
    .have h0:¬k=0:=by have:=aX h0;omega
     rintro _ w3 ⟨rfl,rfl⟩;refine .inl ⟨_,rfl,aA (λhd=>ret (stop ?_)) (λhd=>go _ ?_ rfl)⟩
     .have hd:aKb (s[k].toNat:Int)=false:=by simpa using hd
      have hd:digit s[k]=false:=hd;rw[h,hd,KQ];rfl
     .have hd:aKb (s[k].toNat:Int)=true:=by simpa using hd
      have hd:digit s[k]=true:=hd;rw[hd,eX h0];simp
   .have h:Cp (s[k].toNat:Int)=true:=by simpa using h
    have h:letter s[k]=true:=h;exact go _ (by rw[h];rfl) rfl
  .obtain⟨hc,hw⟩:=decode_high (S s) k WU hhi
   have hz:=aat (c:=((Utf8.decode (S s) k).1:Int)) (by omega);have jz:=aat (c:=(s[k].toNat:Int)) (by omega);have aJe:bV true s=k:=stop (by unfold letter digit;rw[jz.1,jz.2,KQ];rfl);rw[show(⟨⟨s⟩⟩:ByteArray)=S s from rfl];refine(Z0 _).mono ?_;rintro _ w2 ⟨rfl,rfl⟩;refine .inl ⟨_,rfl,aA (λh=>aA (λh0=>ret aJe) (λh0=>(aas _).mono ?_)) (λh=>by rw[hz.1]at h;cases h)⟩;rintro _ w3 ⟨rfl,rfl⟩;exact .inl ⟨_,rfl,aA (λhd=>ret aJe) (λhd=>by rw[hz.2]at hd;cases hd)⟩
 .have hx:k=s.length:=by have:=aX hx;omega
  refine⟨?_,hst⟩;subst hx;rw[hn,ye,bV,Gk,oD]
def aau(s:ag)(hs:s.length<=9223372036854775807):aq DW #[.string (S s)] w (λe w'=>e=.returned (.bool (isName s))/\Still w w'):=by
 apply Y4;unfold isName;refine aA (λh=>(acs s hs).mono ?_) (λh=>⟨by rw[h];rfl,Mod.refl _ _⟩);rintro _ w1 ⟨rfl,h1⟩;refine .inl ⟨_,rfl,?_,h1⟩;rw[h,B2];congr 2;apply sY.2;have:=aIS true s;constructor
 .intro e
  have:=gJ List.length e;rw[aHl]at this;omega
 .intro e
  rw[e,oD]
def adt(x:Vr)(s:ag):aq B5 #[.agg #[.string (S x.name),.string (S x.value),.bool x.exp,.bool x.ro],.string (S s)] w (λe w'=>e=.returned (.int .i64 (Go.Lib.compareBytes x.name s))/\Still w w'):=by apply amY;have hr:=Row.new w 32 ⟨l_ x⟩;refine⟨_,hr.dy rfl,(Tryz.strings_Compare (S x.name) (S s) _).mono ?_⟩;rintro _ w1 ⟨rfl,rfl⟩;exact .inl ⟨_,rfl,rfl,(Mod.refl _ _).alloc _⟩
def axB{a b:Nat}(h:a+b<1000000000):i64.wrap (Int.fdiv (u64.wrap (i64.wrap ((a:Int)+(b:Int)))) (2^(min (Int.toNat (1:Int)) (u64.bits))))=(((a+b)/2:Nat):Int):=by
 have e2:(2:Int)^(min (Int.toNat (1:Int)) (u64.bits))=2:=by decide
 rw[e2,wrap_i64 (n:=(a:Int)+b) (by omega) (by omega),wrap_u64 (by omega) (by omega),X7 _ (by decide),wrap_i64 (by omega) (by omega)];omega
def ZM:dD aM B5=true:=by kernel_rfl
set_option maxRecDepth 10000 in
def apS{p:Option Addr}{n C:Nat}{l:List Vr}(h:cK w p n C l)(hs:kZ l)(hn:n<1000000)(s:ag):
  aq Pm #[.slice p n C,.string (S s),.func (.func B5) #[] #[]] w (λe w'=>e=.returned (.tuple #[.int .i64 (pos s l:Int),.bool (get s l).isSome])/\Still w w'):=by
 apply ajv;have hl:=h.1;have hpl:=UG s l;refine⟨λi j w1=>∃a b:Nat,i=(a:Int)/\j=(b:Int)/\a<=pos s l/\pos s l<=b/\b<=n/\Still w w1,λi j _=>j.toNat-i.toNat,⟨0,n,rfl,rfl,dK _,by omega,aV _,Mod.refl _ _⟩,?_⟩;rintro _ _ _ w1 ⟨a,b,rfl,rfl,ha,hb,hbn,hst⟩;have h1:=h.still hst;refine aA (λhx=>?_) (λhx=>?_)
 .have hx:a<b:=by have:=aR hx;omega
  rw[axB (by omega)];have hm:(a+b)/2<b:=by omega
  have hml:(a+b)/2<l.length:=by omega
  have hg:=getD_some hml;obtain⟨q,rfl,c1,c2,c3,c4⟩:=h1.get hg;have e1:i64.wrap ((((a+b)/2:Nat):Int)+1)=(((a+b)/2+1:Nat):Int):=wI;rw[e1];refine⟨by decide,by omega,by omega,_,_,_,_,by rw[b6];exact c1,by rw[b6];exact c2,by rw[b6];exact c3,by rw[b6];exact c4,?_⟩;refine GH (g:=B5) (first:=[]) (cap:=[]) ?_;rw[ZM];refine(adt l[(a+b)/2] s).mono ?_;rintro _ w2 ⟨rfl,h2⟩;refine .inl ⟨_,rfl,?_⟩;rw[afe];refine aA (λhlt=>⟨⟨_,b,rfl,rfl,?_,hb,hbn,hst.trans h2⟩,by dsimp only;omega⟩) (λhlt=>⟨⟨a,_,rfl,rfl,ha,?_,by omega,hst.trans h2⟩,by dsimp only;omega⟩)
  .rcases yl ((a+b)/2) (pos s l)with h|h
   .exact h
   .rw[axd hs hg h]at hlt;cases hlt
  .rcases yl ((a+b)/2) (pos s l)with h|h
   .rw[aff hg h]at hlt;cases hlt
   .exact h
 .have hx:a=pos s l/\b=pos s l:=by have:=aX hx;omega
  obtain⟨rfl,rfl⟩:=hx;have hgp:=T5 s l;refine aA (λhy=>?_) (λhy=>?_)
  .have hy:pos s l<n:=by have:=aR hy;omega
   have hg:=getD_some (p:=l) (i:=pos s l) (by omega);obtain⟨q,rfl,c1,c2,c3,c4⟩:=h1.get hg;refine⟨by omega,by omega,_,_,_,_,by rw[b6];exact c1,by rw[b6];exact c2,by rw[b6];exact c3,by rw[b6];exact c4,?_⟩;refine GH (g:=B5) (first:=[]) (cap:=[]) ?_;rw[ZM];refine(adt l[pos s l] s).mono ?_;rintro _ w2 ⟨rfl,h2⟩;refine .inl ⟨_,rfl,?_,hst.trans h2⟩;rw[aek,hgp,hg];dsimp only
   by_cases he:l[pos s l].name=s
   .rw[fe he,aL he];rfl
   .rw[eX he,aG he];rfl
  .have hy:¬pos s l<n:=by have:=aX hy;omega
   refine⟨?_,hst⟩;rw[hgp,t_ (by omega)];rfl
def find_spec{p:Option Addr}{n C:Nat}{l:List Vr}(h:cK w p n C l)(hs:kZ l)(hn:n<1000000)(s:ag):
  aq Ll #[.slice p n C,.string (S s)] w (λe w'=>e=.returned (.tuple #[.int .i64 (pos s l:Int),.bool (get s l).isSome])/\Still w w'):=by
 apply anL;refine(apS h hs hn s).mono ?_;rintro _ w1 ⟨rfl,h1⟩;exact .inl ⟨_,_,rfl,rfl,h1⟩
def VG{g:Nat}{t:TypeId}{x0 x1 x2 x3:Value}(h:Row w g t ⟨[x0,x1,x2,x3]⟩)(y0 y1 y2 y3:Value):∃W,W=(((w.setCell (Addr.mk g 0 none) y0).setCell (Addr.mk g 1 none) y1).setCell (Addr.mk g 2 none) y2).setCell (Addr.mk g 3 none) y3/\
  Wr w (Addr.mk g 0 none)/\Wr (w.setCell (Addr.mk g 0 none) y0) (Addr.mk g 1 none)/\Wr ((w.setCell (Addr.mk g 0 none) y0).setCell (Addr.mk g 1 none) y1) (Addr.mk g 2 none)/\
  Wr (((w.setCell (Addr.mk g 0 none) y0).setCell (Addr.mk g 1 none) y1).setCell (Addr.mk g 2 none) y2) (Addr.mk g 3 none)/\Row W g t ⟨[y0,y1,y2,y3]⟩/\Mod (λi=>i=g) w W:=by
 have h1:=h.fW 0 y0;have h2:=h1.fW 1 y1;have h3:=h2.fW 2 y2;have h4:=h3.fW 3 y3;exact⟨_,rfl,h.wr 0 (by simp),h1.wr 1 (by simp),h2.wr 2 (by simp),h3.wr 3 (by simp),h4,((((Mod.refl (λi=>i=g) w).setCell (p:=Addr.mk g 0 none) (.inl rfl) y0).setCell (p:=Addr.mk g 1 none) (.inl rfl) y1).setCell (p:=Addr.mk g 2 none) (.inl rfl) y2).setCell (p:=Addr.mk g 3 none) (.inl rfl) y3⟩
def afp(w:World):∃w0,w0=w.alloc (.cells #[(.string (S ([]:List UInt8))),(.string (S ([]:List UInt8))),(.bool false),(.bool false)] 32)/\Row w0 w.heap.size 32 ⟨l_ Vr.zero⟩/\Still w w0/\w0.heap.size=w.heap.size+1:=
 ⟨_,rfl,Row.new w 32 ⟨l_ Vr.zero⟩,(Mod.refl _ _).alloc _,World.size_alloc ..⟩
section
variable{w2 w7:World}{B L L':Nat}{e:TypeId}{v v':Value}{xs ys:List Value}{size:Nat}
def _root_.Go.Proofs.YtihaaoehhgmphaaGreatDoor.aS.VH{p p':Option Addr}{n n' c c':Nat}(ho:aS w2 B e size (.slice p n c) L xs)(hB:B<=w2.heap.size)(zj:aS w7 0 e size (.slice p' n' c') L' ys)(hblk:oO p p' n' c c' w2.heap.size):aS w7 B e size (.slice p' n' c') L' ys:=by
 refine zj.base λk hk=>?_;rcases hblk.own (n:=n)with h|h
 .exact(ho.lt k (by rw[<-h,hk])).1
 .rw[hk]at h
  obtain rfl:=bU h;exact hB
def _root_.Go.Proofs.YtihaaoehhgmphaaGreatDoor.Still.VH(hm:Still w w2)(ho:aS w2 B e size v L xs)(Og:w.heap.size<=B)(hg:w2.grownBy w7 v.ownBlock):Still w w7:=
 Mod.grown hm hg λg hk=>.inr (kJ Og (ho.lt g hk).1)
end
def asV(n:Nat)(hn:n<1000000):aq X3 #[.slice none 0 0,.int .i64 (n:Int)] w (λe w'=>∃p C,e=.returned (.slice p 0 C)/\aS w' w.heap.size 32 4 (.slice p 0 C) 0 []/\Still w w'):=by
 rcases oB n with rfl|h0
 .refine(Any8.slices_Grow_room Tryz.grow none 0 0 0 w (aV _) (by decide) (by decide) (by decide)).mono ?_
  rintro _ w' ⟨rfl,rfl⟩;exact⟨none,0,rfl,aS.nil _ _ _ _,Mod.refl _ _⟩
 .have hi:Tryz.prog.info? 32=some ((Tryz.prog.info? 32).getD default):=by kernel_rfl
  have hz:((Tryz.prog.info? 32).getD default).zero=some (.agg ⟨l_ Vr.zero⟩):=by kernel_rfl
  have hs:((Tryz.prog.info? 32).getD default).size=4:=by kernel_rfl
  have hb:((Tryz.prog.info? 32).getD default).bytes=40:=by kernel_rfl
  refine(Any8.slices_Grow_grow Tryz.grow _ _ hi hz (by rw[hs];decide) none 0 0 n [] w (aV _) (by omega) (by rw[hb];omega) (by omega) (by simp) (λ_=>rfl) (λa h=>by cases h)).mono ?_;rintro _ w' ⟨rfl,rfl⟩;refine⟨_,_,rfl,⟨rfl,.inr ⟨w.heap.size,_,_,rfl,aV _,Row.new w.drew _ _,dK _,?_,?_,rfl⟩⟩,((Mod.refl _ _).drew).alloc _⟩
  .exact grownCap_le_maxLen _ _ _ _ (by simp only[maxLen];omega)
  .have hge:=grownCap_ge w (0+n) 0 32
   have WV:(Value.agg ⟨l_ Vr.zero⟩).cells.size=4:=rfl;show(_:Nat)=grownCap w (0+n) 0 32*4
   simp only[QB,wB,aHf,size_zeroCells,WV];show 0+(0+n-0)*4+(grownCap w (0+n) 0 32-(0+n))*4=grownCap w (0+n) 0 32*4
   omega
abbrev Part:=Option Addr×Nat×Nat×List Vr
def MR(P:List Part):List Value:=P.map λx=>.slice x.1 x.2.1 x.2.2.1
def flat(P:List Part):List Vr:=P.flatMap λx=>x.2.2.2
def acu(P:List Part)(k:Nat):(flat (P.take k)).length<=(flat P).length:=by
 conv=>rhs;rw[<-pV k P]
 rw[flat,flat,Qj,cB];omega
def GU{P:List Part}{k:Nat}(h:k<P.length):flat (P.take (k+1))=flat (P.take k)++P[k].2.2.2:=by rw[F8,getD_some h,flat,flat,Qj];simp
def apT{g:Nat}{P:List Part}(hr:Row w g 27 ⟨MR P⟩)(hP:∀x∈P,cK w x.1 x.2.1 x.2.2.1 x.2.2.2)(hlen:P.length<1000)(hsum:(flat P).length<1000000):
  aq Py #[.slice (some (Addr.mk g 0 none)) P.length P.length] w (λe w'=>∃p C,e=.returned (.slice p (flat P).length C)/\cK w' p (flat P).length C (flat P)/\Still w w'):=by
 apply ajI;have cell:∀{w1:World},Still w w1->∀k:Nat,(hk:k<P.length)->w1.cell? ((Addr.mk g 0 none).add (Int.toNat (k:Int)*1))=some (.slice P[k].1 P[k].2.1 P[k].2.2.1):=by intro w1 hst k hk;rw[b6,aHp,aHa,cQ];refine hst.cell (hr.dy ?_);simp[MR,hk]
 have step:∀k:Nat,k<1000->i64.wrap ((k:Int)+1)=((k+1:Nat):Int):=λk hk=>by rw[wrap_i64 (by omega) (by omega)];omega
 refine⟨λsize x w1=>∃k:Nat,x=(k:Int)/\k<=P.length/\size=((flat (P.take k)).length:Int)/\w1=w,λ_ x _=>P.length-x.toNat,⟨0,rfl,dK _,rfl,rfl⟩,?_⟩;rintro _ _ _ w1 ⟨k,rfl,hk,rfl,rfl⟩;refine aA (λhx=>?_) (λhx=>?_)
 .have hx:k<P.length:=by have:=aR hx;omega
  have hv:=(hP _ (kI hx)).1;have hle:=acu P (k+1);rw[GU hx,cB]at hle;have e1:i64.wrap (((flat (P.take k)).length:Int)+((P[k].2.1:Nat):Int))=((flat (P.take (k+1))).length:Int):=by rw[wrap_i64 (by omega) (by omega),GU hx,cB];omega
  refine⟨by omega,by omega,_,_,_,cell (Mod.refl _ _) k hx,?_⟩
  try dsimp only[zR]
  rw[e1,step k (by omega)];exact aA (λh=>by have:=aR h;omega) (λ_=>⟨⟨k+1,rfl,hx,rfl,rfl⟩,by(try dsimp only);omega⟩)
 have hx:k=P.length:=by have:=aX hx;omega
 subst hx;rw[oD];refine(asV (flat P).length hsum).mono ?_;rintro _ w2 ⟨p,C,rfl,cc,h2⟩;refine .inl ⟨_,_,_,rfl,λq L D x w3=>∃k:Nat,x=(k:Int)/\k<=P.length/\L=(flat (P.take k)).length/\aS w3 w1.heap.size 32 4 (.slice q L D) L (vcs (flat (P.take k)))/\Still w1 w3,λ_ _ _ x _=>P.length-x.toNat,⟨0,rfl,dK _,rfl,cc,h2⟩,?_⟩;rintro q _ D _ _ w3 ⟨k,rfl,hk,rfl,oS,h3⟩;refine aA (λhx=>?_) (λhx=>?_)
 .have hx:k<P.length:=by have:=aR hx;omega
  have Dc:=(hP _ (kI hx)).still h3;have hle:=acu P (k+1);rw[GU hx,cB]at hle;have hv:=Dc.1;refine⟨by omega,by omega,_,_,_,cell h3 k hx,vcs (flat (P.take k)),vcs P[k].2.2.2,oS.AO,by rw[LB,hv],av5 _,Dc.2.2.1,by omega,by omega,λp4 C4 w4 qt Jq hb4=>?_⟩;rw[step k (by omega)];refine⟨⟨k+1,rfl,hx,by rw[GU hx,cB,hv],?_,h3.VH oS (aV _) Jq⟩,by dsimp only;omega⟩;rw[GU hx,Sz];exact oS.VH h3.size qt hb4
 .have hx:k=P.length:=by have:=aX hx;omega
  subst hx;rw[oD]at oS⊢;exact⟨q,D,rfl,cK.of oS,h3⟩
def getD_at{s:ag}{l:List Vr}(h:(get s l).isSome=true):∃hk:pos s l<l.length,getD s l=l[pos s l]:=by
 have hg:=T5 s l;cases hp:l[pos s l]? with
 |none=>rw[hp]at hg;rw[hg]at h;cases h
 |some v=>
  rw[hp]at hg;dsimp only at hg;split at hg
  .obtain⟨hk,he⟩:=iU.1 hp
   exact⟨hk,by rw[getD,hg,he];rfl⟩
  .rw[hg]at h;cases h
def Tt{p:Option Addr}{n C:Nat}{l:List Vr}(h:cK w p n C l)(hs:kZ l)(hn:n<1000000)(s:ag):
  aq Gx #[.slice p n C,.string (S s)] w (λe w'=>e=.returned (.tuple #[.agg #[.string (S (getD s l).name),.string (S (getD s l).value),.bool (getD s l).exp,.bool (getD s l).ro],.bool (get s l).isSome])/\Still w w'):=by
 apply an8;unfold aaf;obtain⟨w0,hw0,ru,aJe,hs0⟩:=afp w;rw[<-hw0];refine(find_spec (h.still aJe) hs hn s).mono ?_;rintro _ w1 ⟨rfl,h1⟩;have aHc:Row w1 w.heap.size 32 ⟨l_ Vr.zero⟩:=ru.mod h1 (λh=>h);have aIo:=aJe.trans h1;refine .inl ⟨_,_,rfl,λw2=>Row w2 w.heap.size 32 ⟨l_ (getD s l)⟩/\Still w w2,aA (λhb=>?_) (λhb=>?_),?_⟩
 .obtain⟨hk,he⟩:=getD_at hb
  obtain⟨a,rfl,c1,c2,c3,c4⟩:=(h.still aIo).get (getD_some hk);have hl:=h.1;obtain⟨w2,rD,d1,d2,d3,d4,hr2,hm2⟩:=VG aHc (.string (S l[pos s l].name)) (.string (S l[pos s l].value)) (.bool l[pos s l].exp) (.bool l[pos s l].ro);refine⟨by omega,by omega,_,_,_,_,by rw[b6];exact c1,by rw[b6];exact c2,by rw[b6];exact c3,by rw[b6];exact c4,d1,d2,d3,d4,?_⟩;rw[<-rD,he];exact⟨hr2,aIo.box (aV _) hm2⟩
 .have:getD s l=Vr.zero:=by
   cases hg:get s l with
   |none=>rw[getD,hg];rfl
   |some v=>rw[hg]at hb;cases hb
  rw[this];exact⟨aHc,aIo⟩
 .rintro _ w2 ⟨hr2,sy⟩
  obtain⟨w3,Fi,d1,d2,d3,d4,hr3,cV⟩:=VG hr2 (.string (S (getD s l).name)) (.string (S (getD s l).value)) (.bool (getD s l).exp) (.bool (getD s l).ro);refine⟨_,_,_,_,hr2.dy rfl,hr2.dy rfl,hr2.dy rfl,hr2.dy rfl,d1,d2,d3,d4,?_⟩;rw[<-Fi];exact⟨_,_,_,_,hr3.dy rfl,hr3.dy rfl,hr3.dy rfl,hr3.dy rfl,rfl,sy.box (aV _) cV⟩
def ao_:dD aM RQ=true:=by kernel_rfl
def tP(l:List Vr)(s:ag)(err:Vr->Int)(eF:Vr->Vr):List Vr×Int:=if isName s=true then(if err {getD s l with name:=s}=0 then(ins (eF {getD s l with name:=s}) l,0)else([],err {getD s l with name:=s}))else([],1)
set_option maxRecDepth 10000 in
def apa{p:Option Addr}{n C:Nat}{l:List Vr}(h:cK w p n C l)(hs:kZ l)(hn:n<900000)(s:ag)(fM:s.length<=9223372036854775807){f:FuncId}{cap:List Value}{err:Vr->Int}{eF:Vr->Vr}(hf:dD aM f=true)(hu:∀x,(eF x).name=x.name)
  (hch:∀(w1:World) (g:Nat) (x:Vr),Still w w1->w.heap.size<=g->Row w1 g 32 ⟨l_ x⟩->aq f ⟨[.pointer (some (Addr.mk g 0 none))]++cap⟩ w1 (λe w2=>e=.returned (.int .i64 (err x))/\Mod (λi=>i=g) w1 w2/\(err x=0->Row w2 g 32 ⟨l_ (eF x)⟩))):
  aq aKy #[.slice p n C,.string (S s),.func (.func f) #[] ⟨cap⟩] w (λe w'=>∃q D,e=.returned (.tuple #[.slice q (tP l s err eF).1.length D,.int .i64 (tP l s err eF).2])/\cK w' q (tP l s err eF).1.length D (tP l s err eF).1/\Still w w'):=by
 apply amI;refine(aau s fM).mono ?_;rintro _ w1 ⟨rfl,h1⟩;refine .inl ⟨_,rfl,aA (λhnm=>?_) (λhnm=>?_)⟩
 .have hnm:isName s=false:=by simpa using hnm
  have e:tP l s err eF=([],1):=by unfold tP;rw[aG (by rw[hnm];decide)]
  rw[e];exact⟨none,0,rfl,cK.nil _,h1⟩
 have hnm:isName s=true:=by simpa using hnm
 refine(Tt (h.still h1) hs (by omega) s).mono ?_;rintro _ w2 ⟨rfl,h2⟩;refine .inl ⟨_,_,_,_,_,rfl,?_⟩;have sy:=h1.trans h2;obtain⟨w0,hw0,ru,aJe,hs0⟩:=afp w2
 try dsimp only[zR]
 rw[<-hw0];obtain⟨w3,Fi,d1,d2,d3,d4,hr3,cV⟩:=VG ru (.string (S (getD s l).name)) (.string (S (getD s l).value)) (.bool (getD s l).exp) (.bool (getD s l).ro);refine⟨d1,d2,d3,d4,?_⟩;rw[<-Fi];have aIp:Still w w3:=(sy.trans aJe).box sy.size cV;have hr4:=hr3.fW 0 (.string (S s));have iL:Still w (w3.setCell (Addr.mk w2.heap.size 0 none) (.string (S s))):=aIp.setCell (.inr sy.size) _;refine⟨hr3.wr 0 (by simp),GH (g:=f) (first:=[]) (cap:=cap) ?_⟩;rw[hf];refine(hch _ w2.heap.size {getD s l with name:=s} iL sy.size hr4).mono ?_;rintro _ w5 ⟨rfl,tQ,kG⟩;have VI:Still w w5:=iL.box sy.size tQ;refine .inl ⟨_,rfl,aA (λhe=>?_) (λhe=>?_)⟩
 .have he:¬err {getD s l with name:=s}=0:=by rw[F6]at he;exact aX he
  have e:tP l s err eF=([],err {getD s l with name:=s}):=by unfold tP;rw[aL hnm,aG he]
  rw[e];exact⟨none,0,rfl,cK.nil _,VI⟩
 have he:err {getD s l with name:=s}=0:=by rw[Bool.not_eq_false']at he;exact aR he
 have e:tP l s err eF=(ins (eF {getD s l with name:=s}) l,0):=by unfold tP;rw[aL hnm,aL he]
 rw[e];have kG:=kG he;have OI:=hu {getD s l with name:=s};generalize eF {getD s l with name:=s}=x at kG OI⊢;have OI:x.name=s:=OI;refine(find_spec (h.still VI) hs (by omega) s).mono ?_;rintro _ w6 ⟨rfl,h6⟩;have CX:=VI.trans h6;have aHZ:=kG.mod h6 (λh=>h);have hpl:=UG s l;have hl:=h.1;have WW:=h.still CX;refine .inl ⟨_,_,rfl,by omega,by omega,λq L D w7=>L=n-(pos s l+if(get s l).isSome=true then 1 else 0)/\pos s l+(if(get s l).isSome=true then 1 else 0)<=n/\cK w6 q L D (l.drop (pos s l+if(get s l).isSome=true then 1 else 0))/\w7=w6,aA (λhb=>?_) (λhb=>?_),?_⟩
 .obtain⟨hk,_⟩:=getD_at hb
  rw[b6,aL hb];have hd:=(WW.drop (k:=pos s l) (by omega)).drop (k:=1) (by omega);rw[B0]at hd;exact⟨by decide,by omega,by show n-pos s l-1=_;omega,by omega,hd,rfl⟩
 .rw[b6,aG (by rw[hb];decide)]
  exact⟨rfl,by omega,WW.drop (by omega),rfl⟩
 rintro q L D _ w7 ⟨rfl,hkn,hq,rfl⟩;have hC:=h.2.1;refine⟨λwq=>Row wq w2.heap.size 32 ⟨l_ x⟩,aHZ.drew,by omega,by omega,_,_,_,_,λwq hq=>hq.dy rfl,λwq hq=>hq.dy rfl,λwq hq=>hq.dy rfl,λwq hq=>hq.dy rfl,?_⟩;rw[b6];have hU:Row (w7.drew.alloc (.cells ⟨l_ x⟩ 32)) w7.drew.heap.size 32 ⟨l_ x⟩:=Row.new _ _ _;have CY:Still w7 ((w7.drew.alloc (.cells ⟨l_ x⟩ 32)).alloc (.cells ⟨MR [(p,pos s l,C,l.take (pos s l)),(some (Addr.mk w7.drew.heap.size 0 none),1,1,[x]),(q,n-(pos s l+if(get s l).isSome=true then 1 else 0),D,l.drop (pos s l+if(get s l).isSome=true then 1 else 0))]⟩ 27)):=(((Mod.refl _ _).drew).alloc _).alloc _;have OD:cK ((w7.drew.alloc (.cells ⟨l_ x⟩ 32)).alloc (.cells ⟨MR [(p,pos s l,C,l.take (pos s l)),(some (Addr.mk w7.drew.heap.size 0 none),1,1,[x]),(q,n-(pos s l+if(get s l).isSome=true then 1 else 0),D,l.drop (pos s l+if(get s l).isSome=true then 1 else 0))]⟩ 27)) (some (Addr.mk w7.drew.heap.size 0 none)) 1 1 [x]:=by refine⟨rfl,aV _,λ_=>⟨_,rfl,λj u hu=>?_⟩,λ_=>⟨_,_,rfl,hU.alloc _⟩⟩;rw[aHa,cQ];exact(hU.alloc _).dy (by simpa[vcs]using hu)
 have hfl:flat [(p,pos s l,C,l.take (pos s l)),(some (Addr.mk w7.drew.heap.size 0 none),1,1,[x]),(q,n-(pos s l+if(get s l).isSome=true then 1 else 0),D,l.drop (pos s l+if(get s l).isSome=true then 1 else 0))]=ins x l:=by rw[<-put_eq x l,OI];simp[flat]
 have hil:=SA x l;refine(apT (P:=[(p,pos s l,C,l.take (pos s l)),(some (Addr.mk w7.drew.heap.size 0 none),1,1,[x]),(q,n-(pos s l+if(get s l).isSome=true then 1 else 0),D,l.drop (pos s l+if(get s l).isSome=true then 1 else 0))]) (Row.new _ _ _) (λy hy=>?_) (by simp) (by rw[hfl,hil];split<;>omega)).mono ?_
 .simp only[aHs,uf,uj]at hy
  rcases hy with rfl|rfl|rfl
  .exact(WW.take (k:=pos s l) (by omega)).still CY
  .exact OD
  .exact hq.still CY
 .rw[hfl]
  rintro _ w9 ⟨r,E,rfl,hv,h9⟩;exact .inl ⟨_,_,_,rfl,r,E,rfl,hv,(CX.trans CY).trans h9⟩
end Go.Proofs.YtihaaoehhgmphaaGreatDoor.A
namespace Go.Proofs.YtihaaoehhgmphaaGreatDoor.A
open IntKind Go.RowKit Vc Go.Shelf
variable{w:World}
def azy(w:World)(r:List Vr×Int)(e:Ending)(w':World):Prop:=∃q D,e=.returned (.tuple #[.slice q r.1.length D,.int .i64 r.2])/\cK w' q r.1.length D r.1/\Still w w'
section
variable{p:Option Addr}{n C:Nat}{l:List Vr}
def adu(h:cK w p n C l)(hs:kZ l)(hn:n<900000)(s x:ag)(fM:s.length<=9223372036854775807):aq Gy #[.slice p n C,.string (S s),.string (S x)] w (azy w (i_ l s x)):=by
 apply an9;have hb:Row (w.alloc (.cells #[(.string (S x))] 9)) w.heap.size 9 ⟨[.string (S x)]⟩:=Row.new _ _ _;have hst:Still w (w.alloc (.cells #[(.string (S x))] 9)):=(Mod.refl _ _).alloc _;have hsz:(w.alloc (.cells #[(.string (S x))] 9)).heap.size=w.heap.size+1:=World.size_alloc ..;have e:tP l s (λy=>if y.ro=true then 150 else 0) (λy=>{y with value:=x})=i_ l s x:=by
  unfold tP i_;split
  .generalize getD s l=v
   obtain⟨a,b,c,d⟩:=v;cases d<;>rfl
  ·rfl
 refine(apa (h.still hst) hs hn s fM (err:=λy=>if y.ro=true then 150 else 0) (eF:=λy=>{y with value:=x}) ao_ (λ_=>rfl) ?_).mono ?_
 .intro w1 g y h1 hg hr
  have hU:=hb.mod h1 (λh=>h);apply anm;refine⟨_,by rw[aHa];exact hr.dy rfl,aA (λhro=>?_) (λhro=>?_)⟩
  .refine⟨by rw[hro];rfl,Mod.refl _ _,λh=>?_⟩
   rw[hro]at h;cases h
  .refine⟨_,hU.dy rfl,?_⟩
   show Wr _ ((Addr.mk g 0 none).add 1)/\_;rw[aHa];exact⟨hr.wr 1 (by simp[l_]),by rw[hro];rfl,(Mod.refl (λi=>i=g) w1).setCell (p:=Addr.mk g (0+1) none) (.inl rfl) _,λ_=>hr.fW 1 _⟩
 .rw[e]
  rintro _ w1 ⟨q,D,rfl,hv,h1⟩;exact .inl ⟨_,_,_,_,rfl,q,D,rfl,hv,hst.trans h1⟩
end
end Go.Proofs.YtihaaoehhgmphaaGreatDoor.A
namespace Go.Proofs.YtihaaoehhgmphaaGreatDoor.A
open IntKind Go.RowKit Vc
variable{w:World}
abbrev k7(k:Nat):List PanicEntry:=[{v:=.iface 28 (.int .i64 (k:Int)),recovered:=false}]
def j5(b:Bool)(k:Nat):aq qG #[.bool b,.int .i64 (k:Int)] w (λe w'=>(if b=true then e=.returned (.tuple #[])else e=.panicked (k7 k))/\w'=w):=by
 apply anh;cases b
 .exact⟨rfl,rfl⟩
 .exact⟨rfl,rfl⟩
def aKg(b:Bool):aq bS #[.bool b] w (λe w'=>e=.returned (.int .i64 (rY b))/\w'=w):=by
 apply amT;cases b
 .exact⟨rfl,rfl⟩
 .exact⟨rfl,rfl⟩
def aq9(op:ag)(n:Int):aq RC #[.string (S op),.int .i64 n] w (λe w'=>e=.returned (.int .i64 (mo op n))/\w'=w):=by
 apply amS;unfold mo;refine aA (λh=>?_) (λh=>?_)
 .rw[aL (aR h)]
  exact⟨rfl,rfl⟩
 rw[aG (aX h)];refine aA (λh=>?_) (λh=>?_)
 .rw[aL (aR h)]
  exact⟨rfl,rfl⟩
 rw[aG (aX h)];refine aA (λh=>?_) (λh=>?_)
 .rw[aL (aR h)]
  refine(aKg _).mono ?_;rintro _ w1 ⟨rfl,rfl⟩;exact .inl ⟨_,rfl,rfl,rfl⟩
 rw[aG (aX h)];exact⟨rfl,rfl⟩
def ZN(s:ag)(cs:ag)(hcs:cs.length<4294967281)(ha:cs.all (λb=>decide (b.toNat<128))=true):aq QG #[.string (S s),.string (S cs)] w (λe w'=>e=.returned (.string (S (s.dropWhile (cs.contains ·))))/\Still w w'):=by refine(Any.strings_TrimLeft_laid Tryz.lays161 (by kernel_rfl) (S s) (S cs) w (by simpa[ByteArray.size]using hcs) (ascii_of_all ha)).mono ?_;rintro _ w' ⟨rfl,hb⟩;exact⟨rfl,(Still.refl w).trans' hb (aV _)⟩
def aoi:aq QV #[] w (λe w'=>∃b,e=.returned (.slice (some ⟨b,0,none⟩) 30 30)/\de w' (some ⟨b,0,none⟩) 30 pg/\Still w w'):=by apply alH;exact aQ λw1 aHc hs1 hz1=>⟨_,rfl,de.row (l:=pg) aHc,hs1⟩
def Mp{g:Nat}{s:ag}(h:Row w g 72 ⟨[.string (S s)]⟩):aq DO #[.pointer (some ⟨g,0,none⟩)] w (λe w'=>e=.returned (.string (S (bT s)))/\Row w' g 72 ⟨[.string (S (trim s))]⟩/\Mod (λk=>k=g) w w'):=by
 apply alG;refine⟨s,h.aj rfl,(ZN s [32,9,10] (by decide) (by decide)).mono ?_⟩;rintro _ w1 ⟨rfl,hs1⟩;have et:s.dropWhile (([32,9,10]:ag).contains ·)=trim s:=by unfold trim;congr 1;funext c;simp[UI,Rl];rfl
 refine .inl ⟨_,rfl,?_⟩;rw[et];refine aHb (h.still hs1) λw2 hr2 hm2 jz=>?_;refine aoi.mono ?_;rintro _ w3 ⟨b,rfl,vV,hs3⟩;refine .inl ⟨_,_,_,rfl,?_⟩;have cV:Mod (λk=>k=g) w w3:=Mod.trans (Mod.trans hs1 hm2 (λ_ h=>h.elim) (λ_ _ h=>h)) hs3 (λ_ h=>h) (λ_ _ h=>h.elim);refine⟨λx w4=>∃i:Nat,x=(i:Int)/\i<=30/\bT s=((pg.drop i).find? (λo=>o.isPrefixOf (trim s))).getD []/\Still w3 w4,λx _=>30-x.toNat,⟨0,rfl,dK _,rfl,Still.refl _⟩,?_⟩;rintro _ _ w4 ⟨i,rfl,hi,ho,hs4⟩;have hr4:Row w4 g 72 ⟨[.string (S (trim s))]⟩:=(hr2.still hs3).still hs4;have eZ:Mod (λk=>k=g) w w4:=Mod.trans cV hs4 (λ_ h=>h) (λ_ _ h=>h.elim);refine aA (λhx=>?_) (λhx=>?_)
 .have hx:i<30:=by have:=aR hx;omega
  have e1:i64.wrap ((i:Int)+1)=((i+1:Nat):Int):=wI;obtain⟨a,ha,hc⟩:=(vV.still hs4).get hx;injection ha with ha;subst ha;refine⟨by omega,by omega,_,by rw[b6,aHp];exact hc,_,hr4.aj rfl,?_⟩;refine(Tryz.strings_HasPrefix _ _ _).mono ?_;rintro _ w5 ⟨rfl,rfl⟩;refine .inl ⟨_,rfl,?_⟩;have hil:i<pg.length:=hx;rw[qB hil,List.find?_cons]at ho;have ep:Lib.hasPrefix (S (trim s)).data.toList (S (pg[i]'hil)).data.toList=(pg[i]'hil).isPrefixOf (trim s):=rfl;rw[ep];cases hp:(pg[i]'hil).isPrefixOf (trim s)with
  |true=>rw[hp]at ho;refine aA (λ_=>⟨?_,hr4,eZ⟩) (λh=>by cases h);rw[ho];rfl
  |false=>rw[hp]at ho;refine aA (λh=>by cases h) (λ_=>?_);rw[e1];exact⟨⟨i+1,rfl,hx,ho,hs4⟩,by dsimp only;omega⟩
 .have hx:i=30:=by have:=aX hx;omega
  rw[hx,Yg (by decide)]at ho;rw[ho];exact⟨rfl,hr4,eZ⟩
def axC(g:Nat)(p:Option Addr):Prop:=∀a,p=some a->a.block≠g
def DX{p:Option Addr}{n C:Nat}{l:List ag}(h:de w p n l)(hn:n<1000)(x:ag):aq aJX #[.slice p n C,.string (S x)] w (λe w'=>e=.returned (.bool (decide (x∈l)))/\Still w w'):=by
 apply XV;have hl:=h.1;have key:aq J4 #[.slice p n C,.string (S x)] w (λe w'=>(∃z:Int,e=.returned (.int .i64 z)/\(0<=z↔x∈l))/\Still w w'):=by
  apply XY;refine⟨λz w1=>∃i:Nat,z=(i:Int)/\i<=n/\x∉l.take i/\w1=w,λz _=>n-z.toNat,⟨0,rfl,dK _,by simp,rfl⟩,?_⟩;rintro _ _ w1 ⟨i,rfl,hi,hno,rfl⟩;refine aA (λhx=>?_) (λhx=>?_)
  .have hx:i<n:=by have:=aR hx;omega
   have e1:i64.wrap ((i:Int)+1)=((i+1:Nat):Int):=wI;obtain⟨a,rfl,hc⟩:=h.get hx;have hil:i<l.length:=by omega
   refine⟨by omega,by omega,_,by rw[b6,aHp];exact hc,aA (λhe=>?_) (λhe=>?_)⟩
   .have he:=aR he
    exact⟨⟨_,rfl,⟨λ_=>by rw[he];exact kI hil,λ_=>by omega⟩⟩,Still.refl _⟩
   .have he:=aX he
    rw[e1];refine⟨⟨i+1,rfl,hx,?_,rfl⟩,by dsimp only;omega⟩;rw[D9 hil];intro hm;rcases kW.1 hm with hm|hm
    .exact hno hm
    .simp at hm
     exact he hm
  .have hx:i=l.length:=by have:=aX hx;omega
   rw[hx,oD]at hno;exact⟨⟨_,rfl,⟨λh=>absurd h (by decide),λh=>absurd h hno⟩⟩,Still.refl _⟩
 refine key.mono ?_;rintro _ w1 ⟨⟨z,rfl,hz⟩,hs1⟩;refine .inl ⟨_,rfl,?_,hs1⟩;rw[sY.2 hz]
def wO{g:Nat}{s:ag}(h:Row w g 72 ⟨[.string (S s)]⟩){p:Option Addr}{n C:Nat}{l:List ag}(hl:de w p n l)(hg:axC g p)(hn:n<1000)(h0:[]∉l):
  aq wz #[.pointer (some ⟨g,0,none⟩),.slice p n C] w (λe w'=>(if bT s∈l then e=.returned (.string (S (bT s)))/\Row w' g 72 ⟨[.string (S (fT s))]⟩else e=.returned (.string (S []))/\Row w' g 72 ⟨[.string (S (trim s))]⟩)/\Mod (λk=>k=g) w w'):=by
 apply alb;refine(Mp h).mono ?_;rintro _ w1 ⟨rfl,aHc,bW⟩;refine .inl ⟨_,rfl,aA (λhe=>?_) (λhe=>?_)⟩
 .have he:=aR he
  try dsimp only[zR]
  rw[aG (show¬bT s∈l by rw[he];exact h0)];exact⟨⟨rfl,aHc⟩,bW⟩
 have he:=aX he;have hl1:de w1 p n l:=⟨hl.1,λhn=>by
  obtain⟨a,ha,hc⟩:=hl.2 hn;exact⟨a,ha,λj u hu=>(World.cell?_of_block (bW.block _ (World.block_lt_of_cell? _ _ (hc j u hu)) (by
   have hb:(a.add j).block=a.block:=by unfold Addr.add;split<;>rfl
   rw[hb];exact hg a ha))).trans (hc j u hu)⟩⟩
 refine(DX hl1 hn _).mono ?_;rintro _ w2 ⟨rfl,hs2⟩;have hm2:Mod (λk=>k=g) w w2:=Mod.trans bW hs2 (λ_ h=>h) (λ_ _ h=>h.elim);have hr2:=aHc.still hs2;refine .inl ⟨_,rfl,aA (λhx=>?_) (λhx=>?_)⟩
 .have hx:bT s∉l:=by intro e;rw[fe e]at hx;cases hx
  try dsimp only[zR]
  rw[aG hx];exact⟨⟨rfl,hr2⟩,hm2⟩
 .have hx:bT s∈l:=by
   by_cases e:bT s∈l
   .exact e
   .rw[eX e]at hx;cases hx
  have hpre:=(Tq he).2;rw[J6]at hpre;have hle:=hpre.length_le;refine⟨trim s,hr2.aj rfl,by omega,by omega,aHb hr2 λw3 hr3 cV vO=>?_⟩;rw[b6]at hr3
  try dsimp only[zR]
  rw[aL hx];exact⟨⟨rfl,hr3⟩,Mod.trans hm2 cV (λ_ h=>h) (λ_ _ h=>h)⟩
def nd{p:Prop}[Decidable p](h:(!decide p)=false):p:=by simpa using h
def asW(b:Int):0<=bits .and .u64 (u64.wrap b) 63:=by
 have h:0<=u64.wrap b/\u64.wrap b<18446744073709551616:=by simp only[IntKind.wrap,IntKind.signed,IntKind.bits];simp;omega
 rw[aoQ h.1 h.2 (by decide) (by decide)];omega
def WX(r:Pr Int)(e:Ending):Prop:=match r with
 |.ok z=>e=.returned (.int .i64 z)
 |.bad k=>e=.panicked (k7 k)
set_option maxHeartbeats 4000000 in
def aav{op:ag}(hop:op∈yI)(a b:Int):aq aKm #[.string (S op),.int .i64 a,.int .i64 b] w (λe w'=>WX (aIF op a b) e/\w'=w):=by
 apply amC;refine⟨λw1=>w1=w/\¬(b=0/\(op=[47]\/op=[37])),?_,?_⟩
 .refine aA (λh=>?_) (λh=>?_)
  .refine(j5 true 131).mono ?_
   rintro _ w1 ⟨h1,rfl⟩;rw[aL rfl]at h1;subst h1;refine .inl ⟨rfl,rfl,λe=>?_⟩;rw[fe e.1]at h;cases h
  have hb:b=0:=nd h;refine aA (λh=>?_) (λh=>?_)
  .refine(j5 _ 131).mono ?_
   rintro _ w1 ⟨h1,rfl⟩
   by_cases h2:op=[37]
   .rw[fe h2]at h1
    rw[aG (show¬(!true)=true by decide)]at h1;subst h1;refine .inr ⟨_,rfl,?_,rfl⟩;unfold aIF;rw[aL ⟨hb,.inr h2⟩];rfl
   .rw[eX h2]at h1
    rw[aL (show(!false)=true from rfl)]at h1;subst h1;refine .inl ⟨rfl,rfl,λe=>?_⟩;rcases e.2 with e2|e2
    .rw[fe e2]at h;cases h
    .exact h2 e2
  .refine(j5 false 131).mono ?_
   rintro _ w1 ⟨h1,rfl⟩;rw[aG (by decide)]at h1;subst h1;refine .inr ⟨_,rfl,?_,rfl⟩;unfold aIF;rw[aL ⟨hb,.inl (nd h)⟩];rfl
 rintro _ w4 ⟨rfl,hno⟩;have hr:aIF op a b=.ok (Ng op a b):=by unfold aIF;rw[aG hno]
 rw[hr];unfold WX;dsimp only;obtain⟨V,hV⟩:∃V,V=Ng op a b:=⟨_,rfl⟩;rw[<-hV];have hsh:=asW b;simp only[yI,aHs,uf,uj]at hop;rcases hop with rfl|rfl|rfl|rfl|rfl|rfl|rfl|rfl|rfl|rfl|rfl|rfl|rfl|rfl|rfl|rfl
 all_goals
  repeat first
   |refine aA (λh=>absurd h (by decide)) (λ_=>?_)
   |refine aA (λ_=>?_) (λh=>absurd h (by decide))
  first
   |exact⟨by rw[hV];rfl,rfl⟩
   |exact⟨hsh,by rw[hV];rfl,rfl⟩
   |exact⟨λe=>hno ⟨e,.inl rfl⟩,by rw[hV];rfl,rfl⟩
   |exact⟨λe=>hno ⟨e,.inr rfl⟩,by rw[hV];rfl,rfl⟩
   |skip
 all_goals
  refine⟨λx w5=>w5=w4/\x=V,?_,?_⟩;rotate_left
  .rintro x _ w5 ⟨rfl,hx⟩
   exact⟨by rw[hx],rfl⟩
  repeat' first
   |refine aA (λh=>absurd h (by decide)) (λ_=>?_)
   |refine aA (λ_=>?_) (λh=>absurd h (by decide))
   |refine aA (λh=>?_) (λh=>?_)
  all_goals
   refine(aKg _).mono ?_;rintro _ w5 ⟨rfl,rfl⟩;refine .inl ⟨_,rfl,rfl,?_⟩
   first
    |(rw[hV];rfl)
    |(rw[hV];show rY _=rY _;rw[h])
def apb(s:ag):jJ s=if 2<s.length/\(s.take 2=[48,120]\/s.take 2=[48,88])then(16,s.drop 2)else if 1<s.length/\s[0]?=some 48 then(8,s)else(10,s):=by
 match s with
 |[]=>rfl
 |[a]=>rfl
 |[a,b]=>
  simp only[jJ];rw[aG (show¬(2<[a,b].length/\_)from λe=>absurd e.1 (by simp))]
  by_cases h:a=48<;>simp[h]
 |a::b::c::r=>
  simp only[jJ]
  by_cases h:a=48
  ·by_cases h2:b=120\/b=88
   .rw[aL ⟨h,h2⟩,aL ⟨by simp,by rcases h2 with h2|h2<;>simp[h,h2]⟩]
    rfl
   .rw[aG (λe=>h2 e.2),aL h,aG (λe=>h2 (by simpa[h]using e.2)),aL ⟨by simp,by simp[h]⟩]
  .rw[aG (λe=>h e.1),aG h,aG (λe=>h (by rcases e.2 with e|e<;>(simp at e;exact e.1))),aG (λe=>h (by simpa using e.2))]
abbrev EW:ag:=[48,49,50,51,52,53,54,55,56,57,97,98,99,100,101,102,65,66,67,68,69,70]
def auY(c:UInt8):EW.contains c=qS c:=by
 have h:∀n:Nat,n<256->EW.contains (UInt8.ofNat n)=qS (UInt8.ofNat n):=by decide+kernel
 have:=h c.toNat c.toNat_lt;rwa[Kz]at this
def asX(l cs:ag):(Lib.trimS l cs=[])↔l.all (λc=>cs.contains c)=true:=by
 unfold Lib.trimS Lib.trimLeftS Lib.trimRightS;have hd:∀(p:UInt8->Bool) (x:ag),x.dropWhile p=[]↔x.all p=true:=by
  intro p x
  induction x with
  |nil=>simp
  |cons c x ih=>
   rw[DE,yj]
   by_cases h:p c=true
   .rw[aL h,ih,h];simp
   .rw[aG h];simp[h]
 rw[hd];constructor
 .intro h
  rw[QT]at h;cases hx:l.reverse.dropWhile (λc=>cs.contains c)with
  |nil=>have:=(hd _ _).1 hx;rwa[QT]at this
  |cons c x=>have h2:=List.head?_dropWhile_not (λc=>cs.contains c) l.reverse;rw[hx]at h2 h;simp only[yj,aHo]at h;simp at h2;exact absurd (by simpa using h.1) h2
 .intro h
  have:l.reverse.dropWhile (λc=>cs.contains c)=[]:=(hd _ _).2 (by rw[QT];exact h);rw[this];rfl
def anT(he:Env w)(b:Nat)(hb:b=8\/b=10\/b=16)(s:ag)(hs:s.length<=140737488355328):
  aq QJ #[.string (S s),.int .i64 (b:Int),.int .i64 64] w (λe w'=>(∃(m:Int) (y:Value),e=.returned (.tuple #[.int .i64 m,y])/\y.oneCell'=true/\eL m/\(match nM b s with
   |.ok n=>m=n/\y=.nilIface
   |.bad _=>∃t v,y=.iface t v))/\Still w w'):=by
 apply alv;refine(aox b hb 64 (.inr rfl) s hs).mono ?_;rintro _ w1 ⟨⟨x,y,rfl,hr⟩,hs1⟩;cases hp:nM b s with
 |ok n=>rw[hp]at hr;obtain⟨rfl,rfl⟩:=hr;exact .inl ⟨_,_,rfl,rfl,⟨_,_,rfl,rfl,aoY hp,rfl,rfl⟩,hs1⟩
 |bad k=>rw[hp]at hr;obtain⟨⟨m,rfl,hm⟩,rfl⟩:=hr;refine .inl ⟨_,_,rfl,rfl,?_⟩;refine(ao6 (he.still hs1) _ s b 64 hs (aqJ hp)).mono ?_;rintro _ w2 ⟨⟨t,v,rfl⟩,hs2⟩;exact .inl ⟨_,rfl,rfl,⟨_,_,rfl,rfl,hm,t,v,rfl⟩,hs1.trans hs2⟩
def SE(he:Env w)(s:ag)(hs:s.length<=140737488355328):
  aq K8 #[.string (S s)] w (λe w'=>(∃(m:Int) (ok:Bool),e=.returned (.tuple #[.int .i64 m,.bool ok])/\eL m/\(match aIn s with
   |some n=>m=n/\ok=true
   |none=>ok=false))/\Still w w'):=by
 apply amX;have hbc:=apb s;refine⟨λb d w1=>b=((jJ s).1:Int)/\d=(jJ s).2/\Still w w1,⟨λq w1=>w1=w/\(q=true↔(2<s.length/\(s.take 2=[48,120]\/s.take 2=[48,88]))),?_,?_⟩,?_⟩
 .refine aA (λh=>?_) (λh=>?_)
  .have h:2<s.length:=by have:=aR h;omega
   refine⟨by decide,by omega,aA (λh1=>?_) (λh1=>⟨by decide,by omega,rfl,?_⟩)⟩
   .exact⟨rfl,λ_=>⟨h,.inl (aR h1)⟩,λ_=>rfl⟩
   .rw[oC]
    exact⟨λe=>⟨h,.inr e⟩,λe=>e.2.resolve_left (aX h1)⟩
  .exact⟨rfl,(λe=>by cases e),λe=>by have:=aX h;omega⟩
 .rintro q _ w1 ⟨rfl,hq⟩
  refine aA (λh=>?_) (λh=>?_)
  .have hc:=hq.1 h
   rw[aL hc]at hbc;rw[hbc];exact⟨by decide,by omega,rfl,rfl,(Still.refl _).cy⟩
  .have hc:¬(2<s.length/\(s.take 2=[48,120]\/s.take 2=[48,88])):=λe=>by rw[hq.2 e]at h;cases h
   rw[aG hc]at hbc;refine⟨λq w2=>w2=w1/\(q=true↔(1<s.length/\s[0]?=some 48)),?_,?_⟩
   .refine aA (λh=>?_) (λh=>?_)
    .have h:1<s.length:=by have:=aR h;omega
     have h0:=getD_some (p:=s) (i:=0) (by omega);refine⟨by decide,s[0],h0,rfl,?_⟩;rw[oC,h0];exact⟨λe=>⟨h,gJ some ((aHi (b:=48)).1 e)⟩,λe=>(aHi (b:=48)).2 (bU e.2)⟩
    .exact⟨rfl,(λe=>by cases e),λe=>by have:=aX h;omega⟩
   .rintro q _ w2 ⟨rfl,hq2⟩
    refine aA (λh=>?_) (λh=>?_)
    .rw[aL (hq2.1 h)]at hbc
     rw[hbc];exact⟨rfl,rfl,Still.refl _⟩
    .rw[aG (λe=>by rw[hq2.2 e]at h;cases h)]at hbc
     rw[hbc];exact⟨rfl,rfl,Still.refl _⟩
 rintro _ _ _ w3 ⟨rfl,rfl,hs3⟩;have hb:=T7 s;have hdl:(jJ s).2.length<=s.length:=by
  rw[hbc];split
  .rw[ig];omega
  .split<;>exact aV _
 unfold aIn;generalize(jJ s).1=b at*;generalize(jJ s).2=ds at*;refine(Any.strings_Trim_laid Tryz.lays160 (by kernel_rfl) (S ds) (S EW) w3 (show ds.length<=9223372036854775807 by omega) (by decide) (ascii_of_all (by decide))).mono ?_;rintro _ w4 ⟨rfl,hb4⟩;have hs4:Still w w4:=hs3.trans ((Still.refl w3).trans' hb4 (aV _));refine .inl ⟨Lib.trimS ds EW,rfl,?_⟩;have hnil:=asX ds EW;have hall:(ds.all λc=>EW.contains c)=ds.all qS:=by congr 1;funext c;exact auY c
 rw[hall]at hnil;refine aA (λh=>?_) (λh=>?_)
 .have h:¬ds.all qS=true:=λe=>by rw[fe (hnil.2 e)]at h;cases h
  rw[aG h];exact⟨⟨_,_,rfl,by decide,rfl⟩,hs4⟩
 have h:ds.all qS=true:=hnil.1 (nd h);rw[aL h];refine(anT (he.still hs4) b hb ds (by omega)).mono ?_;rintro _ w5 ⟨⟨m,y,rfl,hy,hm,hr⟩,hs5⟩;refine .inl ⟨_,y,hy,rfl,?_⟩;cases hp:nM b ds with
 |ok n=>rw[hp]at hr;obtain⟨rfl,rfl⟩:=hr;exact⟨⟨_,_,rfl,hm,rfl,rfl⟩,(hs4.trans hs5).cy⟩
 |bad k=>rw[hp]at hr;obtain⟨t,v,rfl⟩:=hr;exact⟨⟨_,_,rfl,hm,rfl⟩,(hs4.trans hs5).cy⟩
def auZ(s:ag):aq DL #[.string (S s),.string (S [45])] w (λe w'=>e=.returned (.tuple #[.string (S (if[45].isPrefixOf s=true then s.drop 1 else s)),.bool (([45]:ag).isPrefixOf s)])/\w'=w):=by
 apply Yn;have h:aq J2 #[.string (S s),.string (S [45])] w (λe w'=>e=.returned (.tuple #[.string (S (if[45].isPrefixOf s=true then s.drop 1 else s)),.bool (([45]:ag).isPrefixOf s)])/\w'=w):=by
  apply XU;refine(Tryz.stringslite_HasPrefix _ _ _).mono ?_;rintro _ w1 ⟨rfl,rfl⟩;have ep:Lib.hasPrefix (S s).data.toList (S [45]).data.toList=([45]:ag).isPrefixOf s:=rfl;rw[ep];refine .inl ⟨_,rfl,?_⟩;cases hp:([45]:ag).isPrefixOf s with
  |false=>exact aA (λ_=>⟨rfl,rfl⟩) (λh=>by cases h)
  |true=>
   refine aA (λh=>by cases h) (λ_=>?_);have hl:1<=s.length:=by rw[J6]at hp;exact hp.length_le
   exact⟨by decide,by simp only[bf,aHf];omega,rfl,rfl⟩
 refine h.mono ?_;rintro _ w1 ⟨rfl,rfl⟩;exact .inl ⟨_,_,rfl,rfl,rfl⟩
def aq_(he:Env w)(s:ag)(hs:s.length<=140737488355328):
  aq RD #[.string (S s)] w (λe w'=>(∃(m:Int) (ok:Bool),e=.returned (.tuple #[.int .i64 m,.bool ok])/\(match AK s with
   |some n=>m=n/\ok=true
   |none=>ok=false))/\Still w w'):=by
 apply amV;refine aA (λh=>?_) (λh=>?_)
 .have h:=aR h
  subst h;exact⟨⟨_,_,rfl,rfl,rfl⟩,Still.refl _⟩
 have h:s≠[]:=aX h;refine(auZ s).mono ?_;rintro _ w1 ⟨rfl,rfl⟩;refine .inl ⟨_,_,rfl,?_⟩;cases s with
 |nil=>exact absurd rfl h
 |cons c r=>
  have ep:([45]:ag).isPrefixOf (c::r)=decide (c=45):=by
   simp only[List.isPrefixOf,Rk]
   by_cases hc:c=45
   .simp[hc]
   .rw[eX hc]
    simp;exact λe=>hc e.symm
  rw[ep];simp only[bf]at hs
  by_cases hc:c=45
  .rw[fe hc,aL rfl]
   refine(SE he r (by omega)).mono ?_;rintro _ w2 ⟨⟨m,ok,rfl,hm,hv⟩,hs2⟩;refine .inl ⟨_,_,rfl,aA (λ_=>⟨⟨_,_,rfl,?_⟩,hs2⟩) (λh=>by cases h)⟩;have hw:AK (c::r)=(aIn r).map λn=>-n:=by simp only[AK];rw[aL hc]
   rw[hw];cases hn:aIn r with
   |none=>rw[hn]at hv;exact hv
   |some n=>
    rw[hn]at hv;obtain⟨rfl,rfl⟩:=hv;have:=LC hn;refine⟨?_,rfl⟩;rw[wrap_i64 (by omega) (by omega)];show 0-m= -m
    omega
  .rw[eX hc,aG (by decide)]
   refine(SE he (c::r) (by simp only[bf];omega)).mono ?_;rintro _ w2 ⟨⟨m,ok,rfl,hm,hv⟩,hs2⟩;refine .inl ⟨_,_,rfl,aA (λh=>by cases h) (λ_=>⟨⟨_,_,rfl,?_⟩,hs2⟩)⟩;have hw:AK (c::r)=aIn (c::r):=by simp only[AK];rw[aG hc]
   rw[hw];exact hv
structure WS(w:World)(g:Nat)(V:List Vr):Prop where
 row:∃p C,Row w g 79 ⟨[.slice p V.length C]⟩/\cK w p V.length C V
 IL:kZ V
 xO:∀v∈V,v.value.length<=140737488355328
def WS.still{g:Nat}{V:List Vr}{w':World}(h:WS w g V)(hm:Still w w'):WS w' g V:=by obtain⟨⟨p,C,h1,h2⟩,h3,h4⟩:=h;exact⟨⟨p,C,h1.still hm,h2.still hm⟩,h3,h4⟩
def au0{V:List Vr}(h:∀v∈V,v.value.length<=140737488355328)(x:ag):(getD x V).value.length<=140737488355328:=by
 have key:∀(l:List Vr) v,get x l=some v->v∈l:=by
  intro l
  induction l with
  |nil=>intro v hv;cases hv
  |cons a l ih=>
   intro v hv;simp only[get]at hv;split at hv
   .exact BO _ (ih v hv)
   .split at hv
    .injection hv with hv
     rw[<-hv];exact Qu ..
    .cases hv
 unfold getD;cases hg:get x V with
 |none=>exact dK _
 |some v=>exact h v (key V v hg)
def acv(he:Env w){g:Nat}{V:List Vr}(h:WS w g V)(hn:V.length<900000)(x:ag):
  aq KD #[.pointer (some ⟨g,0,none⟩),.string (S x)] w (λe w'=>WX (xw x V) e/\Still w w'):=by
 obtain⟨⟨p,C,h1,h2⟩,h3,h4⟩:=h;apply alI;refine⟨_,_,_,h1.aj rfl,(Tt h2 h3 (by omega) x).mono ?_⟩;rintro _ w2 ⟨rfl,hs2⟩;refine .inl ⟨_,_,_,_,_,rfl,?_⟩;refine xu (vs:=[.string (S (getD x V).name),.string (S (getD x V).value),.bool (getD x V).exp,.bool (getD x V).ro]) rfl (by simp[Value.oneCell']) λw4 hr4 hs4 BC=>?_;refine⟨_,hr4.aj rfl,?_⟩;have iL:=hs2.trans hs4;refine(aq_ (he.still iL) _ (au0 h4 x)).mono ?_;rintro _ w5 ⟨⟨m,ok,rfl,hv⟩,hs5⟩;refine .inl ⟨_,_,rfl,(j5 ok 130).mono ?_⟩;rintro _ w6 ⟨h6,rfl⟩;unfold xw;cases hw:AK (getD x V).value with
 |none=>rw[hw]at hv;subst hv;rw[aG (by decide)]at h6;subst h6;exact .inr ⟨_,rfl,rfl,iL.trans hs5⟩
 |some n=>rw[hw]at hv;obtain⟨rfl,rfl⟩:=hv;rw[aL rfl]at h6;subst h6;exact .inl ⟨rfl,rfl,iL.trans hs5⟩
def adv(V:List Vr)(x y:ag):(i_ V x y).2=0\/(i_ V x y).2=150\/(i_ V x y).2=1:=by
 unfold i_;split
 .split
  .exact .inr (.inl rfl)
  .exact .inl rfl
 .exact .inr (.inr rfl)
def asY(he:Env w){g:Nat}{V:List Vr}(h:WS w g V)(hn:V.length<900000)(x:ag)(hx:x.length<=9223372036854775807)(z:Int)(hz:eL z)(EF:∀y,(i_ V x y).2=0->kZ (i_ V x y).1):
  aq F_ #[.pointer (some ⟨g,0,none⟩),.string (S x),.int .i64 z] w (λe w'=>(match su V x z with
   |.ok p=>e=.returned (.tuple #[])/\WS w' g p.2
   |.bad k=>e=.panicked (k7 k))/\Mod (λk=>k=g) w w'):=by
 obtain⟨⟨p,C,h1,h2⟩,h3,h4⟩:=h;apply alJ;refine⟨λwq=>Still w wq,(Still.refl _).cy,_,_,_,λwq hq=>(h1.still hq).aj rfl,?_⟩;refine(GS (w:=w.drew) (he.still (Still.refl w).cy) z hz.1 hz.2).mono ?_;rintro _ w2 ⟨rfl,hs2⟩;have sy:=(Still.refl w).cy.trans hs2;refine .inl ⟨_,rfl,sy,(adu (h2.still sy) h3 hn x (Lib.itoa z) hx).mono ?_⟩;rintro _ w3 ⟨q,D,rfl,tR,hs3⟩;have aIp:=sy.trans hs3;have cV:Mod (λk=>k=g) w w3:=Mod.trans (Mod.refl _ w) aIp (λ_ h=>h) (λ_ _ h=>h.elim);refine .inl ⟨_,_,_,_,rfl,?_⟩;unfold su;have hr:=EF (Lib.itoa z);have her:=adv V x (Lib.itoa z);have hmem:∀v∈(i_ V x (Lib.itoa z)).1,v.value.length<=140737488355328:=by
  intro v hv;unfold i_ at hv;split at hv
  .split at hv
   .cases hv
   .rcases T6 hv with rfl|hv
    .have:=Lib.itoa_length_le z hz.1 (by have:=hz.2;omega)
     show(Lib.itoa z).length<=_;omega
    .exact h4 v hv
  .cases hv
 generalize i_ V x (Lib.itoa z)=r at*;obtain⟨V',k⟩:=r;dsimp only at*
 by_cases h0:k=0
 .subst h0
  rw[aL rfl];refine(j5 _ 0).mono ?_;rintro _ w4 ⟨h6,rfl⟩;rw[aL (show decide ((0:Int)=0)=true from rfl)]at h6;subst h6;refine .inl ⟨rfl,?_⟩;have hr3:=h1.still aIp;have hne:∀a:Addr,q=some a->0<V'.length->a.block≠g:=by intro a ha hpos hb;obtain⟨a',cs,aJN,hc⟩:=tR.2.2.2 hpos;rw[ha]at aJN;injection aJN with aJN;subst aJN;exact hc.ne hr3 (by decide) hb
  refine aHb hr3 λw5 kG tQ OA=>⟨⟨rfl,?_⟩,Mod.trans cV tQ (λ_ h=>h) (λ_ _ h=>h)⟩;refine⟨⟨q,D,kG,?_⟩,hr rfl,hmem⟩;rcases oB V'.length with e|e
  .exact⟨tR.1,tR.2.1,λh=>absurd (show 0<V'.length from h) (by omega),λh=>absurd (show 0<V'.length from h) (by omega)⟩
  .exact tR.mod tQ λa ha=>hne a ha e
 .rw[aG h0]
  have hk:((k.toNat:Nat):Int)=k:=by omega
  have hw:=j5 (w:=w3) (decide (k=0)) k.toNat;rw[hk]at hw;refine hw.mono ?_;rintro _ w4 ⟨h6,rfl⟩;rw[aG (by rw[eX h0];decide)]at h6;subst h6;exact .inr ⟨_,rfl,rfl,cV⟩
end Go.Proofs.YtihaaoehhgmphaaGreatDoor.A
namespace Go.Proofs.YtihaaoehhgmphaaGreatDoor
open IntKind Go.RowKit Vc
set_option maxRecDepth 100000
variable{w w0:World}
abbrev fQ:TypeId:=112
abbrev kP:TypeId:=104
abbrev pq:TypeId:=305
structure Sh where
 T:Tree
 V:List A.Vr
 st:Int
 bu:ag
 out:ag
 way:Int
 loops:Int
 last:Int
 fuel:Nat
 tu:Int
 err:ag
 cO:Nat
structure Kx where
 a:Nat
 g:Nat
 hb:Nat
 sb:Nat
 pb:Nat
 fm:Nat
def gR(K:Kx)(vp:Option Addr)(vc:Nat)(s:Sh):List Value:=
 [.pointer (some ⟨K.sb,0,none⟩),.pointer (some ⟨K.pb,0,none⟩),.string (S []),.slice vp s.V.length vc,.slice none 0 0,.int .i64 s.st,.map (some K.fm),.string (S s.bu),.string (S s.out),.int .i64 s.way,.int .i64 0,.int .i64 s.loops,.int .i64 0,.int .i64 s.last]
structure Sx where
 sp:Option Addr
 sn:Nat
 sc:Nat
 mp:Option Addr
 mn:Nat
 mc:Nat
 ran:Int
 bp:Option Addr
 buf:Value
def oT(K:Kx)(x:Sx)(s:Sh):List Value:=
 [.pointer (some ⟨K.a,0,none⟩),.int .i64 0,.bool false,.int .i64 0,.string (S []),.string (S []),.slice none 0 0,.string (S []),.slice x.sp x.sn x.sc,.slice x.mp x.mn x.mc,.int .i64 x.ran,.int .i64 0,.int .i64 0,.int .i64 s.tu,.int .i64 (s.fuel:Int),.pointer x.bp,x.buf]
structure aHV(w w0:World)(K:Kx)(x:Sx)(s:Sh):Prop where
 gS:eE w kP K.sb 15 w0.heap.size (oT K x s) x.buf s.err
 aHM:∃xs,aS w w0.heap.size pq 2 (.slice x.sp x.sn x.sc) x.sn xs
 eS:x.sn+s.cO<=100000/\s.err.length<=1000000/\s.fuel<=1000000
structure vW(w w0:World)(K:Kx)(s:Sh):Prop where
 rE:k4 s.T
 iD:iM w K.pb K.a
 fns:dM w K.fm []
 fX:∃vp vc,Row w K.hb fQ ⟨gR K vp vc s⟩/\A.cK w vp s.V.length vc s.V
 ia:∃x,aHV w w0 K x s
 low:w0.heap.size<=K.hb/\w0.heap.size<=K.sb
 Dg:K.g≠K.fm
structure bB(w w0:World)(K:Kx)(s:Sh):Prop extends vW w w0 K s where
 aHh:cU w w0.heap.size K.a K.g none 0 s.T
def Fc(K:Kx)(w:World)(k:Nat):Prop:=k=K.a\/k=K.g\/k=K.sb\/(∃v,w.cell? ⟨K.sb,8,none⟩=some v/\v.ownBlock=some k)\/∃v,w.cell? ⟨K.sb,16,none⟩=some v/\v.ownBlock=some k
def Ft(K:Kx)(w:World)(k:Nat):Prop:=k=K.hb\/Fc K w k
structure cz(F:Nat->Prop)(w:World)(F':Nat->Prop)(w':World):Prop where
 mod:Mod F w w'
 new:∀k,F' k->F k\/w.heap.size<=k
def cz.trans{F F' Jx:Nat->Prop}{w' w'':World}(h:cz F w F' w')(h':cz F' w' Jx w''):cz F w Jx w'':=
 ⟨Mod.trans h.mod h'.mod (λ_ h=>h) (λi hi hF=>(h.new i hF).elim id λhn=>by omega),λk hk=>by
  rcases h'.new k hk with hk|hk
  .exact h.new k hk
  .have:=h.mod.size;exact .inr (by omega)⟩
def cz.of{F F':Nat->Prop}{S:Nat->Prop}{w':World}(hm:Mod S w w')(hS:∀k,S k->F k)(hn:∀k,F' k->F k\/w.heap.size<=k):cz F w F' w':=⟨hm.weaken hS,hn⟩
def Kept(D F:Nat->Prop)(w:World):Prop:=∀k,D k->k<w.heap.size/\¬F k
def Kept.gone{D F F':Nat->Prop}{w':World}(h:Kept D F w)(hg:cz F w F' w'):Kept D F' w':=λk hk=>by have h1:=h k hk;have h2:=hg.mod.size;exact⟨by omega,λhF=>(hg.new k hF).elim h1.2 λhn=>by omega⟩
section
variable{K:Kx}{s:Sh}
def aHV.row{x:Sx}(h:aHV w w0 K x s):Row w K.sb kP ⟨oT K x s⟩:=h.gS.row
def aHV.own{x:Sx}(h:aHV w w0 K x s){k:Nat}(hk:Fc K w k):k=K.a\/k=K.g\/k=K.sb\/(Value.slice x.sp x.sn x.sc).ownBlock=some k\/x.buf.ownBlock=some k:=by
 rcases hk with h1|h1|h1|⟨v,hv,h1⟩|⟨v,hv,h1⟩
 .exact .inl h1
 .exact .inr (.inl h1)
 .exact .inr (.inr (.inl h1))
 .have:w.cell? ⟨K.sb,8,none⟩=some (.slice x.sp x.sn x.sc):=h.row.aj rfl
  rw[this]at hv;obtain rfl:=bU hv;exact .inr (.inr (.inr (.inl h1)))
 .have:w.cell? ⟨K.sb,16,none⟩=some x.buf:=h.row.aj rfl
  rw[this]at hv;obtain rfl:=bU hv;exact .inr (.inr (.inr (.inr h1)))
def aHV.yJ{x:Sx}(h:aHV w w0 K x s){k:Nat}(hk:k=K.a\/k=K.g\/k=K.sb\/(Value.slice x.sp x.sn x.sc).ownBlock=some k\/x.buf.ownBlock=some k):Fc K w k:=by
 rcases hk with h1|h1|h1|h1|h1
 .exact .inl h1
 .exact .inr (.inl h1)
 .exact .inr (.inr (.inl h1))
 .exact .inr (.inr (.inr (.inl ⟨_,h.row.aj rfl,h1⟩)))
 .exact .inr (.inr (.inr (.inr ⟨_,h.row.aj rfl,h1⟩)))
def pz{k g:Nat}{t:TypeId}{cs:Array Value}{es:List KV}(h:dM w g es)(hr:Row w k t cs):k≠g:=λe=>h.aHg hr e.symm
def bB.apart(h:bB w w0 K s){k:Nat}{t:TypeId}{cs:Array Value}(hr:Row w k t cs)(h1:t≠fQ)(h2:t≠kP)(h3:t≠pq)(h4:t≠5)(h5:t≠jW):¬Ft K w k:=by
 obtain⟨vp,vc,hh,hv⟩:=h.fX;obtain⟨x,hx⟩:=h.ia;obtain⟨xs,hs⟩:=hx.aHM;rintro(rfl|hk)
 .exact hr.ne hh h1 rfl
 .rcases hx.own hk with rfl|rfl|rfl|hk|hk
  .exact hr.ne h.aHh.top h5 rfl
  .exact pz h.aHh.now hr rfl
  .exact hr.ne hx.row h2 rfl
  .exact hs.aHg hr (λe=>h3 e.symm) hk
  .exact hx.gS.own.aHg hr (λe=>h4 e.symm) hk
def bB.lt(h:bB w w0 K s){k:Nat}(hk:Ft K w k):w0.heap.size<=k/\k<w.heap.size:=by
 obtain⟨vp,vc,hh,hv⟩:=h.fX;obtain⟨x,hx⟩:=h.ia;obtain⟨xs,hs⟩:=hx.aHM;rcases hk with rfl|hk
 .exact⟨h.low.1,hh.lt⟩
 .rcases hx.own hk with rfl|rfl|rfl|hk|hk
  .exact⟨h.aHh.low.1,h.aHh.top.lt⟩
  .exact⟨h.aHh.low.2,h.aHh.now.lt⟩
  .exact⟨h.low.2,hx.row.lt⟩
  .exact hs.lt k hk
  .exact hx.gS.own.lt k hk
def bB.Ue(h:bB w w0 K s){p:Option Addr}{n c:Nat}{V:List A.Vr}(hv:A.cK w p n c V)(hn:0<n):∀a,p=some a->¬Ft K w a.block:=by intro a ha;obtain⟨a',cs,h1,h2⟩:=hv.2.2.2 hn;rw[ha]at h1;obtain rfl:=bU h1;exact h.apart h2 (by decide) (by decide) (by decide) (by decide) (by decide)
def cK.aJH{S:Nat->Prop}{w':World}{p:Option Addr}{n c:Nat}{V:List A.Vr}(hv:A.cK w p n c V)(hm:Mod S w w')(hS:0<n->∀a,p=some a->¬S a.block):A.cK w' p n c V:=by
 rcases oB n with h0|h0
 .exact⟨hv.1,hv.2.1,λh=>by omega,λh=>by omega⟩
 .exact hv.mod hm (hS h0)
def vW.mod{S:Nat->Prop}{w':World}(h:vW w w0 K s)(hm:Mod S w w')(hS:∀k,S k->k<w.heap.size->k≠K.hb/\k≠K.sb/\k≠K.pb/\k≠K.fm/\∀t cs,Row w k t cs->t≠pq/\t≠5/\t≠32):vW w' w0 K s:=by
 obtain⟨vp,vc,hh,hv⟩:=h.fX;obtain⟨x,hx⟩:=h.ia;obtain⟨xs,hs⟩:=hx.aHM;refine⟨h.rE,h.iD.mod hm λhs=>(hS _ hs h.iD.lt).2.2.1 rfl,h.fns.mod hm λhs=>(hS _ hs h.fns.lt).2.2.2.1 rfl,⟨vp,vc,hh.mod hm λhs=>(hS _ hs hh.lt).1 rfl,cK.aJH hv hm λh0 a ha hs=>?_⟩,⟨x,hx.gS.mod hm (λhs=>(hS _ hs hx.row.lt).2.1 rfl) λk hk hs=>?_,⟨xs,hs.mod hm λk hk WY=>?_⟩,hx.eS⟩,h.low,h.Dg⟩
 .obtain⟨a',cs,h1,h2⟩:=hv.2.2.2 h0
  rw[ha]at h1;obtain rfl:=bU h1;exact((hS _ hs h2.lt).2.2.2.2 _ _ h2).2.2 rfl
 .obtain⟨cur,hr⟩:=hx.gS.own.typed hk
  exact((hS _ hs hr.lt).2.2.2.2 _ _ hr).2.1 rfl
 .obtain⟨cur,hr⟩:=hs.typed hk
  exact((hS _ WY hr.lt).2.2.2.2 _ _ hr).1 rfl
def vW.still{w':World}(h:vW w w0 K s)(hm:Still w w'):vW w' w0 K s:=h.mod hm λ_ h _=>h.elim
def bB.still{w':World}(h:bB w w0 K s)(hm:Still w w'):bB w' w0 K s:=⟨h.tovW.still hm,h.aHh.still hm⟩
def Fc.same{w':World}{k:Nat}(hc:∀o,w'.cell? ⟨K.sb,o,none⟩=w.cell? ⟨K.sb,o,none⟩):Fc K w' k↔Fc K w k:=by unfold Fc;rw[hc 8,hc 16]
def bB.HB{S:Nat->Prop}{w':World}(h:bB w w0 K s)(hm:Mod S w w')(hS:¬S K.sb)(o:Nat):w'.cell? ⟨K.sb,o,none⟩=w.cell? ⟨K.sb,o,none⟩:=by obtain⟨x,hx⟩:=h.ia;exact World.cell?_of_block (hm.block _ hx.row.lt hS)
def bB.gone{w':World}(h:bB w w0 K s)(hm:Still w w'):cz (Ft K w) w (Ft K w') w':=by
 refine⟨hm.weaken λ_ h=>h.elim,λk hk=>?_⟩;rcases hk with hk|hk
 .exact .inl (.inl hk)
 .exact .inl (.inr ((Fc.same λo=>h.HB hm (λh=>h) o).1 hk))
end
end Go.Proofs.YtihaaoehhgmphaaGreatDoor
namespace Go.Proofs.YtihaaoehhgmphaaGreatDoor
open IntKind Go.RowKit Vc
set_option maxRecDepth 100000
variable{w w0:World}{K:Kx}{s:Sh}
def cz.refl{F:Nat->Prop}(w:World):cz F w F w:=⟨Mod.refl _ _,λ_ h=>.inl h⟩
def bB.tys(h:bB w w0 K s):K.hb≠K.sb/\K.hb≠K.a/\K.hb≠K.g/\K.hb≠K.pb/\K.hb≠K.fm/\K.sb≠K.a/\K.sb≠K.g/\K.sb≠K.pb/\K.sb≠K.fm/\K.a≠K.pb/\K.a≠K.fm/\K.g≠K.pb/\K.g≠K.fm:=by obtain⟨vp,vc,hh,hv⟩:=h.fX;obtain⟨x,hx⟩:=h.ia;exact⟨hh.ne hx.row (by decide),hh.ne h.aHh.top (by decide),pz h.aHh.now hh,hh.ne h.iD (by decide),pz h.fns hh,hx.row.ne h.aHh.top (by decide),pz h.aHh.now hx.row,hx.row.ne h.iD (by decide),pz h.fns hx.row,h.aHh.top.ne h.iD (by decide),pz h.fns h.aHh.top,(pz h.aHh.now h.iD).symm,h.Dg⟩
def bB.put(h:bB w w0 K s){s':Sh}(e1:s'.T=s.T)(e2:s'.fuel=s.fuel)(e3:s'.tu=s.tu)(e4:s'.err=s.err)(e5:s'.cO=s.cO){vp:Option Addr}{vc:Nat}{w':World}(hm:Mod (λk=>k=K.hb) w w')(hr:Row w' K.hb fQ ⟨gR K vp vc s'⟩)(hv:A.cK w vp s'.V.length vc s'.V):
  bB w' w0 K s'/\cz (Ft K w) w (Ft K w') w':=by
 obtain⟨t1,t2,t3,t4,t5,_⟩:=h.tys;obtain⟨vp0,vc0,hh,_⟩:=h.fX;obtain⟨x,hx⟩:=h.ia;obtain⟨xs,hs⟩:=hx.aHM;have es:oT K x s'=oT K x s:=by simp only[oT,e2,e3]
 have hx':aHV w' w0 K x s':=by
  refine⟨?_,⟨xs,hs.mod hm λk hk e=>?_⟩,by rw[e4,e2,e5];exact hx.eS⟩
  .rw[es,e4]
   exact hx.gS.mod hm (λe=>t1 e.symm) λk hk e=>hx.gS.own.aHg hh (by decide) (by rw[hk,e])
  .exact hs.aHg hh (by decide) (by rw[hk,e])
 refine⟨⟨⟨by rw[e1];exact h.rE,h.iD.mod hm (λe=>t4 e.symm),h.fns.mod hm (λe=>t5 e.symm),⟨vp,vc,hr,cK.aJH hv hm λh0 a ha e=>h.Ue hv h0 a ha (.inl e)⟩,⟨x,hx'⟩,h.low,h.Dg⟩,?_⟩,?_⟩
 .rw[e1]
  refine h.aHh.mod hm λk hk e=>?_;rcases hk with rfl|rfl|⟨t,ht,_⟩
  .exact t2 e.symm
  .exact t3 e.symm
  .cases ht
 .refine⟨hm.weaken λk hk=>.inl hk,λk hk=>.inl ?_⟩
  rcases hk with hk|hk
  .exact .inl hk
  .exact .inr ((Fc.same λo=>h.HB hm (λe=>t1 e.symm) o).1 hk)
def bB.cell{i:Nat}{v:Value}(h:bB w w0 K s)(hv:∀vp vc,(gR K vp vc s)[i]?=some v):w.cell? ⟨K.hb,i,none⟩=some v:=by obtain⟨vp,vc,hh,_⟩:=h.fX;exact hh.aj (hv vp vc)
section
variable{P:World->Prop}
def bB.Is(h:bB w w0 K s)(x:Int)(hK:∀w',bB w' w0 K {s with st:=x}->cz (Ft K w) w (Ft K w') w'->Mod (λk=>k=K.hb) w w'->P w'):cJ (Addr.mk K.hb 5 none) P 0 [.int .i64 x] w:=by obtain⟨vp,vc,hh,hv⟩:=h.fX;refine dO (g:=K.hb) (o:=5) hh (by simp[gR]) (by simp[Value.oneCell']) λw' r' m' z'=>?_;obtain⟨h1,h2⟩:=h.put (s':={s with st:=x}) rfl rfl rfl rfl rfl m' r' hv;exact hK w' h1 h2 m'
def bB.af7(h:bB w w0 K s)(x:ag)(hK:∀w',bB w' w0 K {s with bu:=x}->cz (Ft K w) w (Ft K w') w'->Mod (λk=>k=K.hb) w w'->P w'):cJ (Addr.mk K.hb 7 none) P 0 [.string (S x)] w:=by obtain⟨vp,vc,hh,hv⟩:=h.fX;refine dO (g:=K.hb) (o:=7) hh (by simp[gR]) (by simp[Value.oneCell']) λw' r' m' z'=>?_;obtain⟨h1,h2⟩:=h.put (s':={s with bu:=x}) rfl rfl rfl rfl rfl m' r' hv;exact hK w' h1 h2 m'
def bB.MS(h:bB w w0 K s)(x:ag)(hK:∀w',bB w' w0 K {s with out:=x}->cz (Ft K w) w (Ft K w') w'->Mod (λk=>k=K.hb) w w'->P w'):cJ (Addr.mk K.hb 8 none) P 0 [.string (S x)] w:=by obtain⟨vp,vc,hh,hv⟩:=h.fX;refine dO (g:=K.hb) (o:=8) hh (by simp[gR]) (by simp[Value.oneCell']) λw' r' m' z'=>?_;obtain⟨h1,h2⟩:=h.put (s':={s with out:=x}) rfl rfl rfl rfl rfl m' r' hv;exact hK w' h1 h2 m'
def bB.axD(h:bB w w0 K s)(x:Int)(hK:∀w',bB w' w0 K {s with way:=x}->cz (Ft K w) w (Ft K w') w'->Mod (λk=>k=K.hb) w w'->P w'):cJ (Addr.mk K.hb 9 none) P 0 [.int .i64 x] w:=by obtain⟨vp,vc,hh,hv⟩:=h.fX;refine dO (g:=K.hb) (o:=9) hh (by simp[gR]) (by simp[Value.oneCell']) λw' r' m' z'=>?_;obtain⟨h1,h2⟩:=h.put (s':={s with way:=x}) rfl rfl rfl rfl rfl m' r' hv;exact hK w' h1 h2 m'
def bB.setLast(h:bB w w0 K s)(x:Int)(hK:∀w',bB w' w0 K {s with last:=x}->cz (Ft K w) w (Ft K w') w'->Mod (λk=>k=K.hb) w w'->P w'):cJ (Addr.mk K.hb 13 none) P 0 [.int .i64 x] w:=by obtain⟨vp,vc,hh,hv⟩:=h.fX;refine dO (g:=K.hb) (o:=13) hh (by simp[gR]) (by simp[Value.oneCell']) λw' r' m' z'=>?_;obtain⟨h1,h2⟩:=h.put (s':={s with last:=x}) rfl rfl rfl rfl rfl m' r' hv;exact hK w' h1 h2 m'
def bB.NR(h:bB w w0 K s){q:Option Addr}{D:Nat}{V:List A.Vr}(hq:A.cK w q V.length D V)(hK:∀w',bB w' w0 K {s with V:=V}->cz (Ft K w) w (Ft K w') w'->Mod (λk=>k=K.hb) w w'->P w'):cJ (Addr.mk K.hb 3 none) P 0 [.slice q V.length D] w:=by obtain⟨vp,vc,hh,hv⟩:=h.fX;refine dO (g:=K.hb) (o:=3) hh (by simp[gR]) (by simp[Value.oneCell']) λw' r' m' z'=>?_;obtain⟨h1,h2⟩:=h.put (s':={s with V:=V}) rfl rfl rfl rfl rfl m' r' hq;exact hK w' h1 h2 m'
def bB.setState(h:bB w w0 K s){q:Option Addr}{D:Nat}{V:List A.Vr}(hq:A.cK w q V.length D V)(x:Int)(hK:∀w',bB w' w0 K {s with V:=V,st:=x}->cz (Ft K w) w (Ft K w') w'->Mod (λk=>k=K.hb) w w'->P w'):cJ (Addr.mk K.hb 3 none) P 0 [.slice q V.length D,.slice none 0 0,.int .i64 x] w:=by obtain⟨vp,vc,hh,hv⟩:=h.fX;refine dO (g:=K.hb) (o:=3) hh (by simp[gR]) (by simp[Value.oneCell']) λw' r' m' z'=>?_;obtain⟨h1,h2⟩:=h.put (s':={s with V:=V,st:=x}) rfl rfl rfl rfl rfl m' r' hq;exact hK w' h1 h2 m'
end
def bB.VJ(h:bB w w0 K s){s':Sh}(eT:s'.T=s.T){w':World}(hm:Mod (Fc K w) w w'){x':Sx}(hx:aHV w' w0 K x' s')(es:∀vp vc,gR K vp vc s'=gR K vp vc s)(eV:s'.V=s.V)(hst:cU w' w0.heap.size K.a K.g none 0 s.T)
  (hn:∀k,((Value.slice x'.sp x'.sn x'.sc).ownBlock=some k\/x'.buf.ownBlock=some k)->Fc K w k\/w.heap.size<=k):bB w' w0 K s'/\cz (Ft K w) w (Ft K w') w':=by
 obtain⟨t1,t2,t3,t4,t5,t6,t7,t8,t9,t10,t11,t12,t13⟩:=h.tys;obtain⟨vp,vc,hh,hv⟩:=h.fX;obtain⟨x,hx0⟩:=h.ia;obtain⟨xs,hs0⟩:=hx0.aHM;have nC:∀{k:Nat} {t:TypeId} {cs:Array Value},Row w k t cs->t≠kP->t≠pq->t≠5->t≠jW->¬Fc K w k:=by
  intro k t cs hr h2 h3 h4 h5 hk;rcases hx0.own hk with rfl|rfl|rfl|hk|hk
  .exact hr.ne h.aHh.top h5 rfl
  .exact pz h.aHh.now hr rfl
  .exact hr.ne hx0.row h2 rfl
  .exact hs0.aHg hr (λe=>h3 e.symm) hk
  .exact hx0.gS.own.aHg hr (λe=>h4 e.symm) hk
 refine⟨⟨⟨by rw[eT];exact h.rE,h.iD.mod hm (nC h.iD (by decide) (by decide) (by decide) (by decide)),?_,⟨vp,vc,by rw[es];exact hh.mod hm (nC hh (by decide) (by decide) (by decide) (by decide)),?_⟩,⟨x',hx⟩,h.low,h.Dg⟩,by rw[eT];exact hst⟩,?_⟩
 .refine h.fns.mod hm λhk=>?_
  rcases hx0.own hk with hk|hk|hk|hk|hk
  .exact t11 hk.symm
  .exact t13 hk.symm
  .exact t9 hk.symm
  .obtain⟨cur,hr⟩:=hs0.typed hk
   exact h.fns.aHg hr rfl
  .obtain⟨cur,hr⟩:=hx0.gS.own.typed hk
   exact h.fns.aHg hr rfl
 .rw[eV]
  refine cK.aJH hv hm λh0 a ha hk=>h.Ue hv h0 a ha (.inr hk)
 .refine⟨hm.weaken λk hk=>.inr hk,λk hk=>?_⟩
  rcases hk with hk|hk
  .exact .inl (.inl hk)
  .rcases hx.own hk with hk|hk|hk|hk|hk
   .exact .inl (.inr (.inl hk))
   .exact .inl (.inr (.inr (.inl hk)))
   .exact .inl (.inr (.inr (.inr (.inl hk))))
   .exact(hn k (.inl hk)).imp (λh=>.inr h) id
   .exact(hn k (.inr hk)).imp (λh=>.inr h) id
def aHV.aHh{x:Sx}(hx:aHV w w0 K x s)(h:bB w w0 K s){S:Nat->Prop}{w':World}(hm:Mod S w w')(hS:∀k,S k->k=K.sb\/(Value.slice x.sp x.sn x.sc).ownBlock=some k\/x.buf.ownBlock=some k):cU w' w0.heap.size K.a K.g none 0 s.T:=by
 obtain⟨xs,hs0⟩:=hx.aHM;refine h.aHh.mod hm λk hk hsk=>?_;rcases hk with rfl|rfl|⟨t,ht,_⟩
 .rcases hS _ hsk with e|e|e
  .exact hx.row.ne h.aHh.top (by decide) e.symm
  .exact hs0.aHg h.aHh.top (by decide) e
  .exact hx.gS.own.aHg h.aHh.top (by decide) e
 .rcases hS _ hsk with e|e|e
  .exact pz h.aHh.now hx.row e.symm
  .obtain⟨cur,hr⟩:=hs0.typed e
   exact h.aHh.now.aHg hr rfl
  .obtain⟨cur,hr⟩:=hx.gS.own.typed e
   exact h.aHh.now.aHg hr rfl
 .cases ht
section
variable{P:World->Prop}
def bB.af8(h:bB w w0 K s){s':Sh}(eT:s'.T=s.T)(es:∀vp vc,gR K vp vc s'=gR K vp vc s)(eV:s'.V=s.V)(ee:s'.err=s.err)(eb:s'.cO=s.cO)(hf:s'.fuel<=1000000){o:Nat}{v:Value}(ho:o+1<=17)(h1:v.oneCell'=true)(hx':∀x,aHV w w0 K x s->∃x',oT K x' s'=(oT K x s).set o v/\x'.buf=x.buf/\x'.sp=x.sp/\x'.sn=x.sn/\x'.sc=x.sc)(aKh:o≠15)(aHH:o≠16)
  (hK:∀w',bB w' w0 K s'->cz (Ft K w) w (Ft K w') w'->P w'):cJ (Addr.mk K.sb o none) P 0 [v] w:=by
 obtain⟨x,hx⟩:=h.ia;obtain⟨x',e1,e2,e3,e4,e5⟩:=hx' x hx;obtain⟨xs,hs0⟩:=hx.aHM;refine dO (g:=K.sb) (o:=o) hx.row (by simpa[oT]using ho) (by simpa using h1) λw' r' m' z'=>?_;have r'':Row w' K.sb kP ⟨oT K x' s'⟩:=by rw[e1];exact r'
 have hx2:aHV w' w0 K x' s':=by refine⟨?_,⟨xs,by rw[e3,e4,e5];exact hs0.mod m' λk hk e=>hs0.aHg hx.row (by decide) (by rw[hk,e])⟩,by rw[e4,ee,eb];exact⟨hx.eS.1,hx.eS.2.1,hf⟩⟩;rw[e2,ee];exact hx.gS.other r'' m' (by rw[e1,rJ aKh]) (by rw[e1,rJ aHH])
 obtain⟨a1,a2⟩:=h.VJ eT (m'.weaken λk hk=>.inr (.inr (.inl hk))) hx2 es eV (hx.aHh h m' λk hk=>.inl hk) (λk hk=>.inl (hx.yJ (by rw[e2,e3,e4,e5]at hk;exact .inr (.inr (.inr hk)))));exact hK w' a1 a2
def bB.awm(h:bB w w0 K s)(n:Nat)(hn:n<=1000000)(hK:∀w',bB w' w0 K {s with fuel:=n}->cz (Ft K w) w (Ft K w') w'->P w'):cJ (Addr.mk K.sb 14 none) P 0 [.int .i64 (n:Int)] w:=
 h.af8 (s':={s with fuel:=n}) rfl (λ_ _=>rfl) rfl rfl rfl hn (by decide) rfl (λx _=>⟨x,rfl,rfl,rfl,rfl,rfl⟩) (by decide) (by decide) hK
def bB.axE(h:bB w w0 K s)(n:Int)(hK:∀w',bB w' w0 K s->cz (Ft K w) w (Ft K w') w'->P w'):cJ (Addr.mk K.sb 10 none) P 0 [.int .i64 n] w:=by obtain⟨x,hx⟩:=h.ia;exact h.af8 (s':=s) rfl (λ_ _=>rfl) rfl rfl rfl hx.eS.2.2 (by decide) rfl (λx _=>⟨{x with ran:=n},rfl,rfl,rfl,rfl,rfl⟩) (by decide) (by decide) hK
end
def anU{T g o B:Nat}{cs:List Value}{v:Value}{bs:List UInt8}(h:eE w T g o B cs v bs)(hl:nT T cs.length o)(s:List UInt8)(hB:B<=w.heap.size)(hs:bs.length+s.length<=140737488355328):
  aq iT #[.pointer (some ⟨g,o,none⟩),.string (S s)] w (λe w'=>e=.returned (.tuple #[.int .i64 (s.length:Int),.nilIface])/\
   ∃v',eE w' T g o B ((cs.set o (.pointer (some ⟨g,o,none⟩))).set (o+1) v') v' (bs++s)/\Mod (λk=>k=g\/v.ownBlock=some k) w w'/\∀k,v'.ownBlock=some k->v.ownBlock=some k\/w.heap.size<=k):=by
 apply XX;refine(RJ h.torX hl).mono ?_;rintro _ w1 ⟨rfl,h1,bW,hz1⟩;have hroom:=h.room;have aF0:=h.ne;obtain⟨p,c,rfl⟩:=h1.own.form;have hlt:=h.lt;refine .inl ⟨rfl,_,_,_,by rw[aHa];exact h1.row.aj h1.buf,?_⟩;refine ab2 h1.own (by omega) (by omega) (by omega) λp' c' w2 cc hm2 fS=>?_;have hr2:=h1.row.mod hm2 (λe=>h1.ne e);show cJ (Addr.add _ 1) _ _ _ _
 rw[aHa];refine dO hr2 (by simp;omega) (by simp[Value.oneCell']) λw3 hr3 cV vO=>⟨rfl,_,⟨⟨hr3,?_,?_,?_,?_⟩,?_⟩,?_,?_⟩
 .exact .inr (by show((cs.set o _).set (o+1) _)[o]?=_;rw[rJ (by omega),sW (by omega)])
 .exact sW (by simp;omega)
 .have hne:(Value.slice p' (bs.length+s.length) c').ownBlock≠some g:=by
   rcases fS.own (n:=bs.length)with e|e
   .rw[e];exact h1.ne
   .rw[e];have:=h1.row.lt;exact λe=>by injection e with e;omega
  have:=cc.mod cV (λk hk e=>hne (by rw[hk,e]));rw[<-GM]at this;rw[cB];exact this
 .rcases fS.own (n:=bs.length)with e|e
  .rw[e];exact h1.ne
  .rw[e];have:=h1.row.lt;exact λe=>by injection e with e;omega
 .rw[Roomy,cB]
  exact aKH fS rfl hroom cc
 .exact Mod.trans bW (Mod.trans hm2 cV (U:=λk=>k=g\/(Value.slice p bs.length c).ownBlock=some k) (λ_ h=>.inr h) (λ_ _ h=>.inl h)) (λ_ h=>.inl h) (λ_ _ h=>h)
 .intro k hk
  rcases fS.own (n:=bs.length)with e|e
  .exact .inl (e.symm.trans hk)
  .rw[hk]at e
   exact .inr (by have:=bU e;omega)
def awn:nT kP 17 15:=by unfold nT;kernel_rfl
def bB.adw(h:bB w w0 K s)(hz:w0.heap.size<=w.heap.size)(x:ag)(hl:s.err.length+x.length<=1000000):
  aq iT #[.pointer (some ⟨K.sb,15,none⟩),.string (S x)] w (λe w'=>e=.returned (.tuple #[.int .i64 (x.length:Int),.nilIface])/\bB w' w0 K {s with err:=s.err++x}/\cz (Ft K w) w (Ft K w') w'):=by
 obtain⟨y,hy⟩:=h.ia;obtain⟨xs,hs0⟩:=hy.aHM;refine(anU hy.gS awn x hz (by omega)).mono ?_;rintro _ w' ⟨rfl,v',h1,m1,n1⟩;refine⟨rfl,?_⟩;have hy2:aHV w' w0 K {y with bp:=some ⟨K.sb,15,none⟩,buf:=v'} {s with err:=s.err++x}:=by
  refine⟨h1,⟨xs,hs0.mod m1 λk hk e=>?_⟩,hy.eS.1,by simp;omega,hy.eS.2.2⟩;rcases e with e|e
  .exact hs0.aHg hy.row (by decide) (by rw[hk,e])
  .exact hs0.apart hy.gS.own (by decide) hk e
 refine h.VJ (s':={s with err:=s.err++x}) rfl (m1.weaken λk hk=>?_) hy2 (λ_ _=>rfl) rfl (hy.aHh h m1 λk hk=>hk.imp id .inr) λk hk=>?_
 .rcases hk with hk|hk
  .exact hy.yJ (.inr (.inr (.inl hk)))
  .exact hy.yJ (.inr (.inr (.inr (.inr hk))))
 .rcases hk with hk|hk
  .exact .inl (hy.yJ (.inr (.inr (.inr (.inl hk)))))
  .exact(n1 k hk).imp (λh=>hy.yJ (.inr (.inr (.inr (.inr h))))) id
def bB.aeu(h:bB w w0 K s)(hz:w0.heap.size<=w.heap.size){x:Sx}(hx:aHV w w0 K x s){q:Addr}{u v:Value}(hu:u.oneCell'=true)(hv:v.oneCell'=true)(h0:w.cell? q=some u)(h1:w.cell? (q.add 1)=some v)(hb:0<s.cO){C:Option Addr->Nat->World->Prop}
  (hC:∀p c w1,Mod (λk=>(Value.slice x.sp x.sn x.sc).ownBlock=some k) w w1->(∀P:World->Prop,(∀w',bB w' w0 K {s with cO:=s.cO-1}->cz (Ft K w) w (Ft K w') w'->P w')->cJ (Addr.mk K.sb 8 none) P 0 [.slice p (x.sn+1) c] w1)->C p c w1):
  dL w pq 2 48 x.sp x.sn x.sc (some q) 1 C:=by
 obtain⟨xs,hs0⟩:=hx.aHM;have hf:=hx.eS.1;refine rM hs0 hz [u,v] rfl (λz hz=>by simp only[aHs,uf,uj]at hz;rcases hz with rfl|rfl<;>assumption) (λ_=>⟨q,rfl,λj z hj=>?_⟩) (by omega) (by omega) λp c w1 o1 m1 bk=>hC p c w1 m1 λP hP=>?_
 ·match j,hj with
  |0,hj=>obtain rfl:=bU hj;exact h0
  |1,hj=>obtain rfl:=bU hj;exact h1
 have hne:(Value.slice x.sp x.sn x.sc).ownBlock≠some K.sb:=hs0.aHg hx.row (by decide);have r1:=hx.row.mod m1 hne;refine dO (g:=K.sb) (o:=8) r1 (by simp[oT]) (by simp[Value.oneCell']) λw2 r2 m2 z2=>?_;have m12:Mod (λk=>k=K.sb\/(Value.slice x.sp x.sn x.sc).ownBlock=some k) w w2:=Mod.trans m1 m2 (λ_ h=>.inr h) (λ_ _ h=>.inl h);have hy2:aHV w2 w0 K {x with sp:=p,sn:=x.sn+1,sc:=c} {s with cO:=s.cO-1}:=by
  refine⟨?_,⟨_,o1.mod m2 λk hk e=>?_⟩,by dsimp only;omega,hx.eS.2⟩
  .have b1:=hx.gS.mod m1 hne λk hk e=>hs0.apart hx.gS.own (by decide) e hk
   exact b1.other (cs':=oT K {x with sp:=p,sn:=x.sn+1,sc:=c} {s with cO:=s.cO-1}) r2 m2 rfl rfl
  .exact o1.aHg r1 (by decide) (by rw[hk,e])
 have WZ:∀k,k=K.sb\/(Value.slice x.sp x.sn x.sc).ownBlock=some k->Fc K w k:=λk hk=>by
  rcases hk with hk|hk
  .exact hx.yJ (.inr (.inr (.inl hk)))
  .exact hx.yJ (.inr (.inr (.inr (.inl hk))))
 have hn:∀k,((Value.slice p (x.sn+1) c).ownBlock=some k\/x.buf.ownBlock=some k)->Fc K w k\/w.heap.size<=k:=λk hk=>by
  rcases hk with hk|hk
  .rcases bk.own (n:=x.sn)with e|e
   .exact .inl (hx.yJ (.inr (.inr (.inr (.inl (e.symm.trans hk))))))
   .have hk':(Value.slice p (x.sn+1) c).ownBlock=some k:=hk
    rw[hk']at e;exact .inr (by have:=bU e;omega)
  .exact .inl (hx.yJ (.inr (.inr (.inr (.inr hk)))))
 obtain⟨a1,a2⟩:=h.VJ (s':={s with cO:=s.cO-1}) rfl (m12.weaken WZ) hy2 (λ_ _=>rfl) rfl (hx.aHh h m12 λk hk=>hk.imp id .inl) hn;exact hP w2 a1 a2
def cz.trans'{F F' G Jx:Nat->Prop}{w' w'':World}(h:cz F w F' w')(h':cz G w' Jx w'')(hG:∀k,k<w.heap.size->G k->F' k\/F k):cz F w Jx w'':=
 ⟨Mod.trans h.mod h'.mod (λ_ h=>h) (λi hi hg=>(hG i hi hg).elim (λh1=>(h.new i h1).elim id λhn=>by omega) id),λk hk=>by
  rcases h'.new k hk with hk|hk
  .rcases yl k w.heap.size with hl|hl
   .exact(hG k hl hk).elim (λh1=>h.new k h1) .inl
   .exact .inr hl
  .have:=h.mod.size;exact .inr (by omega)⟩
structure Aside(w w0:World)(K:Kx)(X:Nat->Prop):Prop where
 lt:∀k,X k->w0.heap.size<=k/\k<w.heap.size
 ne:∀k,X k->k≠K.hb/\k≠K.sb/\k≠K.pb/\k≠K.fm/\k≠K.a/\k≠K.g
 ty:∀k,X k->∀t cs,Row w k t cs->t≠pq/\t≠5/\t≠32
def abf(b_:fJ w0)(h0:Still w0 w)(h:bB w w0 K s)(hb:0<s.cO){f:FuncId}{cap:List Value}(hc:dD aM f=true){X:Nat->Prop}(hX:Aside w w0 K X){T1:Tree}(hT:k4 T1){Q:World->Prop}(hQ:∀wa wb,Q wa->Mod (λk=>¬X k) wa wb->Q wb)
  (Jy:∀w1 t,Mod (λk=>k=K.a) w w1->cU w1 w0.heap.size K.a K.g (some t) 0 s.T->(∀k,SF K.a K.g (some t) k->k=K.a\/k=K.g\/w.heap.size<=k)->aq f ⟨cap⟩ w1 λe w2=>e=.returned (.int .i64 0)/\(∃n,n<=12/\cU w2 w0.heap.size K.a K.g (some t) n T1)/\Mod (λk=>SF K.a K.g (some t) k\/X k) w1 w2/\Q w2):
  aq DM #[.pointer (some ⟨K.hb,0,none⟩),.func (.func f) #[] ⟨cap⟩] w λe w'=>e=.returned (.int .i64 0)/\bB w' w0 K {s with T:=T1,cO:=s.cO-1}/\cz (λk=>Ft K w k\/X k) w (Ft K w') w'/\Q w':=by
 obtain⟨t1,t2,t3,t4,t5,t6,t7,t8,t9,t10,t11,t12,t13⟩:=h.tys;have hz0:=h0.size;apply ald;obtain⟨x0,hx0⟩:=h.ia;refine⟨_,h.cell λ_ _=>rfl,_,hx0.row.aj rfl,(aa9 h.aHh h0).mono ?_⟩;rintro _ w1 ⟨rfl,t,h1,m1,g1,g2,g3,g4⟩;have low:∀k,SF K.a K.g (some t) k->k=K.a\/k=K.g\/w.heap.size<=k:=λk hk=>by
  rcases hk with e|e|⟨t',ht',hk⟩
  .exact .inl e
  .exact .inr (.inl e)
  .obtain rfl:=bU ht'
   rcases hk with rfl|rfl|rfl|rfl<;>exact .inr (.inr (by assumption))
 refine .inl ⟨rfl,Af (aA (λ_=>?_) (λh=>by rw[hc]at h;cases h))⟩;refine(Jy w1 t m1 h1 low).mono ?_;rintro _ w2 ⟨rfl,⟨n,hn,h2⟩,m2,q2⟩;have xP:Mod (λk=>k=K.a\/k=K.g\/X k) w w2:=Mod.trans m1 m2 (λ_ h=>.inl h) λk hk hS=>by
  rcases hS with hS|hS
  .rcases low k hS with e|e|e
   .exact .inl e
   .exact .inr (.inl e)
   .omega
  .exact .inr (.inr hS)
 have ap:∀k,(k=K.a\/k=K.g\/X k)->k<w.heap.size->k≠K.hb/\k≠K.sb/\k≠K.pb/\k≠K.fm/\∀t cs,Row w k t cs->t≠pq/\t≠5/\t≠32:=λk hk _=>by
  rcases hk with rfl|rfl|hk
  .refine⟨λe=>t2 e.symm,λe=>t6 e.symm,t10,t11,λt cs hr=>?_⟩
   have e:t=jW:=FT λhne=>hr.ne h.aHh.top hne rfl;subst e;exact⟨by decide,by decide,by decide⟩
  .exact⟨λe=>t3 e.symm,λe=>t7 e.symm,t12,t13,λt cs hr=>absurd rfl (h.aHh.now.aHg hr)⟩
  .obtain⟨a1,a2,a3,a4,_,_⟩:=hX.ne k hk
   exact⟨a1,a2,a3,a4,hX.ty k hk⟩
 have hR2:vW w2 w0 K s:=h.tovW.mod xP ap;have vU:Still w0 w2:=Mod.trans h0 xP (λ_ h=>h) λk hk hS=>by
  rcases hS with e|e|e
  .have:=h.aHh.low.1;omega
  .have:=h.aHh.low.2;omega
  .have:=(hX.lt k e).1;omega
 obtain⟨x2,hx2⟩:=hR2.ia;have c2:w2.cell? ⟨K.hb,0,none⟩=some (.pointer (some ⟨K.sb,0,none⟩)):=by obtain⟨vp,vc,hh,_⟩:=hR2.fX;exact hh.aj rfl
 refine .inl ⟨_,rfl,_,c2,_,hx2.row.aj rfl,(adp b_.env vU h2 hn).mono ?_⟩;rintro _ w3 ⟨⟨p1,n1,c1,p2,n2,c2',rfl⟩,h3,m3⟩;have BD:Mod (λk=>k=K.a\/k=K.g\/X k) w w3:=Mod.trans xP m3 (λ_ h=>h) (λ_ _ h=>.inl h);have sO:vW w3 w0 K s:=h.tovW.mod BD ap;have hS3:bB w3 w0 K {s with T:=T1}:=⟨⟨hT,sO.iD,sO.fns,sO.fX,by
  obtain⟨x,hx⟩:=sO.ia;exact⟨x,hx.gS,hx.aHM,hx.eS⟩,sO.low,sO.Dg⟩,by
  refine⟨h3.top,h3.now,h3.eS,h3.low,λt ht=>by cases ht⟩⟩
 have W0:∀k,Ft K w3 k->Ft K w k:=λk hk=>by
  rcases hk with hk|hk
  .exact .inl hk
  .refine .inr ((Fc.same λo=>World.cell?_of_block (BD.block _ hx0.row.lt λhs=>?_)).1 hk)
   rcases hs with e|e|e
   .exact t6 e
   .exact t7 e
   .exact(hX.ne _ e).2.1 rfl
 have NS:=hS3.still (Still.refl _).cy;obtain⟨x3,hx3⟩:=NS.ia;obtain⟨vX,vY,mu,_⟩:=NS.fX;have aJO:Still w0 w3.drew:=Mod.drew (Mod.trans vU m3 (λ_ h=>h) λk hk e=>by have:=h.aHh.low.1;omega);have vO:=aJO.size;refine .inl ⟨_,_,_,_,_,_,rfl,λwq=>Row wq K.hb fQ ⟨gR K vX vY {s with T:=T1}⟩/\∃x,Row wq K.sb kP ⟨oT K x3 {s with T:=T1}⟩/\x=x3,⟨mu,x3,hx3.row,rfl⟩,_,λwq hq=>hq.1.aj rfl,_,λwq hq=>hq.1.aj rfl,_,_,_,λwq hq=>by obtain⟨_,x,hr,rfl⟩:=hq;exact hr.aj rfl,?_⟩;refine aQ λw4 r4 s4 z4=>⟨⟨mu.still s4,x3,hx3.row.still s4,rfl⟩,?_⟩;have W1:=NS.still s4;have aJP:aHV w4 w0 K x3 {s with T:=T1}:=by obtain⟨xs,hs⟩:=hx3.aHM;exact⟨hx3.gS.still s4,⟨xs,hs.still s4⟩,hx3.eS⟩
 have gS4:cz (Ft K w3.drew) w3.drew (Ft K w4) w4:=NS.gone s4;refine W1.aeu (by have:=s4.size;omega) aJP (q:=⟨w3.drew.heap.size,0,none⟩) (u:=.slice p1 n1 c1) (v:=.slice p2 n2 c2') rfl rfl (r4.aj rfl) (r4.aj rfl) hb λp c w5 m5 hst=>⟨?_,hst _ λw6 h6 g6=>?_⟩
 .obtain⟨xs,hs⟩:=aJP.aHM
  exact⟨(mu.still s4).mod m5 λe=>hs.aHg (mu.still s4) (by decide) e,x3,aJP.row.mod m5 λe=>hs.aHg aJP.row (by decide) e,rfl⟩
 .have g34:cz (Ft K w3) w3 (Ft K w4) w4:=⟨s4.afa.weaken λ_ h=>h.elim,gS4.new⟩
  have W2:=g34.trans g6;refine⟨rfl,h6,⟨Mod.trans BD W2.mod (λk hk=>?_) (λk _ hk=>.inl (W0 k hk)),λk hk=>?_⟩,hQ w2 w6 q2 ?_⟩
  .rcases hk with e|e|e
   .exact .inl (.inr (.inl e))
   .exact .inl (.inr (.inr (.inl e)))
   .exact .inr e
  .rcases W2.new k hk with hk|hk
   .exact .inl (.inl (W0 k hk))
   .exact .inr (by have:=BD.size;omega)
  .refine Mod.trans m3 W2.mod (λk e hk=>(hX.ne k hk).2.2.2.2.1 e) λk _ hk hx=>?_
   rcases W0 k hk with e|e
   .exact(hX.ne k hx).1 e
   .rcases hx0.own e with e|e|e|e|e
    .exact(hX.ne k hx).2.2.2.2.1 e
    .exact(hX.ne k hx).2.2.2.2.2 e
    .exact(hX.ne k hx).2.1 e
    .obtain⟨xs,hs⟩:=hx0.aHM
     obtain⟨cur,hr⟩:=hs.typed e;exact(hX.ty k hx _ _ hr).1 rfl
    .obtain⟨cur,hr⟩:=hx0.gS.own.typed e
     exact(hX.ty k hx _ _ hr).2.1 rfl
end Go.Proofs.YtihaaoehhgmphaaGreatDoor
namespace Go.Proofs
open Go.Shelf
def Tryz.asZ:Go.Shelf.Ren:=⟨λ|4=>371|n=>n,λ|22=>25|25=>9|3=>3|4=>4|9=>9|20=>20|0=>0|n=>n,λ|n=>n⟩
def Tryz.af9:Go.Proofs.Lays8.n4 aM Tryz.asZ:={
 mixed:=by kernel_rfl
 f4:=⟨Tryz.f371.name,by decide,aZ Tryz.func371⟩
 t0:=Tryz.underlying0
 a0:=Tryz.isAgg0
 z0:=Tryz.sizeOf0
 v0:=Tryz.zeroValue0
 t3:=Tryz.underlying3
 a3:=Tryz.isAgg3
 z3:=Tryz.sizeOf3
 v3:=Tryz.zeroValue3
 t4:=Tryz.underlying4
 a4:=Tryz.isAgg4
 z4:=Tryz.sizeOf4
 v4:=Tryz.zeroValue4
 t9:=Tryz.underlying9
 a9:=Tryz.isAgg9
 z9:=Tryz.sizeOf9
 v9:=Tryz.zeroValue9
 t20:=Tryz.underlying20
 a20:=Tryz.isAgg20
 z20:=Tryz.sizeOf20
 v20:=Tryz.zeroValue20
 t22:=Tryz.underlying25
 a22:=Tryz.isAgg25
 z22:=Tryz.sizeOf25
 v22:=Tryz.zeroValue25}
end Go.Proofs
namespace Go.Proofs.YtihaaoehhgmphaaGreatDoor
open IntKind Go.RowKit Vc
set_option maxRecDepth 100000
variable{w w0:World}
def ara(n:Nat)(hn:n<1000000):aq X8 #[.slice none 0 0,.int .i64 (n:Int)] w (λe w'=>∃p C,e=.returned (.slice p 0 C)/\aS w' w.heap.size cm 1 (.slice p 0 C) 0 []/\Still w w'):=by
 rcases oB n with rfl|h0
 .refine(Any8.slices_Grow_room Tryz.af9 none 0 0 0 w (aV _) (by decide) (by decide) (by decide)).mono ?_
  rintro _ w' ⟨rfl,rfl⟩;exact⟨none,0,rfl,aS.nil _ _ _ _,Mod.refl _ _⟩
 .have hi:Tryz.prog.info? cm=some ((Tryz.prog.info? cm).getD default):=by kernel_rfl
  have hz:((Tryz.prog.info? cm).getD default).zero=some (.string (S [])):=by kernel_rfl
  have hs:((Tryz.prog.info? cm).getD default).size=1:=by kernel_rfl
  have hb:((Tryz.prog.info? cm).getD default).bytes=16:=by kernel_rfl
  refine(Any8.slices_Grow_grow Tryz.af9 _ _ hi hz (by rw[hs];decide) none 0 0 n [] w (aV _) (by omega) (by rw[hb];omega) (by omega) (by simp) (λ_=>rfl) (λa h=>by cases h)).mono ?_;rintro _ w' ⟨rfl,rfl⟩;refine⟨_,_,rfl,⟨rfl,.inr ⟨w.heap.size,_,_,rfl,aV _,Row.new w.drew _ _,dK _,?_,?_,rfl⟩⟩,((Mod.refl _ _).drew).alloc _⟩
  .exact grownCap_le_maxLen _ _ _ _ (by simp only[maxLen];omega)
  .have hge:=grownCap_ge w (0+n) 0 cm
   have WV:(Value.string (S [])).cells.size=1:=rfl;show(_:Nat)=grownCap w (0+n) 0 cm*1
   simp only[QB,wB,aHf,size_zeroCells,WV];show 0+(0+n-0)*1+(grownCap w (0+n) 0 cm-(0+n))*1=grownCap w (0+n) 0 cm*1
   omega
def apc{g:Nat}{p1 p2:Option Addr}{c1 c2:Nat}{l1 l2:List ag}(hr:Row w g DZ ⟨[.slice p1 l1.length c1,.slice p2 l2.length c2]⟩)(h1:de w p1 l1.length l1)(h2:de w p2 l2.length l2)(hs:l1.length+l2.length<1000000):
  aq aKv #[.slice (some (Addr.mk g 0 none)) 2 2] w (λe w'=>∃p C,e=.returned (.slice p (l1++l2).length C)/\aS w' w.heap.size cm 1 (.slice p (l1++l2).length C) (l1++l2).length (strs (l1++l2))/\Still w w'):=by
 apply ajL;have cl:∀{w1:World},Still w w1->w1.cell? ((Addr.mk g 0 none).add (Int.toNat 0*1))=some (.slice p1 l1.length c1)/\w1.cell? ((Addr.mk g 0 none).add (Int.toNat 1*1))=some (.slice p2 l2.length c2):=λhst=>⟨(hr.still hst).aj rfl,(hr.still hst).aj rfl⟩;refine⟨λsize x w1=>w1=w/\(x=0/\size=0\/x=1/\size=(l1.length:Int)\/x=2/\size=((l1.length+l2.length:Nat):Int)),λ_ x _=>(2-x).toNat,⟨rfl,.inl ⟨rfl,rfl⟩⟩,?_⟩;rintro size x _ w1 ⟨rfl,hx⟩;refine aA (λhl=>?_) (λhl=>?_)
 .have hl:x<2:=by simpa using hl
  rcases hx with⟨rfl,rfl⟩|⟨rfl,rfl⟩|⟨rfl,rfl⟩
  .refine⟨by decide,by decide,_,_,_,(cl (Still.refl _)).1,?_⟩
   try dsimp only[zR]
   rw[wrap_i64 (by omega) (by omega)];refine aA (λh=>by have:=aR h;omega) (λ_=>⟨⟨rfl,.inr (.inl ⟨by decide,by omega⟩)⟩,by show(2-i64.wrap (0+1)).toNat<(2-(0:Int)).toNat;decide⟩)
  .refine⟨by decide,by decide,_,_,_,(cl (Still.refl _)).2,?_⟩
   try dsimp only[zR]
   rw[wrap_i64 (by omega) (by omega)];refine aA (λh=>by have:=aR h;omega) (λ_=>⟨⟨rfl,.inr (.inr ⟨by decide,by omega⟩)⟩,by show(2-i64.wrap (1+1)).toNat<(2-(1:Int)).toNat;decide⟩)
  .omega
 .have hl:¬x<2:=by simpa using hl
  rcases hx with⟨rfl,rfl⟩|⟨rfl,rfl⟩|⟨rfl,rfl⟩
  .omega
  .omega
  refine(ara (l1.length+l2.length) hs).mono ?_;rintro _ w2 ⟨p,C,rfl,cc,h2'⟩;refine .inl ⟨_,_,_,rfl,λq L D x w3=>Still w1 w3/\(x=0/\L=0/\aS w3 w1.heap.size cm 1 (.slice q L D) L []\/x=1/\L=l1.length/\aS w3 w1.heap.size cm 1 (.slice q L D) L (strs l1)\/x=2/\L=(l1++l2).length/\aS w3 w1.heap.size cm 1 (.slice q L D) L (strs (l1++l2))),λ_ _ _ x _=>(2-x).toNat,⟨h2',.inl ⟨rfl,rfl,cc⟩⟩,?_⟩;rintro q L D x _ w3 ⟨s3,hx⟩;have hz:=s3.size;have app:∀{l:List ag} {p':Option Addr} {K:Option Addr->Nat->World->Prop} {L:Nat} {xs:List Value},aS w3 w1.heap.size cm 1 (.slice q L D) L xs->de w1 p' l.length l->L+l.length<1000000->(∀p c w4,aS w4 w1.heap.size cm 1 (.slice p (L+l.length) c) (L+l.length) (xs++strs l)->Still w1 w4->K p c w4)->dL w3 cm 1 16 q L D p' l.length K:=by intro l p' K L xs ho hst hlen hK;have aIp:=hst.still s3;refine rM ho hz (strs l) (by simp[strs]) (λu hu=>by obtain⟨x,_,rfl⟩:=dY.1 hu;rfl) (λhp=>aIp.2 hp) (by omega) (by omega) λp c w4 o4 m4 bk=>hK p c w4 o4 (Mod.trans s3 m4 (λ_ h=>h) λi hi hk=>by have:=(ho.lt i hk).1;omega)
  refine aA (λhl=>?_) (λhl=>?_)
  .have hl:x<2:=by simpa using hl
   rcases hx with⟨rfl,rfl,o⟩|⟨rfl,rfl,o⟩|⟨rfl,rfl,o⟩
   .refine⟨by decide,by decide,_,_,_,(cl s3).1,app o h1 (by omega) λp c w4 o4 s4=>⟨⟨s4,.inr (.inl ⟨by decide,by omega,?_⟩)⟩,by show(2-i64.wrap (0+1)).toNat<(2-(0:Int)).toNat;decide⟩⟩
    exact o4
   .refine⟨by decide,by decide,_,_,_,(cl s3).2,app o h2 (by omega) λp c w4 o4 s4=>⟨⟨s4,.inr (.inr ⟨by decide,by simp,?_⟩)⟩,by show(2-i64.wrap (1+1)).toNat<(2-(1:Int)).toNat;decide⟩⟩
    rw[Ls];exact o4
   .omega
  .have hl:¬x<2:=by simpa using hl
   rcases hx with⟨rfl,rfl,o⟩|⟨rfl,rfl,o⟩|⟨rfl,rfl,o⟩
   .omega
   .omega
   .exact⟨q,D,rfl,o,s3⟩
end Go.Proofs.YtihaaoehhgmphaaGreatDoor
namespace Go.Proofs.YtihaaoehhgmphaaGreatDoor.A
open IntKind Go.RowKit Vc
variable{w:World}
def aev(n:Int):eL (i64.wrap n):=by unfold eL;simp only[IntKind.wrap,IntKind.signed,IntKind.bits];simp;omega
def aew(op:BinOp)(a b:Int):eL (bits op .i64 a b):=by have h:=wf_bits op .i64 a b;simp[Lit.wf,IntKind.min,IntKind.max,IntKind.signed,IntKind.bits]at h;unfold eL;omega
def L4(b:Bool):eL (rY b):=by cases b<;>decide
def awo{a b:Int}(ha:eL a)(hb:eL b):eL (Int.tmod a b):=by
 unfold eL at*;have h1:(Int.tmod a b).natAbs<=a.natAbs:=by rw[Int.natAbs_tmod];exact Nat.mod_le _ _
 rcases K4 a 0 with h|h
 .have h2:Int.tmod a b<=0:=by
   have:=Int.tmod_nonneg b (show 0<= -a by omega);rw[Int.neg_tmod]at this;omega
  omega
 .have h2:=Int.tmod_nonneg b h
  omega
def awp{a:Int}(ha:eL a)(k:Nat):eL (Int.fdiv a (2^k)):=by
 unfold eL at*;have hp:(0:Int)<2^k:=Int.pow_pos (by decide);generalize(2:Int)^k=d at hp;rw[X7 _ (by omega)];have h1:=Int.mul_ediv_add_emod a d;have h2:=Int.emod_nonneg a (show d≠0 by omega);have h3:=Int.emod_lt_of_pos a hp;constructor
 .rcases K4 (a/d) (-9223372036854775808)with h|h
  .exfalso
   have h4:d*(a/d)<=1*(a/d):=Int.mul_le_mul_of_nonpos_right (by omega) (by omega);have h5:d*(a/d)<=d*(-9223372036854775809):=Int.mul_le_mul_of_nonneg_left (by omega) (by omega);omega
  .exact h
 .rcases K4 (a/d) 9223372036854775808 with h|h
  .exact h
  .exfalso
   have h4:1*(a/d)<=d*(a/d):=Int.mul_le_mul_of_nonneg_right (by omega) (by omega);omega
def afq{p:Prop}[Decidable p]{x y:Int}(hx:eL x)(hy:eL y):eL (if p then x else y):=by split<;>assumption
def aex{op:ag}{a b z:Int}(ha:eL a)(hb:eL b)(h:aIF op a b=.ok z):eL z:=by
 unfold aIF at h;split at h
 .cases h
 .injection h with h
  rw[<-h];unfold Ng
  repeat' first|exact aev _|exact aew _ _ _|exact L4 _|exact awo ha hb|exact awp ha _|refine afq ?_ ?_
def axF{op:ag}{n:Int}(h:eL n):eL (mo op n):=by
 unfold mo
 repeat' first|exact aev _|exact aew _ _ _|exact L4 _|exact h|refine afq ?_ ?_
def gT:Tm->Nat
 |.num _=>0
 |.vQ x=>x.length
 |.tN _ t=>gT t
 |.bin _ a b=>gT a+gT b
 |.h_ c a b=>gT c+gT a+gT b
 |.set x _ t=>x.length+1+gT t
def vz(op:ag):Int:=if op=[124,124]then 5 else if op=[38,38]then 4 else 3
abbrev xd(k n:Int)(op x:ag)(kids:Value):List Value:=[.int .i64 k,.int .i64 n,.string (S op),.string (S x),kids]
abbrev xQ(b:Nat):Value:=.pointer (some ⟨b,0,none⟩)
abbrev kids(c n:Nat):Value:=.slice (some ⟨c,0,none⟩) n n
def gL(w:World):Tm->Nat->Prop
 |.num n,b=>Row w b 147 ⟨xd 0 n [] [] (.slice none 0 0)⟩
 |.vQ x,b=>Row w b 147 ⟨xd 1 0 [] x (.slice none 0 0)⟩
 |.tN op t,b=>∃c k,Row w b 147 ⟨xd 2 0 op [] (kids c 1)⟩/\Row w c 74 ⟨[xQ k]⟩/\gL w t k
 |.bin op x y,b=>∃c k1 k2,Row w b 147 ⟨xd (vz op) 0 op [] (kids c 2)⟩/\Row w c 74 ⟨[xQ k1,xQ k2]⟩/\gL w x k1/\gL w y k2
 |.h_ t x y,b=>∃c k0 k1 k2,Row w b 147 ⟨xd 6 0 [] [] (kids c 3)⟩/\Row w c 74 ⟨[xQ k0,xQ k1,xQ k2]⟩/\gL w t k0/\gL w x k1/\gL w y k2
 |.set x op t,b=>∃c k,Row w b 147 ⟨xd 7 0 op x (kids c 1)⟩/\Row w c 74 ⟨[xQ k]⟩/\gL w t k
def gL.mod{S:Nat->Prop}{w':World}(hm:Mod S w w')(hS:∀b t cs,(t=147\/t=74)->Row w b t cs->¬S b):∀{t:Tm} {b:Nat},gL w t b->gL w' t b
 |.num _,b,h=>Row.mod h hm (hS _ _ _ (.inl rfl) h)
 |.vQ _,b,h=>Row.mod h hm (hS _ _ _ (.inl rfl) h)
 |.tN _ _,b,⟨c,k,h1,h2,h3⟩=>⟨c,k,h1.mod hm (hS _ _ _ (.inl rfl) h1),h2.mod hm (hS _ _ _ (.inr rfl) h2),gL.mod hm hS h3⟩
 |.bin _ _ _,b,⟨c,k1,k2,h1,h2,h3,h4⟩=>⟨c,k1,k2,h1.mod hm (hS _ _ _ (.inl rfl) h1),h2.mod hm (hS _ _ _ (.inr rfl) h2),gL.mod hm hS h3,gL.mod hm hS h4⟩
 |.h_ _ _ _,b,⟨c,k0,k1,k2,h1,h2,h3,h4,h5⟩=>⟨c,k0,k1,k2,h1.mod hm (hS _ _ _ (.inl rfl) h1),h2.mod hm (hS _ _ _ (.inr rfl) h2),gL.mod hm hS h3,gL.mod hm hS h4,gL.mod hm hS h5⟩
 |.set _ _ _,b,⟨c,k,h1,h2,h3⟩=>⟨c,k,h1.mod hm (hS _ _ _ (.inl rfl) h1),h2.mod hm (hS _ _ _ (.inr rfl) h2),gL.mod hm hS h3⟩
def gL.still{w':World}{t:Tm}{b:Nat}(h:gL w t b)(hm:Still w w'):gL w' t b:=h.mod hm (λ_ _ _ _ _ h=>h)
def gL.far{w':World}{t:Tm}{b g:Nat}{tg:TypeId}{cs:Array Value}(h:gL w t b)(hg:Row w g tg cs)(h1:tg≠147)(h2:tg≠74)(hm:Mod (λk=>k=g) w w'):gL w' t b:=by
 refine h.mod hm (λb t cs ht hr e=>?_);subst e;rcases ht with rfl|rfl
 .exact hr.ne hg h1.symm rfl
 .exact hr.ne hg h2.symm rfl
def _root_.Go.Proofs.YtihaaoehhgmphaaGreatDoor.Row.azz{w':World}{b g:Nat}{t tg:TypeId}{cs cs':Array Value}(h:Row w b t cs)(hg:Row w g tg cs')(hne:t≠tg)(hm:Mod (λk=>k=g) w w'):Row w' b t cs:=h.mod hm (h.ne hg hne)
end Go.Proofs.YtihaaoehhgmphaaGreatDoor.A
namespace Go.Proofs.YtihaaoehhgmphaaGreatDoor.A
open IntKind Go.RowKit Vc
def yK(w:World)(g:Nat)(V:List Vr)(t:Tm)(e:Ending)(w':World):Prop:=(match ev t V with
 |.ok p=>e=.returned (.int .i64 p.1)/\WS w' g p.2/\eL p.1/\p.2.length<=V.length+gT t
 |.bad k=>e=.panicked (k7 k))/\Mod (λk=>k=g) w w'
def WS.drew{w:World}{g:Nat}{V:List Vr}(h:WS w g V):WS w.drew g V:=h.still (Still.refl _).cy
def WS.tree{w w':World}{g b:Nat}{V:List Vr}{t:Tm}(h:WS w g V)(ht:gL w t b)(hm:Mod (λk=>k=g) w w'):gL w' t b:=by obtain⟨⟨p,C,h1,_⟩,_,_⟩:=h;exact ht.far h1 (by decide) (by decide) hm
def WS.far{w w':World}{g b:Nat}{V:List Vr}{t:TypeId}{cs:Array Value}(h:WS w g V)(hr:Row w b t cs)(ht:t≠79)(hm:Mod (λk=>k=g) w w'):Row w' b t cs:=by obtain⟨⟨p,C,h1,_⟩,_,_⟩:=h;exact hr.azz h1 ht hm
def fN{a b c:World}{g:Nat}(h1:Mod (λk=>k=g) a b)(h2:Mod (λk=>k=g) b c):Mod (λk=>k=g) a c:=Mod.trans h1 h2 (λ_ h=>h) (λ_ _ h=>h)
def aHR{a b c:World}{g:Nat}(h1:Mod (λk=>k=g) a b)(h2:Still b c):Mod (λk=>k=g) a c:=Mod.trans h1 h2 (λ_ h=>h) (λ_ _ h=>h.elim)
def Eb{a b c:World}{g:Nat}(h1:Still a b)(h2:Mod (λk=>k=g) b c):Mod (λk=>k=g) a c:=Mod.trans h1 h2 (λ_ h=>h.elim) (λ_ _ h=>h)
def Tu{a b:World}{g:Nat}(h:Mod (λk=>k=g) a.drew b):Mod (λk=>k=g) a b:=⟨h.os,h.tape,h.output,h.size,h.block⟩
def au1(V:List Vr)(x y:ag):(i_ V x y).1.length<=V.length+1:=by
 unfold i_;split
 .split
  .exact dK _
  .rw[SA]
   split<;>omega
 .exact dK _
def as0{V:List Vr}(h:kZ V)(x y:ag):kZ (i_ V x y).1:=by
 unfold i_;split
 .split
  .exact List.Pairwise.nil
  .exact aa2 _ h
 .exact List.Pairwise.nil
def aey{x:ag}{V:List Vr}{n:Int}(oh:xw x V=.ok n):eL n:=by
 unfold xw at oh;split at oh
 .rename_i m hm
  injection oh with oh;subst oh;unfold AK at hm;split at hm
  .injection hm with hm
   subst hm;exact(show eL 0 by decide)
  .split at hm
   .rename_i c r _ _
    cases hv:aIn r with
    |none=>rw[hv]at hm;cases hm
    |some q=>rw[hv]at hm;injection hm with hm;have hm: -q=m:=hm;have:=LC hv;exact⟨by omega,by omega⟩
   .have:=LC hm
    exact⟨by omega,this.2⟩
 .cases oh
set_option maxHeartbeats 4000000 in
def wP{w0:World}(he:Env w0){g:Nat}(hg:w0.heap.size<=g):∀(t:Tm) {w:World} {b:Nat} {V:List Vr},Still w0 w->tD t->gL w t b->WS w g V->V.length+gT t<900000->
  aq pX #[.pointer (some ⟨g,0,none⟩),.pointer (some ⟨b,0,none⟩)] w (yK w g V t)
 |.num n,w,b,V,h0,hok,ht,hw,hn=>by
  apply DD;have hr:Row w b _ _:=ht;refine⟨(0:Int),hr.aj rfl,?_⟩
  repeat refine aA (λh=>absurd h (by decide)) (λ_=>?_)
  exact⟨n,by rw[aHa];exact hr.aj rfl,⟨rfl,hw,hok,BY _ _⟩,Mod.refl _ _⟩
 |.vQ x,w,b,V,h0,hok,ht,hw,hn=>by
  apply DD;have hr:Row w b _ _:=ht;refine⟨(1:Int),hr.aj rfl,aA (λ_=>?_) (λh=>absurd h (by decide))⟩;refine⟨x,by rw[aHa];exact hr.aj rfl,(acv (he.still h0) hw (by omega) x).mono ?_⟩;rintro e w1 ⟨ha,hs1⟩;unfold yK;simp only[ev];cases oh:xw x V with
  |bad k=>rw[oh]at ha;exact .inr ⟨_,ha,rfl,Eb hs1 (Mod.refl _ _)⟩
  |ok n=>rw[oh]at ha;exact .inl ⟨n,ha,⟨rfl,hw.still hs1,aey oh,BY _ _⟩,Eb hs1 (Mod.refl _ _)⟩
 |.tN op t,w,b,V,h0,hok,⟨c,k,hr,hc,ht⟩,hw,hn=>by
  apply DD;simp only[gT]at hn;refine⟨(2:Int),hr.aj rfl,?_⟩
  repeat refine aA (λh=>absurd h (by decide)) (λ_=>?_)
  refine aA (λ_=>?_) (λh=>absurd h (by decide));refine⟨λwq=>Row wq b 147 ⟨xd 2 0 op [] (kids c 1)⟩/\Row wq c 74 ⟨[xQ k]⟩,⟨hr.drew,hc.drew⟩,op,λwq hq=>by rw[aHa];exact hq.1.aj rfl,some ⟨c,0,none⟩,1,1,λwq hq=>by rw[aHa];exact hq.1.aj rfl,by decide,by decide,some ⟨k,0,none⟩,λwq hq=>by rw[aHa];exact hq.2.aj rfl,?_⟩;refine(wP he hg t h0.cy hok.2 (ht.still (Still.refl _).cy) hw.drew (by omega)).mono ?_;rintro e w2 ⟨h1,hm2⟩;have aIZ:=Tu hm2;unfold yK;simp only[ev];cases hev:ev t V with
  |bad j=>rw[hev]at h1;exact .inr ⟨_,h1,rfl,aIZ⟩
  |ok p=>rw[hev]at h1;obtain⟨rfl,rD,hi,hl⟩:=h1;refine .inl ⟨_,rfl,⟨hw.far hr (by decide) aIZ,hw.far hc (by decide) aIZ⟩,(aq9 op p.1).mono ?_⟩;rintro _ w3 ⟨rfl,rfl⟩;exact .inl ⟨_,rfl,⟨rfl,rD,axF hi,hl⟩,aIZ⟩
 |.bin op x y,w,b,V,h0,hok,⟨c,k1,k2,hr,hc,hx,hy⟩,hw,hn=>by
  apply DD;simp only[gT]at hn;have VK:aq pX #[.pointer (some ⟨g,0,none⟩),.pointer (some ⟨k1,0,none⟩)] w (yK w g V x):=wP he hg x h0 hok.2.1 hx hw (by omega);have st:∀{w':World},Mod (λk=>k=g) w w'->Still w0 w':=λhm=>h0.box hg hm
  by_cases h5:op=[124,124]
  .have hk:vz op=5:=by unfold vz;rw[aL h5]
   rw[hk]at hr;refine⟨(5:Int),hr.aj rfl,?_⟩
   repeat refine aA (λh=>absurd h (by decide)) (λ_=>?_)
   refine aA (λ_=>?_) (λh=>absurd h (by decide));refine⟨some ⟨c,0,none⟩,2,2,by rw[aHa];exact hr.aj rfl,by decide,by decide,some ⟨k1,0,none⟩,by rw[aHa];exact hc.aj rfl,VK.mono ?_⟩;rintro e w1 ⟨h1,bW⟩;unfold yK;simp only[ev];cases hev:ev x V with
   |bad j=>rw[hev]at h1;exact .inr ⟨_,h1,rfl,bW⟩
   |ok p=>
    rw[hev]at h1;obtain⟨rfl,hw1,hi,hl⟩:=h1;simp only[n_];rw[aL h5];refine .inl ⟨_,rfl,aA (λh=>?_) (λh=>?_)⟩
    .have hz:p.1≠0:=λe=>by rw[fe e]at h;cases h
     rw[aL hz];refine(aKg true).mono ?_;rintro _ w3 ⟨rfl,rfl⟩;exact .inl ⟨_,rfl,⟨rfl,hw1,(show eL 1 by decide),by simp only[gT];omega⟩,bW⟩
    .have hz:p.1=0:=nd h
     rw[aG (λe=>e hz)];have aHc:=hw.far hr (by decide) bW;have hc1:=hw.far hc (by decide) bW;refine⟨some ⟨c,0,none⟩,2,2,by rw[aHa];exact aHc.aj rfl,by decide,by decide,some ⟨k2,0,none⟩,by rw[aHa];exact hc1.aj rfl,?_⟩;refine(wP he hg y (st bW) hok.2.2 (hw.tree hy bW) hw1 (by omega)).mono ?_;rintro e w2 ⟨h2,hm2⟩;cases q8:ev y p.2 with
     |bad j=>rw[q8]at h2;exact .inr ⟨_,h2,rfl,fN bW hm2⟩
     |ok q=>rw[q8]at h2;obtain⟨rfl,rD,hi2,jQ⟩:=h2;refine .inl ⟨_,rfl,(aKg _).mono ?_⟩;rintro _ w3 ⟨rfl,rfl⟩;exact .inl ⟨_,rfl,⟨rfl,rD,L4 _,by simp only[gT];omega⟩,fN bW hm2⟩
  by_cases h4:op=[38,38]
  .have hk:vz op=4:=by unfold vz;rw[aG h5,aL h4]
   rw[hk]at hr;refine⟨(4:Int),hr.aj rfl,?_⟩
   repeat refine aA (λh=>absurd h (by decide)) (λ_=>?_)
   refine aA (λ_=>?_) (λh=>absurd h (by decide));refine⟨some ⟨c,0,none⟩,2,2,by rw[aHa];exact hr.aj rfl,by decide,by decide,some ⟨k1,0,none⟩,by rw[aHa];exact hc.aj rfl,VK.mono ?_⟩;rintro e w1 ⟨h1,bW⟩;unfold yK;simp only[ev];cases hev:ev x V with
   |bad j=>rw[hev]at h1;exact .inr ⟨_,h1,rfl,bW⟩
   |ok p=>
    rw[hev]at h1;obtain⟨rfl,hw1,hi,hl⟩:=h1;simp only[n_];rw[aG h5,aL h4];refine .inl ⟨_,rfl,aA (λh=>?_) (λh=>?_)⟩;rotate_left
    .have hz:p.1=0:=nd h
     rw[aL hz];refine(aKg false).mono ?_;rintro _ w3 ⟨rfl,rfl⟩;exact .inl ⟨_,rfl,⟨rfl,hw1,(show eL 0 by decide),by simp only[gT];omega⟩,bW⟩
    .have hz:p.1≠0:=λe=>by rw[fe e]at h;cases h
     rw[aG hz];have aHc:=hw.far hr (by decide) bW;have hc1:=hw.far hc (by decide) bW;refine⟨some ⟨c,0,none⟩,2,2,by rw[aHa];exact aHc.aj rfl,by decide,by decide,some ⟨k2,0,none⟩,by rw[aHa];exact hc1.aj rfl,?_⟩;refine(wP he hg y (st bW) hok.2.2 (hw.tree hy bW) hw1 (by omega)).mono ?_;rintro e w2 ⟨h2,hm2⟩;cases q8:ev y p.2 with
     |bad j=>rw[q8]at h2;exact .inr ⟨_,h2,rfl,fN bW hm2⟩
     |ok q=>rw[q8]at h2;obtain⟨rfl,rD,hi2,jQ⟩:=h2;refine .inl ⟨_,rfl,(aKg _).mono ?_⟩;rintro _ w3 ⟨rfl,rfl⟩;exact .inl ⟨_,rfl,⟨rfl,rD,L4 _,by simp only[gT];omega⟩,fN bW hm2⟩
  .have hk:vz op=3:=by unfold vz;rw[aG h5,aG h4]
   have hop:op∈yI:=(hok.1.resolve_left h5).resolve_left h4;rw[hk]at hr;refine⟨(3:Int),hr.aj rfl,?_⟩
   repeat refine aA (λh=>absurd h (by decide)) (λ_=>?_)
   refine aA (λ_=>?_) (λh=>absurd h (by decide));refine⟨some ⟨c,0,none⟩,2,2,by rw[aHa];exact hr.aj rfl,by decide,by decide,some ⟨k1,0,none⟩,by rw[aHa];exact hc.aj rfl,VK.mono ?_⟩;rintro e w1 ⟨h1,bW⟩;unfold yK;simp only[ev];cases hev:ev x V with
   |bad j=>rw[hev]at h1;exact .inr ⟨_,h1,rfl,bW⟩
   |ok p=>
    rw[hev]at h1;obtain⟨rfl,hw1,hi,hl⟩:=h1;simp only[n_];rw[aG h5,aG h4];have aHc:=hw.far hr (by decide) bW;have hc1:=hw.far hc (by decide) bW;refine .inl ⟨_,rfl,λwq=>Row wq b 147 ⟨xd 3 0 op [] (kids c 2)⟩/\Row wq c 74 ⟨[xQ k1,xQ k2]⟩,⟨aHc.drew,hc1.drew⟩,op,λwq hq=>by rw[aHa];exact hq.1.aj rfl,some ⟨c,0,none⟩,2,2,λwq hq=>by rw[aHa];exact hq.1.aj rfl,by decide,by decide,some ⟨k2,0,none⟩,λwq hq=>by rw[aHa];exact hq.2.aj rfl,?_⟩;refine(wP he hg y (st bW).cy hok.2.2 ((hw.tree hy bW).still (Still.refl _).cy) hw1.drew (by omega)).mono ?_;rintro e w2 ⟨h2,hm2⟩;have aIZ:=Tu hm2;cases q8:ev y p.2 with
    |bad j=>rw[q8]at h2;exact .inr ⟨_,h2,rfl,fN bW aIZ⟩
    |ok q=>
     rw[q8]at h2;obtain⟨rfl,rD,hi2,jQ⟩:=h2;refine .inl ⟨_,rfl,⟨hw1.far aHc (by decide) aIZ,hw1.far hc1 (by decide) aIZ⟩,(aav hop p.1 q.1).mono ?_⟩;rintro e w3 ⟨ha,rfl⟩;dsimp only;cases vZ:aIF op p.1 q.1 with
     |bad j=>rw[vZ]at ha;exact .inr ⟨_,ha,rfl,fN bW aIZ⟩
     |ok z=>rw[vZ]at ha;exact .inl ⟨_,ha,⟨rfl,rD,aex hi hi2 vZ,by simp only[gT];omega⟩,fN bW aIZ⟩
 |.h_ t x y,w,b,V,h0,hok,⟨c,k0,k1,k2,hr,hc,WN,hx,hy⟩,hw,hn=>by
  apply DD;simp only[gT]at hn;have st:∀{w':World},Mod (λk=>k=g) w w'->Still w0 w':=λhm=>h0.box hg hm;refine⟨(6:Int),hr.aj rfl,?_⟩
  repeat refine aA (λh=>absurd h (by decide)) (λ_=>?_)
  refine aA (λ_=>?_) (λh=>absurd h (by decide));refine⟨some ⟨c,0,none⟩,3,3,by rw[aHa];exact hr.aj rfl,by decide,by decide,some ⟨k0,0,none⟩,by rw[aHa];exact hc.aj rfl,(wP he hg t h0 hok.1 WN hw (by omega)).mono ?_⟩;rintro e w1 ⟨h1,bW⟩;unfold yK;simp only[ev];cases hev:ev t V with
  |bad j=>rw[hev]at h1;exact .inr ⟨_,h1,rfl,bW⟩
  |ok p=>
   rw[hev]at h1;obtain⟨rfl,hw1,hi,hl⟩:=h1;simp only[n_];have aHc:=hw.far hr (by decide) bW;have hc1:=hw.far hc (by decide) bW;refine .inl ⟨_,rfl,aA (λh=>?_) (λh=>?_)⟩
   .have hz:p.1≠0:=λe=>by rw[fe e]at h;cases h
    rw[aL hz];refine⟨some ⟨c,0,none⟩,3,3,by rw[aHa];exact aHc.aj rfl,by decide,by decide,some ⟨k1,0,none⟩,by rw[aHa];exact hc1.aj rfl,?_⟩;refine(wP he hg x (st bW) hok.2.1 (hw.tree hx bW) hw1 (by omega)).mono ?_;rintro e w2 ⟨h2,hm2⟩;cases q8:ev x p.2 with
    |bad j=>rw[q8]at h2;exact .inr ⟨_,h2,rfl,fN bW hm2⟩
    |ok q=>rw[q8]at h2;obtain⟨rfl,rD,hi2,jQ⟩:=h2;exact .inl ⟨_,rfl,⟨rfl,rD,hi2,by simp only[gT];omega⟩,fN bW hm2⟩
   .have hz:p.1=0:=nd h
    rw[aG (λe=>e hz)];refine⟨some ⟨c,0,none⟩,3,3,by rw[aHa];exact aHc.aj rfl,by decide,by decide,some ⟨k2,0,none⟩,by rw[aHa];exact hc1.aj rfl,?_⟩;refine(wP he hg y (st bW) hok.2.2 (hw.tree hy bW) hw1 (by omega)).mono ?_;rintro e w2 ⟨h2,hm2⟩;cases q8:ev y p.2 with
    |bad j=>rw[q8]at h2;exact .inr ⟨_,h2,rfl,fN bW hm2⟩
    |ok q=>rw[q8]at h2;obtain⟨rfl,rD,hi2,jQ⟩:=h2;exact .inl ⟨_,rfl,⟨rfl,rD,hi2,by simp only[gT];omega⟩,fN bW hm2⟩
 |.set x op t,w,b,V,h0,hok,⟨c,k,hr,hc,ht⟩,hw,hn=>by
  apply DD;simp only[gT]at hn;refine⟨(7:Int),hr.aj rfl,?_⟩
  repeat refine aA (λh=>absurd h (by decide)) (λ_=>?_)
  refine aA (λ_=>?_) (λh=>absurd h (by decide));refine⟨some ⟨c,0,none⟩,1,1,by rw[aHa];exact hr.aj rfl,by decide,by decide,some ⟨k,0,none⟩,by rw[aHa];exact hc.aj rfl,(wP he hg t h0 hok.2.2 ht hw (by omega)).mono ?_⟩;rintro e w1 ⟨h1,bW⟩;unfold yK;simp only[ev];cases hev:ev t V with
  |bad j=>rw[hev]at h1;exact .inr ⟨_,h1,rfl,bW⟩
  |ok p=>
   rw[hev]at h1;obtain⟨rfl,hw1,hi,hl⟩:=h1;simp only[n_];have aHc:=hw.far hr (by decide) bW;have st:∀{w':World},Mod (λk=>k=g) w w'->Still w0 w':=λhm=>h0.box hg hm;have fin:∀{w3:World} {z:Int},Mod (λk=>k=g) w w3->WS w3 g p.2->eL z->aq F_ #[.pointer (some ⟨g,0,none⟩),.string (S x),.int .i64 z] w3 (λed w4=>match su p.2 x z with
     |.ok q=>ed=.returned (.tuple #[])/\q.1=z/\WS w4 g q.2/\q.2.length<=V.length+gT (.set x op t)/\Mod (λk=>k=g) w w4
     |.bad j=>ed=.panicked (k7 j)/\Mod (λk=>k=g) w w4):=by
    intro w3 z cV Fi hz;refine(asY (he.still (st cV)) Fi (by omega) x (by omega) z hz (λy _=>as0 Fi.IL x y)).mono ?_;rintro ed w4 ⟨h4,eZ⟩;have hlen:=au1 p.2 x (Lib.itoa z);unfold su at h4⊢;split at h4
    .rename_i q hq
     split at hq
     .rename_i h0
      try rw[aL h0]
      injection hq with hq;subst hq;exact⟨h4.1,rfl,h4.2,by simp only[gT];omega,fN cV eZ⟩
     .cases hq
    .rename_i j hq
     split at hq
     .cases hq
     .rename_i h0
      try rw[aG h0]
      injection hq with hq;subst hq;exact⟨h4,fN cV eZ⟩
   refine .inl ⟨_,rfl,op,by rw[aHa];exact aHc.aj rfl,aA (λh=>?_) (λh=>?_)⟩
   .have hop:op≠[]:=λe=>by rw[fe e]at h;cases h
    rw[aG hop];refine⟨λwq=>Row wq b 147 ⟨xd 7 0 op x (kids c 1)⟩,aHc.drew,op,λwq hq=>by rw[aHa];exact hq.aj rfl,x,λwq hq=>by rw[aHa];exact hq.aj rfl,?_⟩;refine(acv (he.still (st bW).cy) hw1.drew (by omega) x).mono ?_;rintro e w2 ⟨ha,hs2⟩;have VL:=(Still.refl w1).cy.trans hs2;have hm2:=aHR bW VL;cases oh:xw x p.2 with
    |bad j=>rw[oh]at ha;exact .inr ⟨_,ha,rfl,hm2⟩
    |ok m=>
     rw[oh]at ha;have hr2:=aHc.still VL;refine .inl ⟨m,ha,hr2,(aav (hok.1.resolve_left hop) m p.1).mono ?_⟩;rintro e w3 ⟨tI,rfl⟩;dsimp only;cases vZ:aIF op m p.1 with
     |bad j=>rw[vZ]at tI;exact .inr ⟨_,tI,rfl,hm2⟩
     |ok z=>
      rw[vZ]at tI;have hiz:eL z:=aex (aey oh) hi vZ;refine .inl ⟨z,tI,x,by rw[aHa];exact hr2.aj rfl,(fin hm2 (hw1.still VL) hiz).mono ?_⟩;intro ed w4 h4;dsimp only;cases hsw:su p.2 x z with
      |bad j=>rw[hsw]at h4;exact .inr ⟨_,h4.1,rfl,h4.2⟩
      |ok q=>rw[hsw]at h4;obtain⟨h5,rfl,h6,h7,h8⟩:=h4;exact .inl ⟨h5,⟨rfl,h6,hiz,h7⟩,h8⟩
   .have hop:op=[]:=nd h
    rw[aL hop];refine⟨x,by rw[aHa];exact aHc.aj rfl,(fin bW hw1 hi).mono ?_⟩;intro ed w4 h4;dsimp only;cases hsw:su p.2 x p.1 with
    |bad j=>rw[hsw]at h4;exact .inr ⟨_,h4.1,rfl,h4.2⟩
    |ok q=>rw[hsw]at h4;obtain⟨h5,h9,h6,h7,h8⟩:=h4;exact .inl ⟨h5,⟨by rw[h9],h6,by rw[h9];exact hi,h7⟩,h8⟩
end Go.Proofs.YtihaaoehhgmphaaGreatDoor.A
namespace Go.Proofs.YtihaaoehhgmphaaGreatDoor.A
open IntKind Go.RowKit Vc
variable{w:World}
abbrev cX(w:World)(g:Nat)(s:ag):Prop:=Row w g 72 ⟨[.string (S s)]⟩
def jw(w:World)(g:Nat)(q:Pr (Tm×ag))(e:Ending)(w':World):Prop:=(match q with
 |.ok p=>∃b,e=.returned (.pointer (some ⟨b,0,none⟩))/\gL w' p.1 b/\cX w' g p.2
 |.bad k=>e=.panicked (k7 k))/\Mod (λk=>k=g) w w'
def cX.tree{w':World}{g b:Nat}{s:ag}{t:Tm}(h:cX w g s)(ht:gL w t b)(hm:Mod (λk=>k=g) w w'):gL w' t b:=ht.far h (by decide) (by decide) hm
def aoC{g:Nat}{s:ag}(h:cX w g s)(hs:s.length<=140737488355328):aq aKw #[.pointer (some ⟨g,0,none⟩)] w (λe w'=>(match qp s with
  |some p=>e=.returned (.tuple #[.string (S p.1),.string (S p.2.1),.bool true])/\cX w' g p.2.2
  |none=>e=.returned (.tuple #[.string (S []),.string (S []),.bool false])/\cX w' g (trim s))/\Mod (λk=>k=g) w w'):=by
 apply aj4;refine(Mp h).mono ?_;rintro _ w1 ⟨rfl,aHc,bW⟩;have htl:=aH6 s;refine .inl ⟨_,rfl,_,aHc.aj rfl,(acs (trim s) (by omega)).mono ?_⟩;rintro _ w2 ⟨rfl,hs2⟩;have hr2:cX w2 g (trim s):=aHc.still hs2;have hm2:=aHR bW hs2;have hle:=aIS true (trim s);have hlt:((trim s).take (bV true (trim s))).length=bV true (trim s):=by rw[aHl];omega
 refine .inl ⟨_,rfl,_,hr2.aj rfl,by omega,by omega,?_⟩;rw[hlt,b6];refine aQ λw3 hr3 hs3 vO=>aQ λw4 hr4 hs4 BC=>?_;have ag1:=hs3.trans hs4;have hq:cX w4 w2.heap.size ((trim s).drop (bV true (trim s))):=hr3.still hs4;refine(wO hq (l:=aJp) (de.row hr4) (λa ha=>by injection ha with ha;rw[<-ha];show w3.heap.size≠w2.heap.size;omega) (by decide) (by decide)).mono ?_;rintro e w5 ⟨he,tQ⟩;have hne:g≠w2.heap.size:=by have:=hr2.lt;omega
 have kG:cX w5 g (trim s):=(hr2.still ag1).mod tQ hne;have azA:Still w2 w5:=ag1.box (aV _) tQ;have NT:=aHR hm2 azA;have ea:qp s=if bV true (trim s)≠0/\bT ((trim s).drop (bV true (trim s)))∈aJp then some ((trim s).take (bV true (trim s)),bT ((trim s).drop (bV true (trim s))),fT ((trim s).drop (bV true (trim s))))else none:=rfl;have en:(trim s).take (bV true (trim s))=[]↔bV true (trim s)=0:=by rw[<-List.length_eq_zero_iff,hlt]
 by_cases ho:bT ((trim s).drop (bV true (trim s)))∈aJp
 .rw[aL ho]at he
  obtain⟨rfl,hq5⟩:=he;refine .inl ⟨_,rfl,aA (λh1=>?_) (λh1=>aA (λh2=>?_) (λh2=>?_))⟩
  .have h1:=en.1 (aR h1)
   rw[ea,aG (λe=>e.1 h1)];exact⟨⟨rfl,kG⟩,NT⟩
  .exact absurd (aR h2) (SR ho)
  .have h1:bV true (trim s)≠0:=λe=>aX h1 (en.2 e)
   rw[ea,aL ⟨h1,ho⟩];refine⟨_,hq5.aj rfl,aHb kG λw6 aHZ jm Jv=>⟨⟨rfl,aHZ⟩,fN NT jm⟩⟩
 .rw[aG ho]at he
  obtain⟨rfl,hq5⟩:=he;rw[ea,aG (λe=>ho e.2)];refine .inl ⟨_,rfl,aA (λh1=>⟨⟨rfl,kG⟩,NT⟩) (λh1=>aA (λh2=>⟨⟨rfl,kG⟩,NT⟩) (λh2=>absurd rfl (aX h2)))⟩
end Go.Proofs.YtihaaoehhgmphaaGreatDoor.A
namespace Go.Proofs.YtihaaoehhgmphaaGreatDoor.A
open IntKind Go.RowKit Vc
def oI:Md->Nat
 |.loop _ _ a=>gT a
 |_=>0
def EH{t t':Tm}{s s':ag}(e:(some (Pr.ok (t,s)):Rs)=some (.ok (t',s'))):t=t'/\s=s':=by injection e with e;injection e with e;injection e with e1 e2;exact⟨e1,e2⟩
def aJ7{r:Rs}{f:Tm->ag->Rs}{t:Tm}{u:ag}(h:aIE r f=some (.ok (t,u))):∃a b,r=some (.ok (a,b))/\f a b=some (.ok (t,u)):=by
 rcases oF h with⟨k,_,e⟩|⟨a,b,h1,h2⟩
 .cases e
 .exact⟨a,b,h1,h2⟩
def awq{s r:ag}{t:Tm}(h:vv s=.ok (t,r)):gT t+r.length<=s.length:=by
 have hw:=adf s;unfold vv at h;dsimp only at h;split at h
 .injection h with h
  injection h with h1 h2;rw[<-h1,<-h2];simp only[gT,aHl,ig];omega
 .split at h
  .injection h with h
   injection h with h1 h2;rw[<-h1,<-h2];simp only[gT,ig];omega
  .cases h
def axG{s n o r:ag}(h:qp s=some (n,o,r)):n.length+1+r.length<=s.length:=by
 unfold qp at h;dsimp only at h;split at h
 .rename_i hc
  injection h with h;injection h with h1 h2;injection h2 with h2 h3;have g1:=mM (SR hc.2);have g2:=aH6 s;have g3:=aIS true (trim s);rw[<-h1,<-h3];rw[ig]at g1;rw[aHl];omega
 .cases h
def oJ:∀(f:Nat) (m:Md) (s:ag) (t:Tm) (r:ag),ps f m s=some (.ok (t,r))->gT t+r.length<=s.length+oI m
 |0,_,_,_,_,h=>by simp[ps]at h
 |f+1,.expr d,s,t,r,h=>by
  simp only[ps]at h;split at h
  .cases h
  .split at h
   .rename_i n o u ha
    obtain⟨a,b,h1,h2⟩:=aJ7 h;obtain⟨rfl,rfl⟩:=EH h2;have:=oJ f _ _ _ _ h1;have:=axG ha;simp only[gT,oI]at*;omega
   .have:=oJ f _ _ _ _ h
    have:=aH6 s;simp only[oI]at*;omega
 |f+1,.h_ d,s,t,r,h=>by
  simp only[ps]at h;obtain⟨c,u,h1,h2⟩:=aJ7 h;have i1:=oJ f _ _ _ _ h1;split at h2
  .obtain⟨rfl,rfl⟩:=EH h2
   have:=aH6 u;simp only[oI]at*;omega
  .rename_i ho
   have ho:bT u=[63]:=yb.1 ho;obtain⟨a,v,h3,h4⟩:=aJ7 h2;have i2:=oJ f _ _ _ _ h3;split at h4
   .cases h4
   .rename_i cc
    have cc:bT v=[58]:=yb.1 cc;obtain⟨b,x,h5,h6⟩:=aJ7 h4;have i3:=oJ f _ _ _ _ h5;obtain⟨rfl,rfl⟩:=EH h6;have g1:=mM (s:=u) (by rw[ho];decide);have g2:=mM (s:=v) (by rw[cc];decide);simp only[gT,oI]at*;omega
 |f+1,.aHk l d,s,t,r,h=>by
  simp only[ps]at h;split at h
  .have:=oJ f _ _ _ _ h
   simpa only[oI]using this
  .obtain⟨a,u,h1,h2⟩:=aJ7 h
   have i1:=oJ f _ _ _ _ h1;have i2:=oJ f _ _ _ _ h2;simp only[oI]at*;omega
 |f+1,.loop l d a,s,t,r,h=>by
  simp only[ps]at h;split at h
  .rename_i ho
   obtain⟨b,u,h1,h2⟩:=aJ7 h;have i1:=oJ f _ _ _ _ h1;have i2:=oJ f _ _ _ _ h2;have g1:=mM (Ik ho);simp only[gT,oI]at*;omega
  .obtain⟨rfl,rfl⟩:=EH h
   have:=aH6 s;simp only[oI];omega
 |f+1,.sig d,s,t,r,h=>by
  simp only[ps]at h;split at h
  .cases h
  .split at h
   .rename_i ho
    obtain⟨b,u,h1,h2⟩:=aJ7 h;have i1:=oJ f _ _ _ _ h1;obtain⟨rfl,rfl⟩:=EH h2;have g1:=mM (MI ho);simp only[gT,oI]at*;omega
   .split at h
    .rename_i hp
     obtain⟨b,u,h1,h2⟩:=aJ7 h;have i1:=oJ f _ _ _ _ h1;split at h2
     .cases h2
     .rename_i cc
      have cc:bT u=[41]:=yb.1 cc;obtain⟨rfl,rfl⟩:=EH h2;have g1:=mM (s:=s) (by rw[hp];decide);have g2:=mM (s:=u) (by rw[cc];decide);simp only[oI]at*;omega
    .injection h with h
     have:=awq h;have:=aH6 s;simp only[oI];omega
end Go.Proofs.YtihaaoehhgmphaaGreatDoor.A
namespace Go.Proofs.YtihaaoehhgmphaaGreatDoor.A
open IntKind Go.RowKit Vc
variable{w:World}
abbrev Jz:ag:=[48,49,50,51,52,53,54,55,56,57,65,66,67,68,69,70,71,72,73,74,75,76,77,78,79,80,81,82,83,84,85,86,87,88,89,90,95,97,98,99,100,101,102,103,104,105,106,107,108,109,110,111,112,113,114,115,116,117,118,119,120,121,122]
def awr(c:UInt8):Jz.contains c=Mi c:=by
 have h:∀n:Nat,n<256->Jz.contains (UInt8.ofNat n)=Mi (UInt8.ofNat n):=by decide+kernel
 have:=h c.toNat c.toNat_lt;rwa[Kz]at this
def as1(s:ag):s.dropWhile (Jz.contains ·)=s.drop (qZ s):=by
 have e:(Jz.contains ·:UInt8->Bool)=Mi:=by funext c;exact awr c
 rw[e];unfold qZ
 induction s with
 |nil=>rfl
 |cons c s ih=>
  rw[DE,Kr];split
  .rw[bf,BU]
   exact ih
  ·rfl
def Cr(g:Nat)(w:World):Nat:=match w.cell? ⟨g,0,none⟩with
 |some (.string s)=>s.size
 |_=>0
def aKA{w:World}{g:Nat}{s:ag}(h:cX w g s):Cr g w=s.length:=by have hc:w.cell? ⟨g,0,none⟩=some (.string (S s)):=h.aj rfl;unfold Cr;rw[hc];rfl
def aaw:aq KX #[] w (λe w'=>∃b,e=.returned (.slice (some ⟨b,0,none⟩) 10 10)/\(∀l,l<10->∃c n,w'.cell? ⟨b,l,none⟩=some (.slice (some ⟨c,0,none⟩) n n)/\de w' (some ⟨c,0,none⟩) n (lv l)/\n<10/\w.heap.size<=c)/\Still w w'):=by
 apply amH;refine aQ λw1 r1 s1 z1=>aQ λw2 r2 s2 z2=>aQ λw3 r3 s3 z3=>aQ λw4 r4 s4 z4=>aQ λw5 r5 s5 z5=>aQ λw6 r6 s6 z6=>aQ λw7 r7 s7 z7=>aQ λw8 r8 s8 z8=>aQ λw9 r9 s9 z9=>aQ λaO eB fY aIs=>aQ λbh aHz pP zG=>?_;have t10:=pP;have t9:=fY.trans t10;have t8:=s9.trans t9;have t7:=s8.trans t8;have t6:=s7.trans t7;have t5:=s6.trans t6;have t4:=s5.trans t5;have t3:=s4.trans t4;have t2:=s3.trans t3;have t1:=s2.trans t2;refine⟨_,rfl,λl hl=>?_,s1.trans t1⟩;have hl:l=0\/l=1\/l=2\/l=3\/l=4\/l=5\/l=6\/l=7\/l=8\/l=9:=by omega
 rcases hl with rfl|rfl|rfl|rfl|rfl|rfl|rfl|rfl|rfl|rfl
 .exact⟨_,_,aHz.aj rfl,de.row (l:=lv 0) (r1.still t1),by decide,by omega⟩
 .exact⟨_,_,aHz.aj rfl,de.row (l:=lv 1) (r2.still t2),by decide,by omega⟩
 .exact⟨_,_,aHz.aj rfl,de.row (l:=lv 2) (r3.still t3),by decide,by omega⟩
 .exact⟨_,_,aHz.aj rfl,de.row (l:=lv 3) (r4.still t4),by decide,by omega⟩
 .exact⟨_,_,aHz.aj rfl,de.row (l:=lv 4) (r5.still t5),by decide,by omega⟩
 .exact⟨_,_,aHz.aj rfl,de.row (l:=lv 5) (r6.still t6),by decide,by omega⟩
 .exact⟨_,_,aHz.aj rfl,de.row (l:=lv 6) (r7.still t7),by decide,by omega⟩
 .exact⟨_,_,aHz.aj rfl,de.row (l:=lv 7) (r8.still t8),by decide,by omega⟩
 .exact⟨_,_,aHz.aj rfl,de.row (l:=lv 8) (r9.still t9),by decide,by omega⟩
 .exact⟨_,_,aHz.aj rfl,de.row (l:=lv 9) (eB.still t10),by decide,by omega⟩
def GJ{g:Nat}{s:ag}{w1:World}{l:List ag}{b:Nat}(h:cX w1 g s)(hb:Row w1 b 9 ⟨strs l⟩)(hne:b≠g)(hn:l.length<1000)(h0:[]∉l):
  aq wz #[.pointer (some ⟨g,0,none⟩),.slice (some ⟨b,0,none⟩) l.length l.length] w1 (λe w'=>(if bT s∈l then e=.returned (.string (S (bT s)))/\cX w' g (fT s)else e=.returned (.string (S []))/\cX w' g (trim s))/\Mod (λk=>k=g) w1 w'):=
 wO h (de.row hb) (λa ha=>by injection ha with ha;rw[<-ha];exact hne) hn h0
end Go.Proofs.YtihaaoehhgmphaaGreatDoor.A
namespace Go.Proofs.YtihaaoehhgmphaaGreatDoor.A
open IntKind Go.RowKit Vc
def ayo(w:World)(g:Nat)(q:Pr (Tm×ag)):Md->Prop
 |.expr d=>aq DH #[.pointer (some ⟨g,0,none⟩),.int .i64 (d:Int)] w (jw w g q)
 |.h_ d=>aq Kl #[.pointer (some ⟨g,0,none⟩),.int .i64 (d:Int)] w (jw w g q)
 |.aHk l d=>l<=10->aq F0 #[.pointer (some ⟨g,0,none⟩),.int .i64 (l:Int),.int .i64 (d:Int)] w (jw w g q)
 |.sig d=>aq Kn #[.pointer (some ⟨g,0,none⟩),.int .i64 (d:Int)] w (jw w g q)
 |.loop _ _ _=>True
def dep:Md->Nat
 |.expr d=>d
 |.h_ d=>d
 |.aHk _ d=>d
 |.loop _ d _=>d
 |.sig d=>d
def jw.bad{w w':World}{g k:Nat}(hm:Mod (λk=>k=g) w w'):jw w g (.bad k) (.panicked (k7 k)) w':=⟨rfl,hm⟩
def aws(o:ag)(h:o∈aJp)(w:World):aq Ql #[.string (S o),.string (S [61])] w (λe w'=>e=.returned (.string (S o.dropLast))/\w'=w):=by
 refine(Tryz.strings_TrimSuffix (S o) (S [61]) w (by
  have:∀o∈aJp,o.length<=2:=by decide
  have:=this o h;show o.length<=_
  omega)).mono ?_
 rintro _ w1 ⟨rfl,rfl⟩;have:∀o∈aJp,Lib.trimSuffix o [61]=o.dropLast:=by decide
 refine⟨?_,rfl⟩;have e:Lib.trimSuffix (S o).data.toList (S [61]).data.toList=o.dropLast:=this o h;rw[e]
set_option maxHeartbeats 4000000 in
def kK{w0:World}(he:Env w0){g:Nat}(hg:w0.heap.size<=g):∀(f:Nat) (m:Md) (s:ag) (q:Pr (Tm×ag)),ps f m s=some q->∀{w:World},Still w0 w->cX w g s->dep m+s.length<=2000000->ayo w g q m
 |0,_,_,_,h,_,_,_,_=>by simp[ps]at h
 |f+1,.expr d,s,q,h,w,h0,hr,hd=>by
  simp only[dep]at hd;simp only[ps]at h;show Calls _ _ _ _ _
  apply ak7;refine(j5 (decide ((d:Int)<=30)) 2).mono ?_;rintro _ w1 ⟨h1,rfl⟩;split at h
  .rename_i W3
   injection h with h;rw[eX (by omega),aG (by decide)]at h1;subst h1 h;exact .inr ⟨_,rfl,jw.bad (Mod.refl _ _)⟩
  rename_i W3;rw[fe (by omega),aL rfl]at h1;subst h1;refine .inl ⟨rfl,(aoC hr (by omega)).mono ?_⟩;rintro _ w2 ⟨h2,hm2⟩;have W4:=h0.box hg hm2;cases ha:qp s with
  |some p=>
   obtain⟨n,o,r⟩:=p;rw[ha]at h h2;dsimp only at h h2;obtain⟨rfl,hr2⟩:=h2;have hal:=aem ha;have e1:i64.wrap ((d:Int)+1)=((d+1:Nat):Int):=wI;refine .inl ⟨_,_,_,rfl,aA (λ_=>?_) (λh=>absurd h (by decide))⟩;refine(aws o (afg ha).2.2 w2).mono ?_;rintro _ w3 ⟨rfl,rfl⟩;refine .inl ⟨_,rfl,?_⟩;rw[e1];rcases oF h with⟨k,h3,rfl⟩|⟨t,r',h3,h4⟩
   .have hp:Calls _ _ _ _ _:=kK he hg f _ _ _ h3 W4 hr2 (by simp only[dep];omega)
    refine hp.mono ?_;rintro _ w4 ⟨rfl,eZ⟩;exact .inr ⟨_,rfl,jw.bad (fN hm2 eZ)⟩
   .injection h4 with h4
    subst h4;have hp:Calls _ _ _ _ _:=kK he hg f _ _ _ h3 W4 hr2 (by simp only[dep];omega);refine hp.mono ?_;rintro _ w4 ⟨⟨b,rfl,Dh,hr4⟩,eZ⟩;refine .inl ⟨_,rfl,aQ λw5 r5 s5 z5=>aQ λw6 r6 s6 z6=>⟨⟨_,rfl,⟨_,b,r6,r5.still s6,Dh.still (s5.trans s6)⟩,hr4.still (s5.trans s6)⟩,aHR (fN hm2 eZ) (s5.trans s6)⟩⟩
  |none=>
   rw[ha]at h h2;dsimp only at h h2;obtain⟨rfl,hr2⟩:=h2;have htl:=aH6 s;refine .inl ⟨_,_,_,rfl,aA (λh=>absurd h (by decide)) (λ_=>?_)⟩;have hp:Calls _ _ _ _ _:=kK he hg f _ _ _ h W4 hr2 (by simp only[dep];omega);refine hp.mono ?_;rintro e w4 ⟨h4,eZ⟩;cases q with
   |bad k=>exact .inr ⟨_,h4,jw.bad (fN hm2 eZ)⟩
   |ok p=>obtain⟨b,h5,ht,hr4⟩:=h4;exact .inl ⟨_,h5,⟨_,rfl,ht,hr4⟩,fN hm2 eZ⟩
 |f+1,.h_ d,s,q,h,w,h0,hr,hd=>by
  simp only[dep]at hd;simp only[ps]at h;show Calls _ _ _ _ _
  apply ako;have e1:i64.wrap ((d:Int)+1)=((d+1:Nat):Int):=wI;rcases oF h with⟨k,h1,rfl⟩|⟨c,u,h1,h2⟩
  .have hp:(0:Nat)<=10->Calls _ _ _ _ _:=kK he hg f (.aHk 0 d) _ _ h1 h0 hr (by simp only[dep];omega)
   refine(hp (by decide)).mono ?_;rintro _ w1 ⟨rfl,bW⟩;exact .inr ⟨_,rfl,jw.bad bW⟩
  have hp:(0:Nat)<=10->Calls _ _ _ _ _:=kK he hg f (.aHk 0 d) _ _ h1 h0 hr (by simp only[dep];omega);refine(hp (by decide)).mono ?_;rintro _ w1 ⟨⟨b,rfl,ht1,aHc⟩,bW⟩;have z1:=oJ f _ _ _ _ h1;simp only[oI]at z1;refine .inl ⟨_,rfl,aQ λw2 r2 s2 _=>?_⟩;have hr2:cX w2 g u:=aHc.still s2;refine(GJ (l:=[[63]]) hr2 r2 (by have:=aHc.lt;omega) (by decide) (by decide)).mono ?_;rintro e w3 ⟨h3,cV⟩;have NU:=fN (aHR bW s2) cV;have Fj:=cX.tree hr2 (ht1.still s2) cV
  by_cases ho:bT u=[63]
  rotate_left
  .rw[aG (by simpa using ho)]at h3
   obtain⟨rfl,hr3⟩:=h3;rw[aL ho]at h2;injection h2 with h2;subst h2;exact .inl ⟨_,rfl,aA (λ_=>⟨⟨_,rfl,Fj,hr3⟩,NU⟩) (λh=>absurd h (by decide))⟩
  rw[aL (by simpa using ho)]at h3;obtain⟨rfl,hr3⟩:=h3;rw[aG (λe=>e ho)]at h2;have g1:=mM (s:=u) (by rw[ho];decide);refine .inl ⟨_,rfl,aA (λh=>absurd (aR h) (by rw[ho];decide)) (λ_=>?_)⟩;rw[e1];have JA:=h0.box hg NU;rcases oF h2 with⟨k,h4,rfl⟩|⟨a,v,h4,h5⟩
  .have hp:Calls _ _ _ _ _:=kK he hg f (.expr (d+1)) _ _ h4 JA hr3 (by simp only[dep];omega)
   refine hp.mono ?_;rintro _ w4 ⟨rfl,eZ⟩;exact .inr ⟨_,rfl,jw.bad (fN NU eZ)⟩
  have hp:Calls _ _ _ _ _:=kK he hg f (.expr (d+1)) _ _ h4 JA hr3 (by simp only[dep];omega);refine hp.mono ?_;rintro _ w4 ⟨⟨b2,rfl,Dh,hr4⟩,eZ⟩;have z2:=oJ f _ _ _ _ h4;simp only[oI]at z2;have IM:=fN NU eZ;have azB:=cX.tree hr3 Fj eZ;refine .inl ⟨_,rfl,aQ λw5 r5 s5 _=>?_⟩;have kG:cX w5 g v:=hr4.still s5;refine(GJ (l:=[[58]]) kG r5 (by have:=hr4.lt;omega) (by decide) (by decide)).mono ?_;rintro e w6 ⟨h6,jm⟩;have NV:=fN (aHR IM s5) jm;have azC:=cX.tree kG (azB.still s5) jm;have azD:=cX.tree kG (Dh.still s5) jm
  by_cases cc:bT v=[58]
  rotate_left
  .rw[aG (by simpa using cc)]at h6
   obtain⟨rfl,aHZ⟩:=h6;rw[aL cc]at h5;injection h5 with h5;subst h5;refine .inl ⟨_,rfl,(j5 _ 130).mono ?_⟩;rintro _ w7 ⟨h7,rfl⟩;rw[aG (by decide)]at h7;subst h7;exact .inr ⟨_,rfl,jw.bad NV⟩
  rw[aL (by simpa using cc)]at h6;obtain⟨rfl,aHZ⟩:=h6;rw[aG (λe=>e cc)]at h5;have g2:=mM (s:=v) (by rw[cc];decide);refine .inl ⟨_,rfl,(j5 _ 130).mono ?_⟩;rintro _ w7 ⟨h7,rfl⟩;rw[aL (by rw[cc];decide)]at h7;subst h7;refine .inl ⟨rfl,?_⟩;have JB:=h0.box hg NV;rcases oF h5 with⟨k,h8,rfl⟩|⟨x,y,h8,h9⟩
  .have hp:Calls _ _ _ _ _:=kK he hg f (.h_ (d+1)) _ _ h8 JB aHZ (by simp only[dep];omega)
   refine hp.mono ?_;rintro _ w8 ⟨rfl,Di⟩;exact .inr ⟨_,rfl,jw.bad (fN NV Di)⟩
  injection h9 with h9;subst h9;have hp:Calls _ _ _ _ _:=kK he hg f (.h_ (d+1)) _ _ h8 JB aHZ (by simp only[dep];omega);refine hp.mono ?_;rintro _ w8 ⟨⟨b3,rfl,ht8,tT⟩,Di⟩;refine .inl ⟨_,rfl,aQ λw9 r9 s9 _=>aQ λaO eB fY _=>⟨⟨_,rfl,⟨_,b,b2,b3,eB,r9.still fY,(cX.tree aHZ azC Di).still (s9.trans fY),(cX.tree aHZ azD Di).still (s9.trans fY),ht8.still (s9.trans fY)⟩,tT.still (s9.trans fY)⟩,aHR (fN NV Di) (s9.trans fY)⟩⟩
 |f+1,.aHk l d,s,q,h,w,h0,hr,hd=>by
  simp only[dep]at hd;simp only[ps]at h;intro hl;apply akT;have e1:i64.wrap ((l:Int)+1)=((l+1:Nat):Int):=wI;refine aaw.mono ?_;rintro _ w1 ⟨b0,rfl,hb0,hs1⟩;have aHc:cX w1 g s:=hr.still hs1;have W5:=h0.trans hs1;refine .inl ⟨_,_,_,rfl,aA (λhx=>?_) (λhx=>?_)⟩
  .have hx:=aR hx
   rw[aL (by omega)]at h;have hp:Calls _ _ _ _ _:=kK he hg f (.sig d) _ _ h W5 aHc (by simp only[dep];omega);refine hp.mono ?_;rintro e w2 ⟨h2,hm2⟩;have hmw:=Eb hs1 hm2;cases q with
   |bad k=>exact .inr ⟨_,h2,jw.bad hmw⟩
   |ok p=>obtain⟨b,h5,ht,hr4⟩:=h2;exact .inl ⟨_,h5,⟨_,rfl,ht,hr4⟩,hmw⟩
  have hx:l<10:=by have:=aX hx;omega
  rw[aG (by omega)]at h;rw[e1];rcases oF h with⟨k,h3,rfl⟩|⟨a,u,h3,h4⟩
  .have hp:l+1<=10->Calls _ _ _ _ _:=kK he hg f (.aHk (l+1) d) _ _ h3 W5 aHc (by simp only[dep];omega)
   refine(hp (by omega)).mono ?_;rintro _ w2 ⟨rfl,hm2⟩;exact .inr ⟨_,rfl,jw.bad (Eb hs1 hm2)⟩
  have hp:l+1<=10->Calls _ _ _ _ _:=kK he hg f (.aHk (l+1) d) _ _ h3 W5 aHc (by simp only[dep];omega);refine(hp (by omega)).mono ?_;rintro _ w3 ⟨⟨b,rfl,Fj,hr3⟩,cV⟩;have EX:=Eb hs1 cV;have z3:=oJ f _ _ _ _ h3;simp only[oI]at z3;refine .inl ⟨_,rfl,λp w4=>∃(b:Nat) (a:Tm) (u:ag) (f':Nat),p=some ⟨b,0,none⟩/\f'<=f/\ps f' (.loop l d a) u=some q/\gL w4 a b/\cX w4 g u/\Mod (λk=>k=g) w w4/\u.length<=s.length/\Cr g w4=u.length,λ_ w4=>Cr g w4,
   ⟨b,a,u,f,rfl,aV _,h4,Fj,hr3,EX,by omega,aKA hr3⟩,?_⟩
  rintro _ _ w4 ⟨b,a,u,f',rfl,hf',hps,Dh,hr4,eZ,hul,htl⟩;cases f' with
  |zero=>simp[ps]at hps
  |succ f'=>
  simp only[ps]at hps;refine aaw.mono ?_;rintro _ w5 ⟨b5,rfl,aJQ,hs5⟩;obtain⟨c,n,hc,hlv,hn,hcs⟩:=aJQ l hx;have kG:cX w5 g u:=hr4.still hs5;refine .inl ⟨_,_,_,rfl,by omega,by omega,_,_,_,by rw[b6,aHp,aHa,cQ];exact hc,?_⟩;refine(wO kG hlv (λx hx=>by injection hx with hx;rw[<-hx];show c≠g;have:=hr4.lt;omega) (by omega) (λe=>Ik e rfl)).mono ?_;rintro e w6 ⟨h6,jm⟩;have azE:=fN (aHR (Mod.refl _ w4) hs5) jm;have IN:=fN eZ azE;have JC:=cX.tree kG (Dh.still hs5) jm
  by_cases ho:bT u∈lv l
  rotate_left
  .rw[aG ho]at h6 hps
   obtain⟨rfl,aHZ⟩:=h6;injection hps with hps;subst hps;exact .inl ⟨_,rfl,aA (λ_=>⟨⟨_,rfl,JC,aHZ⟩,IN⟩) (λh=>absurd rfl (aX h))⟩
  rw[aL ho]at h6 hps;obtain⟨rfl,aHZ⟩:=h6;have g1:=mM (Ik ho);refine .inl ⟨_,rfl,aA (λh=>absurd (aR h) (Ik ho)) (λ_=>?_)⟩
  try rw[e1]
  have JB:=h0.box hg IN;rcases oF hps with⟨k,h7,rfl⟩|⟨y,v,h7,h8⟩
  .have hp:l+1<=10->Calls _ _ _ _ _:=kK he hg f' (.aHk (l+1) d) _ _ h7 JB aHZ (by simp only[dep];omega)
   refine(hp (by omega)).mono ?_;rintro _ w7 ⟨rfl,xR⟩;exact .inr ⟨_,rfl,jw.bad (fN IN xR)⟩
  have hp:l+1<=10->Calls _ _ _ _ _:=kK he hg f' (.aHk (l+1) d) _ _ h7 JB aHZ (by simp only[dep];omega);refine(hp (by omega)).mono ?_;rintro _ w7 ⟨⟨b7,rfl,ht7,xS⟩,xR⟩;have z7:=oJ f' _ _ _ _ h7;simp only[oI]at z7;refine .inl ⟨_,rfl,aQ λw8 r8 s8 _=>aQ λw9 r9 s9 _=>?_⟩;have aIg:=s8.trans s9;have hta:=(cX.tree aHZ JC xR).still aIg;have ag2:=aHR (fN IN xR) aIg;have pQ:cX w9 g v:=xS.still aIg;have go:∀{aO:World} {k:Int},Row aO w8.heap.size 147 ⟨xd k 0 (bT u) [] (kids w7.heap.size 2)⟩->k=vz (bT u)->Mod (λi=>i=w8.heap.size) w9 aO->
    (∃(b:Nat) (a:Tm) (u:ag) (f':Nat),some (Addr.mk w8.heap.size 0 none)=some ⟨b,0,none⟩/\f'<=f/\ps f' (.loop l d a) u=some q/\gL aO a b/\cX aO g u/\Mod (λk=>k=g) w aO/\u.length<=s.length/\Cr g aO=u.length)/\Cr g aO<Cr g w4:=by
   intro aO k hr hk xy;subst hk;have NW:Still w7 aO:=aIg.box (by have:=s8.size;omega) xy;have tH:cX aO g v:=xS.still NW;refine⟨⟨_,.bin (bT u) a y,v,f',rfl,by omega,h8,⟨w7.heap.size,b,b7,hr,r8.still (s9.box (aV _) xy),(cX.tree aHZ JC xR).still NW,ht7.still NW⟩,tH,aHR (fN IN xR) NW,by omega,aKA tH⟩,by rw[aKA tH,htl];omega⟩
  refine aA (λh1=>?_) (λh1=>aA (λh2=>?_) (λh2=>?_))
  .have h1:=aR h1
   exact aHb r9 λaO tH xy _=>go tH (by unfold vz;rw[aL h1]) xy
  .have h1:=aX h1
   have h2:=aR h2;exact aHb r9 λaO tH xy _=>go tH (by unfold vz;rw[aG h1,aL h2]) xy
  .have h1:=aX h1
   have h2:=aX h2;exact go r9 (by unfold vz;rw[aG h1,aG h2]) (Mod.refl _ _)
 |f+1,.loop l d a,s,q,h,w,h0,hr,hd=>by trivial
 |f+1,.sig d,s,q,h,w,h0,hr,hd=>by
  simp only[dep]at hd;simp only[ps]at h;show Calls _ _ _ _ _
  apply aku;have e1:i64.wrap ((d:Int)+1)=((d+1:Nat):Int):=wI;refine(j5 (decide ((d:Int)<=30)) 2).mono ?_;rintro _ w1 ⟨h1,rfl⟩;split at h
  .rename_i W3
   injection h with h;rw[eX (by omega),aG (by decide)]at h1;subst h1 h;exact .inr ⟨_,rfl,jw.bad (Mod.refl _ _)⟩
  rename_i W3;rw[fe (by omega),aL rfl]at h1;subst h1;refine .inl ⟨rfl,aQ λw2 r2 s2 _=>?_⟩;have hr2:cX w2 g s:=hr.still s2;refine(GJ (l:=AI) hr2 r2 (by have:=hr.lt;omega) (by decide) (by decide)).mono ?_;rintro e w3 ⟨h3,cV⟩;have EX:=Eb s2 cV;have JA:=h0.box hg EX
  by_cases ho:bT s∈AI
  .rw[aL ho]at h3 h
   obtain⟨rfl,hr3⟩:=h3;have g1:=mM (MI ho);refine .inl ⟨_,rfl,aA (λ_=>?_) (λh=>absurd (nd h) (MI ho))⟩;rw[e1];rcases oF h with⟨k,h4,rfl⟩|⟨t,v,h4,h5⟩
   .have hp:Calls _ _ _ _ _:=kK he hg f (.sig (d+1)) _ _ h4 JA hr3 (by simp only[dep];omega)
    refine hp.mono ?_;rintro _ w4 ⟨rfl,eZ⟩;exact .inr ⟨_,rfl,jw.bad (fN EX eZ)⟩
   injection h5 with h5;subst h5;have hp:Calls _ _ _ _ _:=kK he hg f (.sig (d+1)) _ _ h4 JA hr3 (by simp only[dep];omega);refine hp.mono ?_;rintro _ w4 ⟨⟨b,rfl,Dh,hr4⟩,eZ⟩;exact .inl ⟨_,rfl,aQ λw5 r5 s5 _=>aQ λw6 r6 s6 _=>⟨⟨_,rfl,⟨_,b,r6,r5.still s6,Dh.still (s5.trans s6)⟩,hr4.still (s5.trans s6)⟩,aHR (fN EX eZ) (s5.trans s6)⟩⟩
  rw[aG ho]at h3 h;obtain⟨rfl,hr3⟩:=h3;refine .inl ⟨_,rfl,aA (λh=>absurd h (by decide)) (λ_=>aQ λw7 r7 s7 _=>?_)⟩;have xS:cX w7 g (trim s):=hr3.still s7;refine(GJ (l:=[[40]]) xS r7 (by have:=hr3.lt;omega) (by decide) (by decide)).mono ?_;rintro e w8 ⟨h8,Di⟩;rw[qK,Cj,Ea]at h8;have NX:=fN (aHR EX s7) Di;have st8:=h0.box hg NX
  by_cases EY:bT s=[40]
  .rw[aL (by simpa using EY)]at h8
   rw[aL EY]at h;obtain⟨rfl,tT⟩:=h8;have g1:=mM (s:=s) (by rw[EY];decide);refine .inl ⟨_,rfl,aA (λ_=>?_) (λh=>absurd (nd h) (by rw[EY];decide))⟩;rw[e1];rcases oF h with⟨k,h4,rfl⟩|⟨t,v,h4,h5⟩
   .have hp:Calls _ _ _ _ _:=kK he hg f (.expr (d+1)) _ _ h4 st8 tT (by simp only[dep];omega)
    refine hp.mono ?_;rintro _ w4 ⟨rfl,eZ⟩;exact .inr ⟨_,rfl,jw.bad (fN NX eZ)⟩
   have hp:Calls _ _ _ _ _:=kK he hg f (.expr (d+1)) _ _ h4 st8 tT (by simp only[dep];omega);refine hp.mono ?_;rintro _ w9 ⟨⟨b,rfl,ht9,pQ⟩,jA⟩;have ag2:=fN NX jA;refine .inl ⟨_,rfl,aQ λaO eB fY _=>?_⟩;have tH:cX aO g v:=pQ.still fY;refine(GJ (l:=[[41]]) tH eB (by have:=pQ.lt;omega) (by decide) (by decide)).mono ?_;rintro e bh ⟨h11,IP⟩;have af_:=fN (aHR ag2 fY) IP;have VM:=cX.tree tH (ht9.still fY) IP
   by_cases cc:bT v=[41]
   .rw[aL (by simpa using cc)]at h11
    obtain⟨rfl,ag3⟩:=h11;rw[aG (λe=>e cc)]at h5;injection h5 with h5;subst h5;refine .inl ⟨_,rfl,(j5 _ 130).mono ?_⟩;rintro _ bE ⟨h12,rfl⟩;rw[aL (by rw[cc];decide)]at h12;subst h12;exact .inl ⟨rfl,⟨_,rfl,VM,ag3⟩,af_⟩
   .rw[aG (by simpa using cc)]at h11
    obtain⟨rfl,ag3⟩:=h11;rw[aL cc]at h5;injection h5 with h5;subst h5;refine .inl ⟨_,rfl,(j5 _ 130).mono ?_⟩;rintro _ bE ⟨h12,rfl⟩;rw[aG (by decide)]at h12;subst h12;exact .inr ⟨_,rfl,jw.bad af_⟩
  rw[aG (by simpa using EY)]at h8;rw[aG EY]at h;obtain⟨rfl,tT⟩:=h8;injection h with h;refine .inl ⟨_,rfl,aA (λh=>absurd h (by decide)) (λ_=>?_)⟩;have htl:=aH6 s;have hwn:=adf (trim s);have cell:∀wq:World,Still w8 wq->wq.cell? ⟨g,0,none⟩=some (.string (S (trim s))):=λwq hq=>(tT.still hq).aj rfl;refine⟨λwq=>Still w8 wq,(Still.refl _).cy,trim s,cell,trim s,cell,trim s,cell,?_⟩;refine(ZN (trim s) Jz (by decide) (by decide)).mono ?_;rintro _ bw ⟨rfl,azF⟩;have U8:=(Still.refl w8).cy.trans azF;have ag4:cX bw g (trim s):=tT.still U8;rw[as1];have ek:i64.wrap (((trim s).length:Int)-(((trim s).drop (qZ (trim s))).length:Int))=(qZ (trim s):Int):=by rw[ig,wrap_i64 (by omega) (by omega)];omega
  have hlt:((trim s).take (qZ (trim s))).length=qZ (trim s):=by rw[aHl];omega
  refine .inl ⟨_,rfl,U8,?_⟩;rw[ek,b6,hlt,b6];refine⟨by omega,by omega,trim s,ag4.aj rfl,by omega,by omega,aHb ag4 λbO azG IM _=>?_⟩;have ayp:=fN (aHR NX U8) IM;refine(aau ((trim s).take (qZ (trim s))) (by omega)).mono ?_;rintro _ b8 ⟨rfl,NY⟩;have ag5:cX b8 g ((trim s).drop (qZ (trim s))):=Row.still azG NY;have U9:=aHR ayp NY;subst h;unfold vv;dsimp only;refine .inl ⟨_,rfl,?_⟩;cases hn:isName ((trim s).take (qZ (trim s)))with
  |true=>refine aA (λ_=>aQ λaHe r16 lB _=>?_) (λh=>by cases h);rw[aL rfl];exact⟨⟨_,rfl,r16,ag5.still lB⟩,aHR U9 lB⟩
  |false=>
   refine aA (λh=>by cases h) (λ_=>?_);rw[aG (by decide)];refine(SE (he.still (h0.box hg U9)) _ (by omega)).mono ?_;rintro _ cF ⟨⟨m,ok,rfl,hm,hv⟩,ag6⟩;have aga:=aHR U9 ag6;refine .inl ⟨_,_,rfl,?_⟩;cases JD:aIn ((trim s).take (qZ (trim s)))with
   |none=>rw[JD]at hv;subst hv;refine aA (λh=>by cases h) (λ_=>(j5 false 130).mono ?_);rintro _ cL ⟨h18,rfl⟩;rw[aG (by decide)]at h18;subst h18;exact .inr ⟨_,rfl,rfl,aga⟩
   |some n=>
    rw[JD]at hv;obtain⟨rfl,rfl⟩:=hv;have hne:(trim s).take (qZ (trim s))≠[]:=by intro e;rw[e]at JD;have:aIn []=none:=rfl;rw[this]at JD;cases JD
    refine aA (λ_=>(j5 _ 130).mono ?_) (λh=>by cases h);rintro _ cL ⟨h18,rfl⟩;rw[eX hne,aL (by decide)]at h18;subst h18;exact .inl ⟨rfl,aQ λdV tL aHI _=>⟨⟨_,rfl,tL,(ag5.still ag6).still aHI⟩,aHR aga aHI⟩⟩
termination_by f=>f
end Go.Proofs.YtihaaoehhgmphaaGreatDoor.A
namespace Go.Proofs.YtihaaoehhgmphaaGreatDoor.A
open IntKind Go.RowKit Vc
set_option maxRecDepth 100000
structure Bx(w0 w:World)(b0 b1 b2:Nat)(x:Int)(p:Option Addr)(n C:Nat)(y:Int):Prop where
 r0:Row w b0 3 ⟨[.int .i64 x]⟩
 r1:Row w b1 27 ⟨[.slice p n C]⟩
 r2:Row w b2 28 ⟨[.int .i64 y]⟩
 st:Still w0 w
 l0:w0.heap.size<=b0
 l1:w0.heap.size<=b1
 l2:w0.heap.size<=b2
section
variable{w0 w w':World}{b0 b1 b2 n C:Nat}{x y:Int}{p:Option Addr}
def Bx.box(h:Bx w0 w b0 b1 b2 x p n C y){g:Nat}(hg:w0.heap.size<=g)(h0:b0≠g)(h1:b1≠g)(h2:b2≠g)(hm:Mod (λk=>k=g) w w'):Bx w0 w' b0 b1 b2 x p n C y:=
 ⟨h.r0.mod hm h0,h.r1.mod hm h1,h.r2.mod hm h2,h.st.box hg hm,h.l0,h.l1,h.l2⟩
def Bx.still(h:Bx w0 w b0 b1 b2 x p n C y)(hm:Still w w'):Bx w0 w' b0 b1 b2 x p n C y:=⟨h.r0.still hm,h.r1.still hm,h.r2.still hm,h.st.trans hm,h.l0,h.l1,h.l2⟩
def Bx.IQ(h:Bx w0 w b0 b1 b2 x p n C y):b0≠b1:=h.r0.ne h.r1 (by decide)
def Bx.IS(h:Bx w0 w b0 b1 b2 x p n C y):b0≠b2:=h.r0.ne h.r2 (by decide)
def Bx.IT(h:Bx w0 w b0 b1 b2 x p n C y):b1≠b2:=h.r1.ne h.r2 (by decide)
def Bx.done(h:Bx w0 w b0 b1 b2 x p n C y){R:Ending->World->Prop}(hR:R (.returned (.tuple #[.int .i64 x,.slice p n C,.int .i64 y])) w):
  CallsD aM wE #[.pointer (some ⟨b0,0,none⟩),.pointer (some ⟨b1,0,none⟩),.pointer (some ⟨b2,0,none⟩)] .returning w (λed ux w9=>(∃rv,ed=.returned rv)/\settle ux=.returning/\∃v1:Int,w9.cell? ⟨b0,0,none⟩=some (.int .i64 v1)/\∃(v2:Option Addr) (vL vC:Nat),w9.cell? ⟨b1,0,none⟩=some (.slice v2 vL vC)/\∃v3:Int,w9.cell? ⟨b2,0,none⟩=some (.int .i64 v3)/\R (.returned (.tuple #[.int .i64 v1,.slice v2 vL vC,.int .i64 v3])) w9):=by
 refine(aqR _ _ _ w).mono ?_;rintro _ u w1 ⟨rfl,rfl,rfl⟩;exact⟨⟨_,rfl⟩,rfl,_,h.r0.aj rfl,_,_,_,h.r1.aj rfl,_,h.r2.aj rfl,hR⟩
end
end Go.Proofs.YtihaaoehhgmphaaGreatDoor.A
