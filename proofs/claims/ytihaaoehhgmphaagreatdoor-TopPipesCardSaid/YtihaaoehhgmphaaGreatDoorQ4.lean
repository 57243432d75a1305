/- Texts of one proof, one behind the other. Conditions: as each theorem names them. -/
import Derived.Test.YtihaaoehhgmphaaGreatDoorQ3
import Derived.Maps.Keyed
import Derived.Laws.IdiomRangeMap
import Derived.DeepKeys5
import Derived.StringKeys
import Derived.Lib.ItoaMem
import Derived.Lib.Bytealg
set_option linter.all false
namespace Go.Proofs.YtihaaoehhgmphaaGreatDoor
open IntKind Go.RowKit Vc
abbrev Still(w w':World):Prop:=Mod (λ_=>False) w w'
def Still.trans{a b c:World}(h:Still a b)(k:Still b c):Still a c:=Mod.trans h k (λ_ h=>h) (λ_ _ h=>h)
def Still.refl(w:World):Still w w:=Mod.refl _ _
def Still.cK{a b:World}(h:Still a b):Still a b.drew:=Mod.drew h
def Still.aeB{a b:World}(h:Still a.drew b):Still a b:=⟨h.os,h.tape,h.output,h.size,h.block⟩
def Still.cell{w w':World}{a:Addr}{v:Value}(hm:Still w w')(h:w.cell? a=some v):w'.cell? a=some v:=
 (World.cell?_of_block (hm.block _ (World.block_lt_of_cell? _ _ h) (λh=>h))).trans h
def Still.box{w w1 w2:World}{g:Nat}(h:Still w w1)(hg:w.heap.size<=g)(hm:Mod (λi=>i=g) w1 w2):Still w w2:=Mod.trans h hm (λ_ h=>h) (λi hi e=>by omega)
def Still.trans'{a b c:World}(h:Still a b){B:Nat}(k:Below B b c)(hB:a.heap.size<=B):Still a c:=
 ⟨k.os.trans h.os,k.tape.trans h.tape,k.output.trans h.output,lH h.size k.size,λi hi hn=>(k.block i (by omega)).trans (h.block i hi hn)⟩
def Row.still{w w':World}{g:Nat}{t:TypeId}{cs:Array Value}(h:Row w g t cs)(hm:Still w w'):Row w' g t cs:=h.mod hm (λh=>h)
def aV.still{w w':World}{B:Nat}{e:TypeId}{size:Nat}{v:Value}{n:Nat}{xs:List Value}(h:aV w B e size v n xs)(hm:Still w w'):aV w' B e size v n xs:=h.mod hm (λ_ _ h=>h)
def Row.aj{w:World}{g:Nat}{t:TypeId}{l:List Value}(h:Row w g t ⟨l⟩){i:Nat}{v:Value}(hv:l[i]?=some v):w.cell? ⟨g,i,none⟩=some v:=h.dY (by simpa using hv)
def Ux{v:Value}{A:Prop}(h:v.oneCell'=true)(hA:A):ak v.oneCell' A False:=by rw[h];exact hA
def rH(a:Addr)(i j:Nat):(a.add i).add j=a.add (i+j):=by
 unfold Addr.add
 by_cases hi:i=0<;>by_cases hj:j=0<;>simp[hi,hj,FN]
def l9{w:World}{C:World->Prop}(h:C w):cS w C:=h
def aP{w:World}{cs:List Value}{t:TypeId}{C:World->Prop}(h:∀w1,Row w1 w.heap.size t ⟨cs⟩->Still w w1->w1.heap.size=w.heap.size+1->C w1):cS (w.alloc (.cells ⟨cs⟩ t)) C:=
 h _ (Row.new w t ⟨cs⟩) ((Mod.refl _ _).alloc _) (World.size_alloc ..)
def fR(cs:List Value):Nat->List Value->List Value
 |_,[]=>cs
 |o,v::vs=>fR (cs.set o v) (o+1) vs
def ZL{g:Nat}{t:TypeId}:∀{vs:List Value} {w:World} {cs:List Value} {i o:Nat} {K:World->Prop},Row w g t ⟨cs⟩->o+i+vs.length<=cs.length->(∀v∈vs,v.oneCell'=true)->
  (∀w',Row w' g t ⟨fR cs (o+i) vs⟩->Mod (λk=>k=g) w w'->w'.heap.size=w.heap.size->K w')->cJ (Addr.mk g o none) K i vs w
 |[],w,cs,i,o,K,hr,_,_,h=>h w hr (Mod.refl _ _) rfl
 |v::vs,w,cs,i,o,K,hr,hl,h1,h=>by simp only[bf]at hl;refine aB (λ_=>?_) (λhv=>by rw[h1 v (by simp)]at hv;cases hv);rw[bR];have hr2:=hr.gZ (o+i) v;refine⟨hr.wr (o+i) (by simp;omega),ZL hr2 (by simp;omega) (λu hu=>h1 u (by simp[hu])) λw' h3 h4 h5=>h w' h3 ?_ (h5.trans (by simp[World.setCell]))⟩;exact Mod.trans ((Mod.refl (λk=>k=g) w).setCell (p:=Addr.mk g (o+i) none) (.inl rfl) v) h4 (λ_ h=>h) (λ_ _ h=>h)
def aH5{g:Nat}{t:TypeId}{vs:List Value}{w:World}{cs:List Value}{o:Nat}{K:World->Prop}(hr:Row w g t ⟨cs⟩)(hl:o+vs.length<=cs.length)(h1:∀v∈vs,v.oneCell'=true)
  (h:∀w',Row w' g t ⟨fR cs o vs⟩->Mod (λk=>k=g) w w'->w'.heap.size=w.heap.size->K w'):cJ (Addr.mk g o none) K 0 vs w:=
 ZL hr (by simpa using hl) h1 λw' h2 h3 h4=>h w' (by simpa using h2) h3 h4
def wQ{w:World}{cs:List Value}{t:TypeId}{vs:List Value}{K:World->Prop}(hl:vs.length=cs.length)(h1:∀v∈vs,v.oneCell'=true)
  (h:∀w',Row w' w.heap.size t ⟨vs⟩->Still w w'->w'.heap.size=w.heap.size+1->K w'):cS (w.alloc (.cells ⟨cs⟩ t)) (λw1=>cJ (Addr.mk w.heap.size 0 none) K 0 vs w1):=by
 refine aP λw1 hr hs hz=>aH5 hr (by omega) h1 λw' h2 h3 h4=>h w' ?_ (hs.box (aW _) h3) (by omega);have e:∀(vs cs:List Value) (pre:List Value),vs.length=cs.length->fR (pre++cs) pre.length vs=pre++vs:=by
  intro vs
  induction vs with
  |nil=>intro cs pre h;cases cs with
   |nil=>rfl
   |cons c cs=>cases h
  |cons v vs ih=>intro cs pre h;cases cs with
   |nil=>cases h
   |cons c cs=>have:=ih cs (pre++[v]) (by simpa using h);simp only[fR,C4 _ _ (aW pre.length),Ku,XV];simpa using this
 have:=e vs cs [] hl;simp only[zm,cm]at this;rwa[this]at h2
def aV.mR{w:World}{B:Nat}{e:TypeId}{size:Nat}{v:Value}{n:Nat}{xs:List Value}(h:aV w B e size v n xs){k:Nat}(hk:v.ownBlock=some k):B<=k:=(h.lt k hk).1
def Still.own{w0 w w':World}{B:Nat}{e:TypeId}{size:Nat}{v:Value}{n:Nat}{xs:List Value}(h:Still w0 w)(ho:aV w B e size v n xs)(hB:w0.heap.size<=B)(hm:Mod (λk=>v.ownBlock=some k) w w'):Still w0 w':=
 Mod.trans h hm (λ_ h=>h) (λi hi e=>by have:=ho.mR e;omega)
def Row.own{w w':World}{B g:Nat}{e t:TypeId}{cs:Array Value}{size:Nat}{v:Value}{n:Nat}{xs:List Value}(h:Row w g t cs)(ho:aV w B e size v n xs)(hg:g<B\/t≠e)(hm:Mod (λk=>v.ownBlock=some k) w w'):Row w' g t cs:=
 h.mod hm λhk=>by
  rcases hg with hg|hg
  .have:=ho.mR hk;omega
  .obtain⟨cur,hc⟩:=ho.typed hk
   exact h.ne hc hg rfl
def qq{w:World}{B:Nat}{e:TypeId}{sz bytes:Nat}{p q:Option Addr}{n c m:Nat}{xs:List Value}{K:Option Addr->Nat->World->Prop}(ho:aV w B e sz (.slice p n c) n xs)(hB:B<=w.heap.size)(news:List Value)
  (hn:news.length=m*sz)(h1:∀u∈news,u.oneCell'=true)(hq:0<m->∃a,q=some a/\∀j u,news[j]?=some u->w.cell? (a.add j)=some u)(hs:n+m<=9223372036854775807)(hb:(n+m)*bytes<=140737488355328)
  (h:∀p' c' w',aV w' B e sz (.slice p' (n+m) c') (n+m) (xs++news)->Mod (λk=>(Value.slice p n c).ownBlock=some k) w w'->aI4 p p' (n+m) c c' w.heap.size->K p' c' w'):dA w e sz bytes p n c q m K:=by
 refine⟨xs,news,ho.B1,hn,h1,hq,hs,hb,λp' c' w' ho' hg hk=>h p' c' w' (ho'.base λk hk'=>?_) ((Mod.refl _ _).grown hg λg hg=>.inl hg) hk⟩;rcases hk.own (n:=n)with hk|hk
 .exact(ho.lt k (hk.symm.trans hk')).1
 .rw[hk']at hk
  obtain rfl:=bM hk;exact hB
def abo{w:World}{B:Nat}{e:TypeId}{sz bytes:Nat}{p:Option Addr}{n c:Nat}{b:List UInt8}{xs:List Value}{K:Option Addr->Nat->World->Prop}(ho:aV w B e sz (.slice p n c) n xs)(hB:B<=w.heap.size)
  (hs:n+b.length<=9223372036854775807)(hb:(n+b.length)*bytes<=140737488355328)
  (h:∀p' c' w',aV w' B e sz (.slice p' (n+b.length) c') (n+b.length) (xs++bc b)->Mod (λk=>(Value.slice p n c).ownBlock=some k) w w'->aI4 p p' (n+b.length) c c' w.heap.size->K p' c' w'):af8 w e sz bytes p n c b K:=by
 refine⟨xs,ho.B1,hs,hb,λp' c' w' ho' hg hk=>h p' c' w' (ho'.base λk hk'=>?_) ((Mod.refl _ _).grown hg λg hg=>.inl hg) hk⟩;rcases hk.own (n:=n)with hk|hk
 .exact(ho.lt k (hk.symm.trans hk')).1
 .rw[hk']at hk
  obtain rfl:=bM hk;exact hB
def afp{w:World}{B:Nat}{e:TypeId}{sz bytes:Nat}{p:Option Addr}{n c:Nat}{xs cs:List Value}{K:Option Addr->Nat->World->Prop}(ho:aV w B e sz (.slice p n c) n xs)(hB:B<=w.heap.size)
  (hl:cs.length=sz)(h1:∀u∈cs,u.oneCell'=true)(hs:n+1<=9223372036854775807)(hb:(n+1)*bytes<=140737488355328)
  (h:∀p' c' w',aV w' B e sz (.slice p' (n+1) c') (n+1) (xs++cs)->Mod (λk=>(Value.slice p n c).ownBlock=some k) w w'->K p' c' w'):
  cS (w.alloc (.cells ⟨cs⟩ e)) (λw2=>dA w2 e sz bytes p n c (some (Addr.mk w.heap.size 0 none)) 1 K):=by
 refine aP λw1 hr hst hz=>?_;refine qq (ho.still hst) (by omega) cs (by omega) h1 (λ_=>⟨_,rfl,λj u hu=>?_⟩) hs hb λp' c' w' ho' hm _=>h p' c' w' ho' (Mod.trans hst hm (λ_ h=>h.elim) (λ_ _ h=>h));rw[bR,cE];exact hr.dY (by simpa using hu)
def aV.apart{w:World}{B B':Nat}{e e':TypeId}{size size':Nat}{v v':Value}{n n':Nat}{xs xs':List Value}(h:aV w B e size v n xs)(h':aV w B' e' size' v' n' xs')(hne:e≠e'){k:Nat}(hk:v.ownBlock=some k):v'.ownBlock≠some k:=by intro hk';obtain⟨cur,hr⟩:=h.typed hk;obtain⟨cur',hr'⟩:=h'.typed hk';exact hr.ne hr' hne rfl
def aV.cY{w:World}{B g:Nat}{e t:TypeId}{size:Nat}{v:Value}{n:Nat}{xs:List Value}{cs:Array Value}(h:aV w B e size v n xs)(hr:Row w g t cs)(hne:e≠t):v.ownBlock≠some g:=by intro hk;obtain⟨cur,hr'⟩:=h.typed hk;exact hr'.ne hr hne rfl
def At(w:World)(p:Option Addr)(n:Nat)(cs:List Value):Prop:=0<n->∃a,p=some a/\∀(j:Nat) (u:Value),cs[j]?=some u->w.cell? (a.add j)=some u
def At.still{w w':World}{p:Option Addr}{n:Nat}{cs:List Value}(h:At w p n cs)(hm:Still w w'):At w' p n cs:=λhn=>by obtain⟨a,h1,h2⟩:=h hn;exact⟨a,h1,λj u hu=>hm.cell (h2 j u hu)⟩
def ax9(B:Nat)(p:Option Addr):Prop:=∀a,p=some a->a.block<B
def At.from{w w':World}{p:Option Addr}{n B:Nat}{cs:List Value}(h:At w p n cs)(hp:ax9 B p){S:Nat->Prop}(hm:Mod S w w')(hS:∀k,S k->B<=k):At w' p n cs:=λhn=>by
 obtain⟨a,rfl,h2⟩:=h hn;refine⟨a,rfl,λj u hu=>?_⟩;have hc:=h2 j u hu;have hb:(a.add j).block=a.block:=by unfold Addr.add;split<;>rfl
 refine(World.cell?_of_block (hm.block _ (World.block_lt_of_cell? _ _ hc) (λe=>?_))).trans hc;have:=hS _ e;have:=hp a rfl;omega
def At.own{w:World}{B:Nat}{e:TypeId}{size:Nat}{p:Option Addr}{n C:Nat}{cs:List Value}(h:aV w B e size (.slice p n C) n cs):At w p n cs:=λhn=>by obtain⟨g,cap,he,_,_,_,hc⟩:=h.wz hn;injection he with e1 e2 e3;subst e1;refine⟨_,rfl,λj u hu=>?_⟩;rw[bR,cE];exact hc j u hu
def At.row{w:World}{g n:Nat}{t:TypeId}{cs:List Value}(h:Row w g t ⟨cs⟩):At w (some ⟨g,0,none⟩) n cs:=λ_=>⟨_,rfl,λj u hu=>by rw[bR,cE];exact h.aj hu⟩
def acn{α:Type}{f:α->List Value}{sz:Nat}(hf:∀x,(f x).length=sz):∀l:List α,(l.flatMap f).length=l.length*sz
 |[]=>by simp
 |a::l=>by rw[oS,aIa,hf,acn hf l,bf,zy];omega
def DH{α:Type}{f:α->List Value}{sz:Nat}(hf:∀x,(f x).length=sz):∀{l:List α} {i:Nat} {x:α},l[i]?=some x->∀j,j<sz->(l.flatMap f)[i*sz+j]?=(f x)[j]?
 |a::l,0,x,h,j,hj=>by obtain rfl:=bM h;rw[oS,Dl,cE,vJ (by rw[hf];exact hj)]
 |a::l,i+1,x,h,j,hj=>by
  rw[oS,zg (by rw[hf,zy];omega),hf];have:(i+1)*sz+j-sz=i*sz+j:=by rw[zy];omega
  rw[this];exact DH hf (l:=l) (by simpa using h) j hj
end Go.Proofs.YtihaaoehhgmphaaGreatDoor
namespace Go.Proofs.YtihaaoehhgmphaaGreatDoor
open IntKind Go.RowKit Vc
variable{w:World}
def getD_some{α:Type}{p:List α}{i:Nat}(h:i<p.length):p[i]?=some p[i]:=gJ h
def DC{α:Type}{l:List α}{k:Nat}(h:k<l.length):l.take (k+1)=l.take k++[l[k]]:=by rw[Fz,getD_some h];rfl
def aqL{s:ag}{k:Nat}(h:k<s.length):(s.drop k).take (k+1-k)=[s[k]]:=by rw[aLa,mI h];rfl
def dS{a b:UInt8}:(a.toNat:Int)=(b.toNat:Int)↔a=b:=⟨λh=>FF.1 (by omega),λh=>by rw[h]⟩
def bI(l:List ag):List Value:=l.map λx=>.string (S x)
def KS(l m:List ag):bI (l++m)=bI l++bI m:=by simp[bI]
def KT(l:List ag):(bI l).length=l.length:=by simp[bI]
def aut(l:List ag):∀u∈bI l,u.oneCell'=true:=by intro u hu;simp only[bI,eo]at hu;obtain⟨x,_,rfl⟩:=hu;rfl
def c_(w:World)(p:Option Addr)(n:Nat)(l:List ag):Prop:=l.length=n/\At w p n (bI l)
def c_.still{p:Option Addr}{n:Nat}{l:List ag}{w':World}(h:c_ w p n l)(hm:Still w w'):c_ w' p n l:=⟨h.1,h.2.still hm⟩
def c_.of{B:Nat}{p:Option Addr}{n C:Nat}{l:List ag}(h:aV w B 9 1 (.slice p n C) n (bI l)):c_ w p n l:=⟨by have:=h.length;rw[KT]at this;omega,At.own h⟩
def c_.row{g:Nat}{t:TypeId}{l:List ag}(h:Row w g t ⟨bI l⟩):c_ w (some ⟨g,0,none⟩) l.length l:=⟨rfl,At.row h⟩
def c_.nil(w:World):c_ w none 0 []:=⟨rfl,λh=>absurd h (Dj _)⟩
def c_.get{p:Option Addr}{n:Nat}{l:List ag}(h:c_ w p n l){k:Nat}(hk:k<n):∃a,p=some a/\w.cell? (a.add k)=some (.string (S (l[k]'(by have:=h.1;omega)))):=by obtain⟨a,h1,h2⟩:=h.2 (by omega);refine⟨a,h1,h2 k _ ?_⟩;have:=h.1;simp[bI,show k<l.length by omega]
def u8s(vs:List Nat):List Value:=vs.map λv:Nat=>.int .u8 (v:Int)
def Ig(w:World)(p:Option Addr)(n:Nat)(vs:List Nat):Prop:=vs.length=n/\(∀v∈vs,v<256)/\At w p n (u8s vs)
def Ig.still{p:Option Addr}{n:Nat}{vs:List Nat}{w':World}(h:Ig w p n vs)(hm:Still w w'):Ig w' p n vs:=⟨h.1,h.2.1,h.2.2.still hm⟩
def Ig.get{p:Option Addr}{n:Nat}{vs:List Nat}(h:Ig w p n vs){k:Nat}(hk:k<n):∃a v,p=some a/\vs[k]?=some v/\v<256/\w.cell? (a.add k)=some (.int .u8 (v:Int)):=by obtain⟨h1,h2,h3⟩:=h;obtain⟨a,h4,h5⟩:=h3 (by omega);refine⟨a,vs[k]'(by omega),h4,getD_some _,h2 _ (ou _),h5 k _ ?_⟩;simp[u8s,show k<vs.length by omega]
end Go.Proofs.YtihaaoehhgmphaaGreatDoor
namespace Go.Proofs.YtihaaoehhgmphaaGreatDoor
open IntKind Go.RowKit Vc
abbrev KV:=Value×Value
def kvs(ms:List MapEntry):List KV:=ms.map λe=>(e.key,e.val)
structure El(ms:Array MapEntry)(c:Nat)(es:List KV):Prop where
 kv:kvs ms.toList=es
 nodup:(es.map Prod.fst).Nodup
 born:(ms.toList.map (·.born)).Nodup
 lt:∀e∈ms.toList,e.born<c
def dU(w:World)(g:Nat)(es:List KV):Prop:=∃ms c,w.heap[g]?=some (.map ms c)/\El ms c es
section
variable{w w':World}{g:Nat}{es:List KV}
def dU.lt(h:dU w g es):g<w.heap.size:=by obtain⟨ms,c,h,_⟩:=h;exact(oP.1 h).1
def dU.same(h:dU w g es)(hb:w'.heap[g]?=w.heap[g]?):dU w' g es:=by obtain⟨ms,c,h,h2⟩:=h;exact⟨ms,c,hb.trans h,h2⟩
def dU.mod{S:Nat->Prop}(h:dU w g es)(hm:Mod S w w')(hg:¬S g):dU w' g es:=h.same (hm.block g h.lt hg)
def dU.still(h:dU w g es)(hm:Still w w'):dU w' g es:=h.mod hm λh=>h
def dU.cY(h:dU w g es){k:Nat}{t:TypeId}{cs:Array Value}(hr:Row w k t cs):g≠k:=by rintro rfl;obtain⟨ms,c,h,_⟩:=h;obtain⟨fz,hr,_⟩:=hr;rw[h]at hr;cases hr
def dU.new(w:World):dU (w.alloc (.map #[] 0)) w.heap.size []:=
 ⟨#[],0,heap_alloc_new w _,rfl,by simp,by simp,by simp⟩
def dU.none{ms:Array MapEntry}{c:Nat}(h:dU w g es)(hb:w.heap[g]?=some (.map ms c)):El ms c es:=by obtain⟨ms',c',h1,h2⟩:=h;rw[hb]at h1;injection h1 with h1;injection h1 with e1 e2;subst e1 e2;exact h2
def El.copy{ms:Array MapEntry}{c:Nat}(h:El ms c es)(w:World):dU (w.alloc (.map ms c)) w.heap.size es:=⟨ms,c,heap_alloc_new w _,h⟩
end
section
variable{P:Program}{T tk te:TypeId}{w:World}{g:Nat}{es:List KV}{key:Value}{lk:Lit}
def av0{ms:List MapEntry}{j:Nat}{e:MapEntry}(h:ms[j]?=some e):(kvs ms)[j]?=some (e.key,e.val):=by simp[kvs,h]
def DI(KL:WideMaps.KeyLaw P tk)(hT:P.underlying T=some (.map tk te)){z:Value}(hz:(zeroValue te).run P w=.ok z w)(hm:dU w g es)(hk:keyOf P tk key=some lk)(IP:∀p∈es,∃l,keyOf P tk p.1=some l)(b:Bool):
  (∃v,(key,v)∈es/\(Instr.lookup T (.map (some g)) key b).run P w=.ok (if b then .tuple #[v,.bool true]else v) w)\/
  ((∀p∈es,p.1≠key)/\(Instr.lookup T (.map (some g)) key b).run P w=.ok (if b then .tuple #[z,.bool false]else z) w):=by
 obtain⟨ms,c,hg,hG⟩:=hm;have hall:∀e∈ms.toList,∃l,keyOf P tk e.key=some l:=λe he=>IP (e.key,e.val) (by rw[<-hG.kv];exact eo.2 ⟨e,he,rfl⟩);have K:=Maps.Keyed.of_law KL;rcases K.find w hk ms.toList hall with⟨h1,h2⟩|⟨j,e,h1,h2,h3⟩
 ·right
  refine⟨λp hp=>?_,?_⟩
  .rw[<-hG.kv]at hp
   obtain⟨e,he,rfl⟩:=eo.1 hp;exact h2 e he
  .simp[Instr.lookup,run_underlying hT,MapKept.run_getObj_map hg,KL.check w _ hk,h1,hz,Result.andThen]
 ·left
  refine⟨e.val,?_,?_⟩
  .rw[<-hG.kv,<-h3]
   exact eo.2 ⟨e,tq h2,rfl⟩
  .simp[Instr.lookup,run_underlying hT,MapKept.run_getObj_map hg,KL.check w _ hk,h1,Result.andThen]
def LB(w:World)(g:Nat)(o:Obj):Mod (λk=>k=g) w (ChangeMaps.setBlock w g o):=
 ⟨rfl,rfl,rfl,by simp[ChangeMaps.setBlock],λk _ hk=>by simp only[ChangeMaps.setBlock];rw[Xj (λe=>hk e.symm)]⟩
def S6{w:World}{g:Nat}(h:g<w.heap.size)(o:Obj):(ChangeMaps.setBlock w g o).heap[g]?=some o:=by simp[ChangeMaps.setBlock,h]
def L5(KL:WideMaps.KeyLaw P tk)(hT:P.underlying T=some (.map tk te))(hm:dU w g es)(hk:keyOf P tk key=some lk)(IP:∀p∈es,∃l,keyOf P tk p.1=some l)(hn:∀p∈es,p.1≠key)(v:Value):
  ∃w',(Instr.mapUpdate T (.map (some g)) key v).run P w=.ok () w'/\dU w' g (es++[(key,v)])/\Mod (λk=>k=g) w w'/\w'.heap.size=w.heap.size:=by
 have hlt:=hm.lt;obtain⟨ms,c,hg,hG⟩:=hm;have hall:∀e∈ms.toList,∃l,keyOf P tk e.key=some l:=λe he=>IP (e.key,e.val) (by rw[<-hG.kv];exact eo.2 ⟨e,he,rfl⟩);have K:=Maps.Keyed.of_law KL;rcases K.find w hk ms.toList hall with⟨h1,_⟩|⟨j,e0,_,h2,h3⟩
 .refine⟨ChangeMaps.setBlock w g (.map (ms.push ⟨key,v,c⟩) (c+1)),?_,⟨_,_,S6 hlt _,?_⟩,LB _ _ _,by simp[ChangeMaps.setBlock]⟩
  .simp[Instr.mapUpdate,run_underlying hT,MapKept.run_getObj_map hg,KL.check w false hk,h1,MapKept.run_setObj_map _ hg,Result.andThen,ChangeMaps.setBlock]
  .refine⟨?_,?_,?_,?_⟩
   .simp only[kvs,JZ,qX,fW,qZ]
    rw[<-hG.kv];rfl
   .rw[qX,PF]
    refine⟨hG.nodup,by simp,λa ha b hb=>?_⟩;simp only[fW,qZ,aIA]at hb;subst hb;obtain⟨p,hp,rfl⟩:=eo.1 ha;exact hn p hp
   .rw[JZ,qX,PF]
    refine⟨hG.born,by simp,λa ha b hb=>?_⟩;simp only[fW,qZ,aIA]at hb;subst hb;obtain⟨p,hp,rfl⟩:=eo.1 ha;have:=hG.lt p hp;omega
   .intro e he
    rw[JZ,aIL]at he;rcases he with he|he
    .have:=hG.lt e he;omega
    .obtain rfl:=aIA.1 he
     exact nr _
 .exact absurd h3 (hn (e0.key,e0.val) (by rw[<-hG.kv];exact eo.2 ⟨e0,tq h2,rfl⟩))
def aeC(KL:WideMaps.KeyLaw P tk)(hT:P.underlying T=some (.map tk te)){l1 l2:List KV}{v0:Value}(hm:dU w g (l1++(key,v0)::l2))(hk:keyOf P tk key=some lk)(IP:∀p∈l1++(key,v0)::l2,∃l,keyOf P tk p.1=some l)(v:Value):
  ∃w',(Instr.mapUpdate T (.map (some g)) key v).run P w=.ok () w'/\dU w' g (l1++(key,v)::l2)/\Mod (λk=>k=g) w w'/\w'.heap.size=w.heap.size:=by
 have hlt:=hm.lt;obtain⟨ms,c,hg,hG⟩:=hm;have hall:∀e∈ms.toList,∃l,keyOf P tk e.key=some l:=λe he=>IP (e.key,e.val) (by rw[<-hG.kv];exact eo.2 ⟨e,he,rfl⟩);have K:=Maps.Keyed.of_law KL;rcases K.find w hk ms.toList hall with⟨_,h1⟩|⟨j,e0,h1,h2,h3⟩
 .have:(key,v0)∈kvs ms.toList:=by rw[hG.kv];simp
  obtain⟨e,he,h4⟩:=eo.1 this;exact absurd (gK Prod.fst h4) (h1 e he)
 .have hj:j<ms.size:=by
   have:=(jj.1 h2).1;simpa using this
  have hjl:j=l1.length:=by
   have e1:(l1++(key,v0)::l2)[j]?=some (e0.key,e0.val):=by rw[<-hG.kv];exact av0 h2
   have e2:((l1++(key,v0)::l2).map Prod.fst)[j]?=some key:=by rw[vM,e1];simp[h3]
   have e3:((l1++(key,v0)::l2).map Prod.fst)[l1.length]?=some key:=by simp
   have nd:=hG.nodup;have hlen:j<((l1++(key,v0)::l2).map Prod.fst).length:=(jj.1 e2).1;exact(List.getElem?_inj hlen nd).1 (e2.trans e3.symm)
  have hk2:(ms[j]?.map (·.key)).getD key=key:=by
   have:ms[j]?=some e0:=by simpa using h2
   rw[this];simpa using h3
  have kv2:kvs (ms.modify j λe=>{e with key:=key,val:=v}).toList=l1++(key,v)::l2:=by
   have:kvs (ms.modify j λe=>{e with key:=key,val:=v}).toList=(kvs ms.toList).set j (key,v):=by
    apply aJc;intro i;simp only[kvs,vM,Dd,JI,Fk,aIB,JP]
    by_cases hi:j=i
    .subst hi
     simp[hj]
    .simp[hi]
   rw[this,hG.kv,hjl];simp
  have bn:(ms.modify j λe=>{e with key:=key,val:=v}).toList.map (·.born)=ms.toList.map (·.born):=by
   apply aJc;intro i;simp only[vM,JI,Fk]
   by_cases hi:j=i
   .subst hi
    cases ms[j]?<;>simp
   .simp[hi]
  refine⟨ChangeMaps.setBlock w g (.map (ms.modify j λe=>{e with key:=key,val:=v}) c),?_,⟨_,_,S6 hlt _,kv2,?_,by rw[bn];exact hG.born,λe he=>?_⟩,LB _ _ _,by simp[ChangeMaps.setBlock]⟩
  .simp[Instr.mapUpdate,run_underlying hT,MapKept.run_getObj_map hg,KL.check w false hk,h1,hk2,KL.stays w hk,MapKept.run_setObj_map _ hg,Result.andThen,ChangeMaps.setBlock]
  .have:=hG.nodup
   simpa using this
  .have:e.born∈ms.toList.map (·.born):=by rw[<-bn];exact eo.2 ⟨e,he,rfl⟩
   obtain⟨e1,h5,h6⟩:=eo.1 this;rw[<-h6];exact hG.lt e1 h5
end
def aJg(w:World)(b g:Nat)(es rest:List KV):Prop:=∃ms c seen,w.heap[g]?=some (.map ms c)/\El ms c es/\w.heap[b]?=some (.mapIter (some g) c seen c)/\(kvs (ms.toList.filter λe=>!seen.contains e.born)).Perm rest
section
variable{P:Program}{w:World}{b g:Nat}{es rest:List KV}
def aJg.begin{ms:Array MapEntry}{c:Nat}(hb:w.heap[g]?=some (.map ms c))(hG:El ms c es):aJg (w.alloc (.mapIter (some g) c #[] c)) w.heap.size g es es:=by
 have hlt:g<w.heap.size:=(oP.1 hb).1;refine⟨ms,c,#[],?_,hG,heap_alloc_new w _,?_⟩
 .rw[heap_alloc_old w _ hlt,hb]
 .have:(ms.toList.filter λe=>!(#[]:Array Nat).contains e.born)=ms.toList:=Fq.2 λx _=>by simp
  rw[this,hG.kv]
def aJg.mod{w':World}{S:Nat->Prop}(h:aJg w b g es rest)(hm:Mod S w w')(h1:¬S b)(h2:¬S g):aJg w' b g es rest:=by obtain⟨ms,c,seen,a1,a2,a3,a4⟩:=h;exact⟨ms,c,seen,(hm.block g (oP.1 a1).1 h2).trans a1,a2,(hm.block b (oP.1 a3).1 h1).trans a3,a4⟩
def aJg.map(h:aJg w b g es rest):dU w g es:=by obtain⟨ms,c,seen,a1,a2,_⟩:=h;exact⟨ms,c,a1,a2⟩
def apJ(P:Program){w:World}{b g c:Nat}{seen:Array Nat}(hb:w.heap[b]?=some (.mapIter (some g) c seen c))(o:Obj):(setObj b o).run P w=.ok () (ChangeMaps.setBlock w b o):=by simp only[setObj,Sem.run,hb];rfl
def aco(h:aJg w b g es rest):
  (rest=[]/\∀ty,(Instr.next (.pointer (some ⟨b,0,none⟩)) false ty).run P w=.ok (.tuple #[.bool false]) w)\/
  ∃k x rest' w',rest.Perm ((k,x)::rest')/\(k,x)∈es/\(∀ty,(Instr.next (.pointer (some ⟨b,0,none⟩)) false ty).run P w=.ok (.tuple #[.bool true,k,x]) w')/\(Instr.entry (.pointer (some ⟨b,0,none⟩))).run P w'=.ok (.tuple #[k,x]) w'/\aJg w' b g es rest'/\Mod (λi=>i=b) w w'/\w'.heap.size=w.heap.size:=by
 obtain⟨ms,c,seen,hg,hG,hb,hp⟩:=h;have oI:b<w.heap.size:=(oP.1 hb).1;have hne:g≠b:=by rintro rfl;rw[hg]at hb;cases hb
 have hold:∀x∈ms.toList,x.born<c:=hG.lt;have e0:(ms.toList.filter λe=>!seen.contains e.born)=(ms.filter λe=>!seen.contains e.born).toList:=by simp
 rw[e0]at hp;have hmem:∀x∈(ms.filter λe=>!seen.contains e.born).toList,x∈ms.toList/\(!seen.contains x.born)=true:=λx hx=>by simpa using hx
 have hnd:((ms.filter λe=>!seen.contains e.born).toList.map (·.born)).Nodup:=by rw[<-e0];exact(List.filter_sublist.map _).nodup hG.born
 have run:∀ty,(Instr.next (.pointer (some ⟨b,0,none⟩)) false ty).run P w=((do
   let left:=ms.filter λe=>!seen.contains e.born
   let old:=left.filter (·.born<c)
   let new:=left.filter (·.born≥c)
   let candidates:=(if old.isEmpty then#[none]else#[])++(old++new).map some
   match candidates[<-choose (.mapNext candidates.size)]? with
   |some (some e)=>
    setObj b (.mapIter (some g) c (seen.push e.born) c)
    pure (.tuple #[.bool true,e.key,e.val])
   |some none=>pure (.tuple #[.bool false])
   |none=>stuck "Next: no such candidate"):Sem Value).run P w:=by
  intro ty;simp only[Instr.next,getObj,Sem.run_bind,Sem.run,hb,hg,Result.andThen,next_test_false seen ms c c hold (aW _),kP,iR];rfl
 simp only[run];generalize hL:(ms.filter λe=>!seen.contains e.born)=L at*;have e1:L.filter (λx=>decide (x.born<c))=L:=Array.filter_eq_self.2 (λx hx=>by simpa using hold x (hmem x (by simpa using hx)).1);have e2:L.filter (λx=>decide (x.born≥c))=#[]:=by rw[Array.filter_eq_empty_iff];intro x hx;have:=hold x (hmem x (by simpa using hx)).1;simp;omega
 simp only[e1,e2,Array.append_empty]
 by_cases h0:L.size=0
 ·left
  have:L=#[]:=Array.eq_empty_of_size_eq_zero h0;subst this;refine⟨by simpa[kvs]using hp.symm,λ_=>?_⟩;simp[choose,Sem.run,Question.forced]
 ·right
  have agw:L.isEmpty=false:=by simp[Array.isEmpty,h0]
  simp only[agw,kP,iR,XU,Array.size_map];have hch:∃(j:Nat) (w1:World),j<L.size/\(w1=w\/w1=w.drew)/\(choose (Question.mapNext L.size)).run P w=.ok j w1:=by
   by_cases hf:L.size<=1
   .exact⟨0,w,by omega,.inl rfl,by simp[choose,Sem.run,Question.forced,hf]⟩
   .exact⟨_,w.drew,FZ _ (by omega),.inr rfl,by simp only[choose,Sem.run,Question.forced,kQ,hf,iR,Question.cut];rfl⟩
  obtain⟨j,w1,hj,hw1,hrun⟩:=hch;have hh:w1.heap=w.heap:=by rcases hw1 with rfl|rfl<;>rfl
  have jg:w1.heap[b]?=some (.mapIter (some g) c seen c):=by rw[hh];exact hb
  have Cn:w1.heap[g]?=some (.map ms c):=by rw[hh];exact hg
  have azb:b<w1.heap.size:=by rw[hh];exact oI
  have aId:Mod (λi=>i=b) w w1:=by
   rcases hw1 with rfl|rfl
   .exact Mod.refl _ _
   .exact(Mod.refl _ _).drew
  have hjm:L[j]∈L.toList:=by simp
  have hset:∀o',(setObj b o').run P w1=.ok () (ChangeMaps.setBlock w1 b o'):=λo'=>apJ P jg o';have VK:(ChangeMaps.setBlock w1 b (.mapIter (some g) c (seen.push L[j].born) c)).heap[b]?=some (.mapIter (some g) c (seen.push L[j].born) c):=S6 azb _;have VL:(ChangeMaps.setBlock w1 b (.mapIter (some g) c (seen.push L[j].born) c)).heap[g]?=some (.map ms c):=by rw[<-Cn];exact(LB w1 b _).block g (oP.1 Cn).1 (λe=>hne e)
  have uQ:(kvs L.toList).Perm ((L[j].key,L[j].val)::kvs (ms.toList.filter λe=>!(seen.push L[j].born).contains e.born)):=by
   have e3:∀n:Nat,(ms.toList.filter λe=>!(seen.push n).contains e.born)=L.toList.filter λe=>!(e.born==n):=by intro n;rw[<-hL];simp only[Array.toList_filter,List.filter_filter];apply J0;intro x _;simp only[Array.contains_push];cases(x.born==n)<;>simp
   rw[e3];have:L.toList.Perm (L[j]::L.toList.filter λe=>!(e.born==L[j].born)):=by
    clear hp hrun hset VK VL e3 e1 e2 agw h0 e0 run hL;generalize L[j]=e at*;generalize L.toList=l at*;clear hmem
    induction l with
    |nil=>cases hjm
    |cons x l ih=>
     have hn2:x.born∉l.map (·.born)/\(l.map (·.born)).Nodup:=P8.1 hnd;rcases iQ.1 hjm with rfl|hm
     .have:(l.filter λe'=>!(e'.born==e.born))=l:=Fq.2 λy hy=>by
       have:y.born≠e.born:=λe'=>hn2.1 (by rw[<-e'];exact eo.2 ⟨y,hy,rfl⟩);simp[this]
      simp[this]
     .have:x.born≠e.born:=λe'=>hn2.1 (by rw[e'];exact eo.2 ⟨e,hm,rfl⟩)
      rw[PU,aR (by simp[this])];exact((ih hn2.2 hm).cons x).trans (List.Perm.swap ..)
   exact this.map _
  refine⟨L[j].key,L[j].val,_,ChangeMaps.setBlock w1 b (.mapIter (some g) c (seen.push L[j].born) c),hp.symm.trans uQ,?_,λ_=>?_,?_,⟨ms,c,_,VL,hG,VK,List.Perm.refl _⟩,Mod.trans aId (LB _ _ _) (λ_ h=>h) (λ_ _ h=>h),by simp[ChangeMaps.setBlock,hh]⟩
  .rw[<-hG.kv]
   exact eo.2 ⟨L[j],(hmem _ hjm).1,rfl⟩
  .simp only[hrun,Array.getElem?_map,Array.getElem?_eq_getElem hj,FE,Sem.run_bind,hset,Result.andThen]
   rfl
  .have hf:ms.find? (·.born==L[j].born)=some L[j]:=by rw[<-Array.find?_toList];exact find_born L[j] ms.toList hG.born (hmem _ hjm).1
   simp only[Instr.entry,getObj,Sem.run_bind,Sem.run,VK,VL,Result.andThen,Array.back?_push,bne_self_eq_false,kP,iR,hf];rfl
end
end Go.Proofs.YtihaaoehhgmphaaGreatDoor
namespace Go.Proofs.YtihaaoehhgmphaaGreatDoor
open IntKind Go.RowKit Vc
set_option maxRecDepth 100000
variable{w:World}
structure aIR where
 k:Int
 m:Int
 d:ag
abbrev Tree:=List (ag×aIR)
def B5:aIR:=⟨0,0,[]⟩
def aIr:Tree->ag->aIR
 |[],_=>B5
 |(q,e)::r,p=>if q=p then e else aIr r p
def ij(T:Tree)(p:ag):aIR:=if p=[]then⟨2,7,[]⟩else aIr T p
def qB:Tree->ag->aIR->Tree
 |[],p,e=>[(p,e)]
 |(q,x)::r,p,e=>if q=p then(p,e)::r else(q,x)::qB r p e
def u0(e:aIR):List Value:=[.int .i64 e.k,.int .i64 e.m,.string (S e.d)]
def aJ2(e:aIR):Value:=.agg ⟨u0 e⟩
def ri(T:Tree):List KV:=T.map λx=>(.string (S x.1),aJ2 x.2)
structure AV(e:aIR):Prop where
 k:e.k=0\/e.k=1\/e.k=2
 m:0<=e.m/\e.m<=7
 d:e.d.length<=200000
def yN(T:Tree):Prop:=∀x∈T,x.1.length<=1000/\AV x.2
def auu:AV B5:=⟨.inl rfl,by decide,by decide⟩
def adF:∀{T:Tree},yN T->∀p,AV (aIr T p)
 |[],_,_=>auu
 |(q,e)::r,h,p=>by
  unfold aIr;split
  .exact(h (q,e) (by simp)).2
  .exact adF (λx hx=>h x (by simp[hx])) p
def TL{T:Tree}(h:yN T)(p:ag):AV (ij T p):=by
 unfold ij;split
 .exact⟨.inr (.inr rfl),by decide,by decide⟩
 .exact adF h p
def Ln:∀{T:Tree} {p:ag} {e:aIR} {x:ag×aIR},x∈qB T p e->x=(p,e)\/x∈T
 |[],p,e,x,h=>.inl (aIA.1 h)
 |(q,y)::r,p,e,x,h=>by
  unfold qB at h;split at h
  .rcases iQ.1 h with h|h
   .exact .inl h
   .exact .inr (O6 _ h)
  .rcases iQ.1 h with h|h
   .exact .inr (by rw[h];simp)
   .rcases Ln h with h|h
    .exact .inl h
    .exact .inr (O6 _ h)
def av1{T:Tree}(h:yN T){p:ag}{e:aIR}(hp:p.length<=1000)(he:AV e):yN (qB T p e):=λx hx=>by
 rcases Ln hx with rfl|hx
 .exact⟨hp,he⟩
 .exact h x hx
def abp:∀{T:Tree} {p:ag},(∀x∈T,x.1≠p)->aIr T p=B5
 |[],_,_=>rfl
 |(q,e)::r,p,h=>by unfold aIr;rw[aL (h (q,e) (by simp))];exact abp λx hx=>h x (by simp[hx])
def acp:∀{T:Tree} {p:ag} {e:aIR},(T.map Prod.fst).Nodup->(p,e)∈T->aIr T p=e
 |(q,x)::r,p,e,hn,h=>by
  rw[fW,P8]at hn;unfold aIr;rcases iQ.1 h with h|h
  .obtain⟨rfl,rfl⟩:=aKK h
   rw[aR rfl]
  .have:q≠p:=λe'=>hn.1 (by rw[e'];exact eo.2 ⟨_,h,rfl⟩)
   rw[aL this];exact acp hn.2 h
def abq:∀{T:Tree} {p:ag} {e:aIR},(∀x∈T,x.1≠p)->qB T p e=T++[(p,e)]
 |[],_,_,_=>rfl
 |(q,x)::r,p,e,h=>by unfold qB;rw[aL (h (q,x) (by simp)),abq λy hy=>h y (by simp[hy])];rfl
def acq:∀{T1 T2:Tree} {p:ag} {e x:aIR},(∀y∈T1,y.1≠p)->qB (T1++(p,x)::T2) p e=T1++(p,e)::T2
 |[],T2,p,e,x,_=>by simp[qB]
 |(q,y)::r,T2,p,e,x,h=>by rw[FB,qB,aL (h (q,y) (by simp)),acq λz hz=>h z (by simp[hz])];rfl
def ZM{β:Type}:∀{T:List (ag×β)} {p:ag},(∃x∈T,x.1=p)->∃T1 x T2,T=T1++(p,x)::T2/\∀y∈T1,y.1≠p
 |[],p,h=>by obtain⟨x,hx,_⟩:=h;cases hx
 |(q,y)::r,p,h=>by
  by_cases hq:q=p
  .subst hq
   exact⟨[],y,r,rfl,by simp⟩
  .obtain⟨x,hx,e⟩:=h
   rcases iQ.1 hx with rfl|hx
   .exact absurd e hq
   .obtain⟨T1,x2,T2,e1,e2⟩:=ZM ⟨x,hx,e⟩
    exact⟨(q,y)::T1,x2,T2,by rw[e1];rfl,λz hz=>by
     rcases iQ.1 hz with rfl|hz
     .exact hq
     .exact e2 z hz⟩
def str_inj{a b:ag}(h:Value.string (S a)=.string (S b)):a=b:=by injection h with h;have:=gK ByteArray.toList h;simpa[xN]using this
def aJp{t:TypeId}{s:ag}(ht:Tryz.prog.underlying t=some .string)(hs:s.length<=maxLen):keyOf aM t (.string (S s))=some (.string s):=WideMaps.keyOf_string_mk ht hs
def qs{s:ag}(h:s.length<=1000):s.length<=maxLen:=by simp only[maxLen];omega
abbrev b6:TypeId:=9
def wB:WideMaps.KeyLaw aM b6:=WideMaps.string_law rfl
def aLF:Tryz.prog.underlying QW=some (.map b6 qp):=rfl
def auv(w:World):(zeroValue qp).run aM w=.ok (aJ2 B5) w:=rfl
def RX{T:Tree}(h:yN T):∀p∈ri T,∃l,keyOf aM b6 p.1=some l:=λp hp=>by obtain⟨x,hx,rfl⟩:=eo.1 hp;exact⟨_,aJp rfl (qs (h x hx).1)⟩
def aqM{T:Tree}{g:Nat}(h:dU w g (ri T)):(T.map Prod.fst).Nodup:=by
 obtain⟨ms,c,_,hG⟩:=h;have:=hG.nodup;have e:(ri T).map Prod.fst=(T.map Prod.fst).map λp=>Value.string (S p):=by simp[ri,Dm,Function.comp_def]
 rw[e]at this;exact List.Pairwise.of_map (λp=>Value.string (S p)) (λa b h e=>h (by rw[e])) this
def asv{T:Tree}{g:Nat}(h:dU w g (ri T))(ok:yN T){p:ag}(hp:p.length<=1000):(Instr.lookup QW (.map (some g)) (.string (S p)) false).run aM w=.ok (aJ2 (aIr T p)) w:=by
 rcases DI wB aLF (auv w) h (aJp rfl (qs hp)) (RX ok) false with⟨v,h1,h2⟩|⟨h1,h2⟩
 .obtain⟨x,hx,e⟩:=eo.1 h1
  obtain⟨e1,rfl⟩:=aKK e;have e1:=str_inj e1;rw[acp (e:=x.2) (aqM h) (by rw[<-e1];exact hx)];exact h2
 .rw[abp λx hx e=>h1 _ (eo.2 ⟨x,hx,rfl⟩) (by rw[e])]
  exact h2
def auw{T:Tree}{g:Nat}(h:dU w g (ri T))(ok:yN T){p:ag}(hp:p.length<=1000)(e:aIR):
  ∃w',(Instr.mapUpdate QW (.map (some g)) (.string (S p)) (aJ2 e)).run aM w=.ok () w'/\dU w' g (ri (qB T p e))/\Mod (λk=>k=g) w w'/\w'.heap.size=w.heap.size:=by
 by_cases hx:∃x∈T,x.1=p
 .obtain⟨T1,x,T2,rfl,h1⟩:=ZM hx
  rw[acq h1];have ek:=RX ok;simp only[ri,qX,fW]at h ek⊢;exact aeC wB aLF h (aJp rfl (qs hp)) ek _
 .have hn:∀x∈T,x.1≠p:=λx h e=>hx ⟨x,h,e⟩
  rw[abq hn];have:=L5 wB aLF h (aJp rfl (qs hp)) (RX ok) (λq hq e'=>by obtain⟨x,hx,rfl⟩:=eo.1 hq;exact hn x hx (str_inj e')) (aJ2 e);simpa[ri]using this
abbrev Nx:=ag×Bool
def Em(f:Nx):Value:=.agg ⟨[.string (S f.1),.bool f.2]⟩
def ao0{d:Nat}{t:TypeId}{s:List UInt8}(ht:Tryz.prog.underlying t=some .string)(hs:(S s).size<=maxLen):∃l,Tryz.prog.keyLits (d+1) t [.string (S s)]=some l:=by unfold Program.keyLits;rw[ht];exact⟨_,aR hs⟩
def keyLits_bool'{d:Nat}{t:TypeId}{b:Bool}(ht:Tryz.prog.underlying t=some .bool):∃l,Tryz.prog.keyLits (d+1) t [.bool b]=some l:=by unfold Program.keyLits;rw[ht];exact⟨_,rfl⟩
set_option maxRecDepth 100000 in
def aqN:∃f1 f2:Field,Tryz.prog.underlying aJe=some (.struct #[f1,f2])/\f1.offset=0/\f2.offset=1/\Tryz.prog.underlying f1.type=some .string/\Tryz.prog.underlying f2.type=some .bool/\Tryz.prog.cellsOf f1.type=1/\Tryz.prog.cellsOf f2.type=1/\(#[f1,f2].all (·.name != "_"))=true:=
 ⟨_,_,rfl,rfl,rfl,rfl,rfl,rfl,rfl,by simp⟩
def adG{f:Nx}(ht:f.1.length<=1000):∃lk,keyOf aM aJe (Em f)=some lk:=by
 obtain⟨t,n⟩:=f;obtain⟨f1,f2,hu,e1,e2,u1,u2,c1,c2,ha⟩:=aqN;have hk:Tryz.prog.keyType aJe=true:=by kernel_rfl
 have hc:Tryz.prog.cellsOf aJe=2:=by kernel_rfl
 have hf:(Em (t,n)).formed aM aJe=true:=by simp only[Em,Value.formed,hu,hc];rfl
 have hs:(S t).size<=maxLen:=qs ht;obtain⟨l1,h1⟩:=ao0 (d:=Tryz.prog.types.size-1) u1 hs;obtain⟨l2,h2⟩:=keyLits_bool' (d:=Tryz.prog.types.size-1) (b:=n) u2;have hsz:Tryz.prog.types.size=Tryz.prog.types.size-1+1:=by
  have:0<Tryz.prog.types.size:=XW λh=>by
   have hx:Nat.ble 1 Tryz.prog.types.size=true:=by kernel_rfl
   rw[h]at hx;cases hx
  omega
 have hl:∃ls,Tryz.prog.keyLits (Tryz.prog.types.size+1) aJe [.string (S t),.bool n]=some ls:=by
  have e0:Tryz.prog.keyLits (Tryz.prog.types.size+1) aJe [.string (S t),.bool n]=([f1,f2].mapM λf=>Tryz.prog.keyLits Tryz.prog.types.size f.type ((([Value.string (S t),.bool n]:List Value).drop f.offset).take (Tryz.prog.cellsOf f.type))).map List.flatten:=by
   conv=>lhs;unfold Program.keyLits
   rw[hu];exact aR ⟨by rw[hc];rfl,ha⟩
  refine⟨([l1,l2]:List (List Lit)).flatten,e0.trans ?_⟩;rw[aKt,e1,c1];have a1:Tryz.prog.keyLits Tryz.prog.types.size f1.type [.string (S t)]=some l1:=by rw[hsz];exact h1
  have a2:Tryz.prog.keyLits Tryz.prog.types.size f2.type [.bool n]=some l2:=by rw[hsz];exact h2
  have b2:([f2].mapM λf=>Tryz.prog.keyLits Tryz.prog.types.size f.type ((([Value.string (S t),.bool n]:List Value).drop f.offset).take (Tryz.prog.cellsOf f.type)))=some [l2]:=by
   rw[aKt,e2,c2];show(do let y<-Tryz.prog.keyLits Tryz.prog.types.size f2.type [.bool n];_)=_
   rw[a2];rfl
  rw[b2];show Option.map List.flatten (do let y<-Tryz.prog.keyLits Tryz.prog.types.size f1.type [.string (S t)];_)=_
  rw[a1];rfl
 obtain⟨ls,hl⟩:=hl;unfold keyOf;rw[hu];exact⟨.string (keyBytes ls),(aR (by rw[hk,hf];rfl)).trans (by show Option.map _ (Tryz.prog.keyLits (Tryz.prog.types.size+1) aJe [.string (S t),.bool n])=_;rw[hl];rfl)⟩
set_option maxRecDepth 100000 in
def adH:WideMaps.KeyLaw aM aJe:=deep_law (m:=3) (by decide) (by kernel_rfl) (by kernel_rfl) (by kernel_rfl)
def aeD:Tryz.prog.underlying aki=some (.map aJe b6):=rfl
def TM:Tryz.prog.underlying P5=some (.map b6 4):=rfl
def En(l:List (Nx×ag)):List KV:=l.map λx=>(Em x.1,.string (S x.2))
def mU(l:List ag):List KV:=l.map λx=>(.string (S x),.bool true)
def adI{l:List (Nx×ag)}(h:∀x∈l,x.1.1.length<=1000):∀p∈En l,∃lk,keyOf aM aJe p.1=some lk:=λp hp=>by obtain⟨x,hx,rfl⟩:=eo.1 hp;exact adG (h x hx)
def S7{l:List ag}(h:∀x∈l,x.length<=1000):∀p∈mU l,∃lk,keyOf aM b6 p.1=some lk:=λp hp=>by obtain⟨x,hx,rfl⟩:=eo.1 hp;exact⟨_,aJp rfl (qs (h x hx))⟩
end Go.Proofs.YtihaaoehhgmphaaGreatDoor
namespace Go.Proofs.YtihaaoehhgmphaaGreatDoor
open IntKind Go.RowKit Vc
inductive Pr(α:Type)where
 |ok(n:α)
 |bad(k:Nat)
def aJh(c:UInt8):Nat:=(c|||32).toNat
def aI3(c:UInt8):Option Nat:=if 48<=c.toNat/\c.toNat<=57 then some (c.toNat-48)else if 97<=aJh c/\aJh c<=122 then some (aJh c-97+10)else none
def kX(b:Nat):ag->Nat->Pr Nat
 |[],n=>.ok n
 |c::s,n=>match aI3 c with
  |none=>.bad 2
  |some d=>if b<=d then .bad 2 else if 18446744073709551615<n*b+d then .bad 1 else kX b s (n*b+d)
def gW(b:Nat)(s:ag):Pr Nat:=if s=[]then .bad 2 else kX b s 0
def signed(neg:Bool)(r:Pr Nat):Pr Int:=match r with
 |.bad k=>.bad k
 |.ok n=>if neg=true then(if 9223372036854775808<n then .bad 1 else .ok (-(n:Int)))else if 9223372036854775808<=n then .bad 1 else .ok (n:Int)
def jl(b:Nat)(s:ag):Pr Int:=match s with
 |[]=>.bad 2
 |c::t=>if c=43 then signed false (gW b t)else if c=45 then signed true (gW b t)else signed false (gW b (c::t))
def abr{b:Nat}:∀{s:ag} {n k:Nat},kX b s n=.bad k->k=1\/k=2
 |[],n,k,h=>by cases h
 |c::s,n,k,h=>by
  simp only[kX]at h;split at h
  .injection h with h;exact .inr h.symm
  .split at h
   .injection h with h;exact .inr h.symm
   .split at h
    .injection h with h;exact .inl h.symm
    .exact abr h
def acr{b:Nat}:∀{s:ag} {n m:Nat},n<=18446744073709551615->kX b s n=.ok m->m<=18446744073709551615
 |[],n,m,hn,h=>by injection h with h;omega
 |c::s,n,m,hn,h=>by
  simp only[kX]at h;split at h
  .cases h
  .split at h
   .cases h
   .split at h
    .cases h
    .exact acr (by omega) h
def RB{b:Nat}{s:ag}{k:Nat}(h:gW b s=.bad k):k=1\/k=2:=by
 unfold gW at h;split at h
 .injection h with h;exact .inr h.symm
 .exact abr h
def asw{b:Nat}{s:ag}{m:Nat}(h:gW b s=.ok m):m<=18446744073709551615:=by
 unfold gW at h;split at h
 .cases h
 .exact acr (by decide) h
def aal{neg:Bool}{r:Pr Nat}{k:Nat}(hr:∀j,r=.bad j->j=1\/j=2)(h:signed neg r=.bad k):k=1\/k=2:=by
 unfold signed at h;split at h
 .injection h with h
  subst h;exact hr _ rfl
 .split at h
  .split at h
   .injection h with h;exact .inl h.symm
   .cases h
  .split at h
   .injection h with h;exact .inl h.symm
   .cases h
def aam{b:Nat}{s:ag}{k:Nat}(h:jl b s=.bad k):k=1\/k=2:=by
 unfold jl at h;split at h
 .injection h with h;exact .inr h.symm
 .split at h
  .exact aal (λ_=>RB) h
  .split at h<;>exact aal (λ_=>RB) h
def Zm{neg:Bool}{r:Pr Nat}{n:Int}(h:signed neg r=.ok n): -9223372036854775808<=n/\n<9223372036854775808:=by
 unfold signed at h;split at h
 .cases h
 .split at h
  .split at h
   .cases h
   .injection h with h;omega
  .split at h
   .cases h
   .injection h with h;omega
def Zn{b:Nat}{s:ag}{n:Int}(h:jl b s=.ok n): -9223372036854775808<=n/\n<9223372036854775808:=by
 unfold jl at h;split at h
 .cases h
 .split at h
  .exact Zm h
  .split at h<;>exact Zm h
def gP(c:UInt8):Bool:=decide (48<=c.toNat)&&decide (c.toNat<=57)
def acs{c:UInt8}(h:gP c=true):aI3 c=some (c.toNat-48):=by unfold gP at h;simp only[eC,kQ]at h;unfold aI3;rw[aR h]
def aID(s:ag)(n:Nat):Nat:=s.foldl (λn c=>n*10+(c.toNat-48)) n
def abt(s:ag)(c:UInt8)(n:Nat):aID (s++[c]) n=aID s n*10+(c.toNat-48):=by simp[aID]
def aan:∀{s:ag},s.all gP=true->∀n,aID s n<(n+1)*10^s.length
 |[],_,n=>by simp[aID]
 |c::s,h,n=>by
  simp only[zq,eC]at h;have ih:=aan h.2 (n*10+(c.toNat-48));have hd:=h.1;unfold gP at hd;simp only[eC,kQ]at hd;have h2:(n*10+(c.toNat-48)+1)*10^s.length<=((n+1)*10)*10^s.length:=O5 _ (by omega);have e:(n+1)*10^(c::s).length=((n+1)*10)*10^s.length:=by rw[bf,Qx,Nat.mul_assoc,Kv 10]
  rw[e];exact mK ih h2
def adJ:∀(s:ag) (n:Nat),n<=aID s n
 |[],n=>aW _
 |c::s,n=>by
  have:=adJ s (n*10+(c.toNat-48));show n<=aID s (n*10+(c.toNat-48))
  omega
def aao:∀{s:ag} {n:Nat},s.all gP=true->aID s n<=18446744073709551615->kX 10 s n=.ok (aID s n)
 |[],n,_,_=>rfl
 |c::s,n,h,hv=>by simp only[zq,eC]at h;have hd:=h.1;have hv':aID s (n*10+(c.toNat-48))<=18446744073709551615:=hv;have hge:=adJ s (n*10+(c.toNat-48));simp only[kX,acs hd];unfold gP at hd;simp only[eC,kQ]at hd;rw[aL (by omega),aL (by omega)];exact aao h.2 hv'
abbrev dec(n:Nat):ag:=Lib.decDigits n
def aKU{n:Nat}(h:n<10):dec n=[UInt8.ofNat (48+n)]:=Lib.decDigits_one h
def GA{n:Nat}(h:¬n<10):dec n=dec (n/10)++[UInt8.ofNat (48+n%10)]:=by
 conv=>lhs;unfold dec;rw[Lib.decDigits]
 rw[dif_neg h]
def acu{d:Nat}(h:d<10):gP (UInt8.ofNat (48+d))=true/\(UInt8.ofNat (48+d)).toNat-48=d:=by
 have e:(UInt8.ofNat (48+d)).toNat=48+d:=by rw[Px];omega
 unfold gP;rw[e];constructor
 .simp;omega
 .omega
def aeE(n:Nat):dec n≠[]:=by
 rcases aJd n 10 with h|h
 .rw[aKU h];simp
 .rw[GA (by omega)];simp
def auy:∀n:Nat,(dec n).all gP=true/\aID (dec n) 0=n:=by
 intro n
 induction n using Nat.strongRecOn with
 |_ n ih=>
  rcases aJd n 10 with h|h
  .rw[aKU h]
   obtain⟨h1,h2⟩:=acu h;generalize UInt8.ofNat (48+n)=x at*;exact⟨by simp[h1],by simp[aID,h2]⟩
  .rw[GA (by omega)]
   obtain⟨i1,i2⟩:=ih (n/10) (by omega);obtain⟨h1,h2⟩:=acu (d:=n%10) (by omega);generalize UInt8.ofNat (48+n%10)=x at*;refine⟨by rw[List.all_append,i1];simp[h1],?_⟩;rw[abt,i2,h2];omega
def nT(s:ag):Option Nat:=if s≠[]/\s.length<=9/\s.all gP=true/\(s.head?=some 48->s.length=1)then some (aID s 0)else none
def abu{α:Type}:∀{l:List α},l≠[]->∃t x,l=t++[x]
 |[],h=>absurd rfl h
 |[a],_=>⟨[],a,rfl⟩
 |a::b::l,_=>by obtain⟨t,x,h⟩:=abu (l:=b::l) (by simp);exact⟨a::t,x,by rw[h];rfl⟩
def av2:∀(k:Nat) (s:ag),s.length=k->s≠[]->s.all gP=true->(s.head?=some 48->s.length=1)->dec (aID s 0)=s:=by
 intro k
 induction k with
 |zero=>intro s hl h;exact absurd (mH hl) h
 |succ k ih=>
  intro s hl hne hd hz;obtain⟨t,x,rfl⟩:=abu hne;rw[List.all_append]at hd;simp only[zq,List.all_nil,Bool.and_true,eC]at hd;obtain⟨ht,hx⟩:=hd;have hx':=hx;unfold gP at hx';simp only[eC,kQ]at hx';have ex:UInt8.ofNat (48+(x.toNat-48))=x:=by
   have:48+(x.toNat-48)=x.toNat:=by omega
   rw[this];simp
  rw[abt];rcases Qy (t=[])with rfl|htn
  .simp only[aID,List.foldl_nil,Dl,cE,zm]
   rw[aKU (by omega),ex]
  .have htl:t.length=k:=by simpa using hl
   have Ny:t.head?=some 48->t.length=1:=by
    intro h0;have h1:(t++[x]).head?=some 48:=by
     cases t with
     |nil=>exact absurd rfl htn
     |cons a t=>simpa using h0
    have:=hz h1;have h2:t.length≠0:=λe=>htn (mH e);simp only[aIa,bf,cm]at this;omega
   have Nz:=ih t htl htn ht Ny;have hpos:0<aID t 0:=by
    rcases pK (aID t 0)with e|e
    .rw[e,aKU (by decide)]at Nz
     have h1:(t++[x]).head?=some 48:=by rw[<-Nz];rfl
     have:=hz h1;rw[<-Nz]at this;simp at this
    .exact e
   rw[GA (by omega)];have e1:(aID t 0*10+(x.toNat-48))/10=aID t 0:=by omega
   have e2:(aID t 0*10+(x.toNat-48))%10=x.toNat-48:=by omega
   rw[e1,e2,Nz,ex]
def auz{n:Nat}(h:(dec n).length<=9):nT (dec n)=some n:=by
 obtain⟨h1,h2⟩:=auy n;have hz:(dec n).head?=some 48->(dec n).length=1:=by
  intro h0;rcases aJd n 10 with h|h
  .rw[aKU h];rfl
  .exfalso
   have key:∀m:Nat,10<=m->(dec m).head?≠some 48:=by
    intro m
    induction m using Nat.strongRecOn with
    |_ m ih=>
     intro hm;rw[GA (by omega)];rcases aJd (m/10) 10 with h1|h1
     .rw[aKU h1]
      intro e;have e:UInt8.ofNat (48+m/10)=48:=by simpa using e
      have:=gK UInt8.toNat e;rw[Px]at this;simp at this;omega
     .have:=ih (m/10) (by omega) h1
      cases hd:dec (m/10)with
      |nil=>exact absurd hd (aeE _)
      |cons a t=>rw[hd]at this;simpa using this
   exact key n h h0
 unfold nT;rw[aR ⟨aeE n,h,h1,hz⟩,h2]
def abv{s:ag}{n:Nat}(h:nT s=some n):dec n=s/\s.length<=9:=by
 unfold nT at h;split at h
 .rename_i hc
  injection h with h;subst h;exact⟨av2 _ s rfl hc.1 hc.2.2.1 hc.2.2.2,hc.2.1⟩
 .cases h
def RC{s:ag}{n:Nat}(h:nT s=some n):jl 10 s=.ok (n:Int):=by
 unfold nT at h;split at h
 .rename_i hc
  injection h with h;subst h;have hb:=aan hc.2.2.1 0;have hp:10^s.length<=10^9:=O7 (by decide) hc.2.1;have hv:aID s 0<1000000000:=by omega
  cases s with
  |nil=>exact absurd rfl hc.1
  |cons c t=>
   have hd:=hc.2.2.1;simp only[zq,eC]at hd;have hd1:=hd.1;unfold gP at hd1;simp only[eC,kQ]at hd1;have n43:c≠43:=by rintro rfl;simp at hd1
   have n45:c≠45:=by rintro rfl;simp at hd1
   simp only[jl,aL n43,aL n45];unfold gW;rw[aL (by simp),aao hc.2.2.1 (by omega)];simp only[signed,kP,iR];rw[aL (by omega)]
 .cases h
def Lo{n:Nat}(h:n<1000000000):(dec n).length<=9:=by
 have key:∀(k m:Nat),m<10^(k+1)->(dec m).length<=k+1:=by
  intro k
  induction k with
  |zero=>intro m hm;rw[aKU (by omega)];simp
  |succ k ih=>
   intro m hm;rcases aJd m 10 with h1|h1
   .rw[aKU h1];simp
   .rw[GA (by omega),aIa]
    have:=ih (m/10) (by rw[Qx]at hm;omega);simp only[bf,cm];omega
 exact key 8 n (by omega)
def colon(s:ag):Nat:=(s.takeWhile (λc=>c !=58)).length
def step(s:ag):Option (ag×ag):=match nT (s.take (colon s))with
 |none=>none
 |some n=>if s[colon s+1+n]?=some 44 then some ((s.drop (colon s+1)).take n,s.drop (colon s+2+n))else none
def agx:Nat->ag->List ag->Option (List ag)
 |0,_,_=>none
 |f+1,s,acc=>if s=[]then some acc else match step s with
  |none=>none
  |some (x,r)=>agx f r (acc++[x])
def decode(s:ag):Option (List ag):=agx (s.length+1) s []
def one(x:ag):ag:=((dec x.length++[58])++x)++[44]
def encode(l:List ag):ag:=(l.map one).flatten
def aow(l m:List ag):encode (l++m)=encode l++encode m:=by simp[encode]
def apK(x:ag)(m:List ag):encode (x::m)=one x++encode m:=by simp[encode]
def total(l:List ag):Nat:=(l.map λx=>x.length+1).sum
def RD(x:ag)(l:List ag):total (x::l)=x.length+1+total l:=by simp[total]
def aox(l:List ag)(k:Nat):total (l.take k)<=total l:=by
 have:=gK total (oQ k l);have h:∀a b:List ag,total (a++b)=total a+total b:=by intro a b;simp[total]
 rw[h]at this;omega
def abw{l:List ag}{x:ag}(h:x∈l):x.length+1<=total l:=by
 induction l with
 |nil=>cases h
 |cons y l ih=>
  rw[RD];rcases iQ.1 h with rfl|h
  .omega
  .have:=ih h
   omega
def ao1(l:List ag):l.length<=total l:=by
 induction l with
 |nil=>simp[total]
 |cons y l ih=>rw[RD];simp only[bf];omega
def acv{l:List ag}(h:total l<=100000):∀x∈l,(dec x.length).length<=9:=λx hx=>Lo (by have:=abw hx;omega)
def K0{l:List ag}(h:∀x∈l,(dec x.length).length<=9):(encode l).length<=11*total l:=by
 induction l with
 |nil=>simp[encode]
 |cons x l ih=>rw[apK,RD,aIa];have:=ih (λy hy=>h y (by simp[hy]));have:=h x (by simp);simp only[one,aIa,bf,cm];omega
end Go.Proofs.YtihaaoehhgmphaaGreatDoor
namespace Go.Proofs.YtihaaoehhgmphaaGreatDoor
open IntKind Go.RowKit Vc
variable{w:World}
structure rj(w:World)(T g o B:Nat)(cs:List Value)(v:Value)(bs:List UInt8):Prop where
 row:Row w g T ⟨cs⟩
 addr:cs[o]?=some (.pointer none)\/cs[o]?=some (.pointer (some ⟨g,o,none⟩))
 buf:cs[o+1]?=some v
 own:aV w B 5 1 v bs.length (bc bs)
 ne:v.ownBlock≠some g
def Roomy(v:Value)(bs:List UInt8):Prop:=∀p c,v=.slice p bs.length c->p=none\/c≠0
structure ef(w:World)(T g o B:Nat)(cs:List Value)(v:Value)(bs:List UInt8):Prop extends rj w T g o B cs v bs where
 room:Roomy v bs
def mS(T n o:Nat):Prop:=liesAt aM Tryz.prog.depth T (n/Tryz.prog.cellsOf T) o 86 1=true
def Row.shape{g:Nat}{t:TypeId}{cs:List Value}(h:Row w g t ⟨cs⟩):w.shape? g=some (t,cs.length):=by obtain⟨fz,h,_⟩:=h;simp[World.shape?,h]
def auA:SN aM XF:=⟨_,Tryz.func163,by kernel_rfl,by kernel_rfl,by kernel_rfl,by kernel_rfl⟩
def Gq{α:Type}{l:List α}{i:Nat}{a:α}(h:l[i]?=some a):l.set i a=l:=by
 apply aJc;intro j
 by_cases hj:i=j
 .subst hj
  rw[qV (jj.1 h).1,h]
 .rw[pJ hj]
section
variable{T g o B:Nat}{cs:List Value}{v:Value}{bs:List UInt8}
def rj.roomy(h:rj w T g o B cs v bs)(hb:bs≠[]):ef w T g o B cs v bs:=by refine⟨h,λp c e=>?_⟩;have hpos:0<bs.length:=mJ.2 hb;obtain⟨g',cap,cur,hv,_,_,hcap,_⟩:=h.own.row hpos;rw[e]at hv;injection hv with _ _ AH;exact .inr (by omega)
def rj.lt(h:rj w T g o B cs v bs):o+1<cs.length:=(jj.1 h.buf).1
def ef.lt(h:ef w T g o B cs v bs):o+1<cs.length:=h.torj.lt
def ef.mod{S:Nat->Prop}{w':World}(h:ef w T g o B cs v bs)(hm:Mod S w w')(hg:¬S g)(hv:∀k,v.ownBlock=some k->¬S k):ef w' T g o B cs v bs:=
 ⟨⟨h.row.mod hm hg,h.addr,h.buf,h.own.mod hm hv,h.ne⟩,h.room⟩
def ef.still{w':World}(h:ef w T g o B cs v bs)(hm:Still w w'):ef w' T g o B cs v bs:=h.mod hm (λh=>h) (λ_ _ h=>h)
def ef.fresh(h:Row w g T ⟨cs⟩)(h0:cs[o]?=some (.pointer none))(h1:cs[o+1]?=some (.slice none 0 0)):ef w T g o B cs (.slice none 0 0) []:=
 ⟨⟨h,.inl h0,h1,aV.nil _ _ _ _,by simp[Value.ownBlock]⟩,λp c e=>by injection e with e1 _ _;exact .inl e1.symm⟩
def ef.other(h:ef w T g o B cs v bs){w':World}{cs':List Value}(hr:Row w' g T ⟨cs'⟩)(hm:Mod (λk=>k=g) w w')(h0:cs'[o]?=cs[o]?)(h1:cs'[o+1]?=cs[o+1]?):ef w' T g o B cs' v bs:=
 ⟨⟨hr,by rw[h0];exact h.addr,h1.trans h.buf,h.own.mod hm (λk hk e=>h.ne (by rw[hk,e])),h.ne⟩,h.room⟩
def QH(h:rj w T g o B cs v bs)(hl:mS T cs.length o):aH3 Jx #[.pointer (some ⟨g,o,none⟩)] w
  (λe w'=>e=.returned (.tuple #[])/\rj w' T g o B (cs.set o (.pointer (some ⟨g,o,none⟩))) v bs/\Mod (λk=>k=g) w w'/\w'.heap.size=w.heap.size):=by
 refine ajL _ _ _ ?_;have hlt:=h.lt;have hsh:=h.row.shape;rcases h.addr with h0|h0
 .refine⟨none,h.row.aj h0,aB (λ_=>?_) (λh=>by cases h)⟩
  refine⟨⟨_,_,hsh,by show o<_;omega⟩,auA,⟨_,_,hsh,hl⟩,aH5 h.row (by simp;omega) (by simp[Value.oneCell']) λw1 cG aId hz1=>⟨rfl,?_,aId,hz1⟩⟩;exact⟨cG,.inr (qV (by omega)),by show(cs.set o _)[o+1]?=_;rw[pJ (by omega)];exact h.buf,h.own.mod aId (λk hk e=>h.ne (by rw[hk,e])),h.ne⟩
 .refine⟨_,h.row.aj h0,aB (λh=>by cases h) (λ_=>⟨_,h.row.aj h0,by kernel_rfl,rfl,rfl,?_,Mod.refl _ _,rfl⟩)⟩
  rw[Gq h0];exact h
def Su{p p':Option Addr}{n n' m c c' s:Nat}(hb:aI4 p p' n' c c' s)(hn':n'=n+m)(h:∀q d,(Value.slice p n c)=.slice q n d->q=none\/d≠0){xs:List Value}{e:TypeId}{sz:Nat}(ho:aV w B e sz (.slice p' n' c') n' xs):
  ∀q d,(Value.slice p' n' c')=.slice q n' d->q=none\/d≠0:=by
 intro q d hq;injection hq with q1 _ q2;subst q1;subst q2;rcases hb with⟨rfl,rfl⟩|⟨_,h0⟩
 .exact h _ _ rfl
 .rcases ho.2 with⟨hv,h1⟩|⟨_,cap,_,hv,_,_,hc,_⟩
  .omega
  .injection hv with _ _ hv
   exact .inr (by omega)
def Kh(h:rj w T g o B cs v bs)(hl:mS T cs.length o)(s:List UInt8)(hB:B<=w.heap.size)(hs:bs.length+s.length<=140737488355328):
  aH3 iA #[.pointer (some ⟨g,o,none⟩),.string (S s)] w (λe w'=>e=.returned (.tuple #[.int .i64 (s.length:Int),.nilIface])/\
   ∃v',rj w' T g o B ((cs.set o (.pointer (some ⟨g,o,none⟩))).set (o+1) v') v' (bs++s)/\(Roomy v bs->Roomy v' (bs++s))/\Mod (λk=>k=g\/v.ownBlock=some k) w w'):=by
 refine Xk _ _ _ _ ?_;refine(QH h hl).mono ?_;rintro _ w1 ⟨rfl,h1,aId,hz1⟩;obtain⟨p,c,rfl⟩:=h1.own.form;have hlt:=h.lt;refine .inl ⟨rfl,_,_,_,by rw[bR];exact h1.row.aj h1.buf,?_⟩;refine abo h1.own (by omega) (by omega) (by omega) λp' c' w2 iX hm2 gE=>?_;have hr2:=h1.row.mod hm2 (λe=>h1.ne e);show cJ (Addr.add _ 1) _ _ _ _
 rw[bR];refine aH5 hr2 (by simp;omega) (by simp[Value.oneCell']) λw3 hr3 dD vl=>⟨rfl,_,⟨hr3,?_,?_,?_,?_⟩,?_,?_⟩
 .exact .inr (by show((cs.set o _).set (o+1) _)[o]?=_;rw[pJ (by omega),qV (by omega)])
 .exact qV (by simp;omega)
 .have hne:(Value.slice p' (bs.length+s.length) c').ownBlock≠some g:=by
   rcases gE.own (n:=bs.length)with e|e
   .rw[e];exact h1.ne
   .rw[e];have:=h1.row.lt;exact λe=>by injection e with e;omega
  have:=iX.mod dD (λk hk e=>hne (by rw[hk,e]));rw[<-DB]at this;rw[aIa];exact this
 .rcases gE.own (n:=bs.length)with e|e
  .rw[e];exact h1.ne
  .rw[e];have:=h1.row.lt;exact λe=>by injection e with e;omega
 .intro hroom
  rw[Roomy,aIa];exact Su gE rfl hroom iX
 .exact Mod.trans aId (Mod.trans hm2 dD (U:=λk=>k=g\/(Value.slice p bs.length c).ownBlock=some k) (λ_ h=>.inr h) (λ_ _ h=>.inl h)) (λ_ h=>.inl h) (λ_ _ h=>h)
def anO(h:rj w T g o B cs v bs)(hl:mS T cs.length o)(x:UInt8)(hB:B<=w.heap.size)(hs:bs.length+1<=140737488355328):
  aH3 Fi #[.pointer (some ⟨g,o,none⟩),.int .u8 (x.toNat:Int)] w (λe w'=>e=.returned .nilIface/\
   ∃v',rj w' T g o B ((cs.set o (.pointer (some ⟨g,o,none⟩))).set (o+1) v') v' (bs++[x])/\(Roomy v bs->Roomy v' (bs++[x]))/\Mod (λk=>k=g\/v.ownBlock=some k) w w'):=by
 refine ajN _ _ _ _ ?_;refine(QH h hl).mono ?_;rintro _ w1 ⟨rfl,h1,aId,hz1⟩;obtain⟨p,c,rfl⟩:=h1.own.form;have hlt:=h.lt;refine .inl ⟨rfl,_,_,_,by rw[bR];exact h1.row.aj h1.buf,aP λw1' azc AA aGy=>?_⟩;have mj:=h1.own.still AA;refine qq mj (by omega) (bc [x]) rfl (Tv _) (λ_=>⟨_,rfl,λj u hu=>?_⟩) (by omega) (by omega) λp' c' w2 iX hm2 gE=>?_
 .rw[bR,cE]
  exact azc.aj hu
 have Cn:=h1.row.lt;have hr2:=(h1.row.still AA).mod hm2 (λe=>h1.ne e);show cJ (Addr.add _ 1) _ _ _ _
 rw[bR];refine aH5 hr2 (by simp;omega) (by simp[Value.oneCell']) λw3 hr3 dD vl=>⟨rfl,_,⟨hr3,?_,?_,?_,?_⟩,?_,?_⟩
 .exact .inr (by show((cs.set o _).set (o+1) _)[o]?=_;rw[pJ (by omega),qV (by omega)])
 .exact qV (by simp;omega)
 .have hne:(Value.slice p' (bs.length+1) c').ownBlock≠some g:=by
   rcases gE.own (n:=bs.length)with e|e
   .rw[e];exact h1.ne
   .rw[e];exact λe=>by injection e with e;omega
  have:=iX.mod dD (λk hk e=>hne (by rw[hk,e]));rw[<-DB]at this;rw[aIa];exact this
 .rcases gE.own (n:=bs.length)with e|e
  .rw[e];exact h1.ne
  .rw[e];exact λe=>by injection e with e;omega
 .intro hroom
  rw[Roomy,aIa];exact Su gE rfl hroom iX
 .have azd:Mod (λk=>k=g\/(Value.slice p bs.length c).ownBlock=some k) w1 w3:=Mod.trans AA (Mod.trans hm2 dD (U:=λk=>k=g\/(Value.slice p bs.length c).ownBlock=some k) (λ_ h=>.inr h) (λ_ _ h=>.inl h)) (λ_ h=>h.elim) (λ_ _ h=>h)
  exact Mod.trans aId azd (λ_ h=>.inl h) (λ_ _ h=>h)
def aKu(h:ef w T g o B cs v bs)(hl:mS T cs.length o)(s:List UInt8)(hB:B<=w.heap.size)(hs:bs.length+s.length<=140737488355328):
  aH3 iA #[.pointer (some ⟨g,o,none⟩),.string (S s)] w (λe w'=>e=.returned (.tuple #[.int .i64 (s.length:Int),.nilIface])/\
   ∃v',ef w' T g o B ((cs.set o (.pointer (some ⟨g,o,none⟩))).set (o+1) v') v' (bs++s)/\Mod (λk=>k=g\/v.ownBlock=some k) w w'):=by
 refine(Kh h.torj hl s hB hs).mono ?_;rintro _ w' ⟨rfl,v',h1,h2,h3⟩;exact⟨rfl,v',⟨h1,h2 h.room⟩,h3⟩
def Y3(h:ef w T g o B cs v bs)(hl:mS T cs.length o)(x:UInt8)(hB:B<=w.heap.size)(hs:bs.length+1<=140737488355328):
  aH3 Fi #[.pointer (some ⟨g,o,none⟩),.int .u8 (x.toNat:Int)] w (λe w'=>e=.returned .nilIface/\
   ∃v',ef w' T g o B ((cs.set o (.pointer (some ⟨g,o,none⟩))).set (o+1) v') v' (bs++[x])/\Mod (λk=>k=g\/v.ownBlock=some k) w w'):=by
 refine(anO h.torj hl x hB hs).mono ?_;rintro _ w' ⟨rfl,v',h1,h2,h3⟩;exact⟨rfl,v',⟨h1,h2 h.room⟩,h3⟩
def xF(h:ef w T g o B cs v bs)(hs:bs.length<=140737488355328):
  aH3 qj #[.pointer (some ⟨g,o,none⟩)] w (λe w'=>e=.returned (.string (S bs))/\Mod (λk=>v.ownBlock=some k) w w'):=by
 refine ajT _ _ _ ?_;obtain⟨p,c,rfl⟩:=h.own.form;refine⟨_,_,_,by rw[bR];exact h.row.aj h.buf,h.room _ _ rfl,_,_,_,by rw[bR];exact h.row.aj h.buf,?_⟩;refine⟨bs,rfl,by omega,?_⟩;rcases Qy (bs=[])with rfl|h0
 .exact .inl ⟨rfl,rfl,(Mod.refl _ _).drew⟩
 .have hpos:0<bs.length:=mJ.2 h0
  obtain⟨g',cap,cur,hv,_,hrow,hcap,hsz,_⟩:=h.own.row hpos;injection hv with hv1 _ AH;subst hv1;subst AH;refine .inr ⟨h0,g',cur.size,rfl,by obtain⟨fz,hh,_⟩:=hrow;exact(show World.shape? w g'=_ by simp[World.shape?,hh]),by omega,λj x hx=>?_,rfl,?_⟩
  .rw[bR,cE]
   exact h.own.cells rfl j _ (DS hx)
  .unfold World.freeze
   split
   .exact(Mod.refl _ _).drew
   .exact⟨rfl,rfl,rfl,by simp,λk hk hn=>by simp only[Fk];rw[aL (λe=>hn (by rw[<-e];rfl))];rfl⟩
end
end Go.Proofs.YtihaaoehhgmphaaGreatDoor
namespace Go.Proofs.YtihaaoehhgmphaaGreatDoor
open IntKind Go.RowKit Vc
set_option maxRecDepth 100000
variable{w w0:World}
def Mod.av3{S:Nat->Prop}{a b:World}(h:Mod S a b){k:Nat}(hk:S k\/a.heap.size<=k)(o:Obj):Mod S a (b.putObj k o):=
 ⟨h.os,h.tape,h.output,by rw[World.putObj_size];exact h.size,λi hi hn=>(World.putObj_heap_other (by
  rintro rfl;rcases hk with hk|hk
  .exact hn hk
  .omega)).trans (h.block i hi hn)⟩
def D4(w:World)(k:Nat)(o:Obj):Mod (λn=>n=k) w (w.putObj k o):=(Mod.refl (λn=>n=k) w).av3 (.inl rfl) o
def aKg{k:Nat}{o:Obj}(h:w.heap[k]?=some o):k<w.heap.size:=(oP.1 h).1
def aKw{S:Nat->Prop}{w w':World}{k:Nat}{o:Obj}(h:w.heap[k]?=some o)(hm:Mod S w w')(hk:¬S k):w'.heap[k]?=some o:=(hm.block k (aKg h) hk).trans h
structure Handler(k B:Nat)(Inv:(Nat->Prop)->List ag->World->Prop):Prop where
 step:∀X d x w,d.length<1000000->Inv X d w->aK2 aM k [.string (S x)] w λe w'=>e=.returned (.bool true)/\Inv X (d++[x]) w'/\Mod (λi=>¬X i) w w'
 aze:∀X d w w',Inv X d w->Mod (λi=>X i/\B<=i) w w'->Inv X d w'
 more:∀X d w o,Inv X d w->Inv (λi=>X i\/i=w.heap.size) d (w.alloc o)
def T9(f:FuncId)(cap:List Value)(w0:World)(l:List ag)(D:Nat->Prop):Prop:=
 ∀k B Inv X w,Handler k B Inv->B<=w.heap.size->Inv X [] w->Still w0 w->(∀i,D i->X i)->aH3 f ⟨BP k::cap⟩ w λe w'=>e=.returned (.tuple #[])/\∃l' X',l'.Perm l/\Inv X' l' w'/\∀i,X i->X' i
def aJn(w:World)(b:Nat):Nat:=match w.heap[b]? with
 |some (.mapIter (some g) _ seen _)=>match w.heap[g]? with
  |some (.map ms _)=>(kvs (ms.toList.filter λe=>!seen.contains e.born)).length
  |_=>0
 |_=>0
def KU{b g:Nat}{es rest:List KV}(h:aJg w b g es rest):aJn w b=rest.length:=by obtain⟨ms,c,seen,h1,h2,h3,h4⟩:=h;unfold aJn;rw[h3];simp only[h1];exact h4.length_eq
def aqO{gm c0:Nat}{l:List ag}(hl:l.length<=1000000)(hm:dU w0 gm (mU l))(hc:Row w0 c0 P5 ⟨[.map (some gm)]⟩):
  T9 aLh [.pointer (some ⟨c0,0,none⟩)] w0 l (λi=>i=gm\/i=c0):=by
 intro k B Inv X w hH hB hI h0 hD;refine ajq _ _ _ _ ?_;have aId:=hm.still h0;refine⟨_,rfl,(hc.still h0).aj rfl,?_⟩;obtain⟨ms,c,hg,hG⟩:=aId;refine⟨gm,ms,c,rfl,hg,?_⟩;have rS:gm<w.heap.size:=aKg hg;have hI1:=hH.more X [] w (.mapIter (some gm) c #[] c) hI;have it1:=aJg.begin hg hG;generalize hw1:w.alloc (.mapIter (some gm) c #[] c)=w1 at*;have hXg:X gm:=hD _ (.inl rfl);refine⟨λms' w2=>ms'=[]/\∃d rest,aJg w2 w.heap.size gm (mU l) rest/\Inv (λi=>X i\/i=w.heap.size) d w2/\(mU d++rest).Perm (mU l),λw2=>aJn w2 w.heap.size,⟨rfl,[],mU l,it1,hI1,by simp[mU]⟩,?_⟩;rintro _ ms' w2 ⟨rfl,d,rest,it2,hI2,hp⟩;rcases aco (P:=aM) it2 with⟨rfl,hr⟩|⟨kk,x,rest',w3,uQ,hmem,hr,he,it3,m3,z3⟩
 .refine .inl ⟨w2,hr,rfl,d,_,?_,hI2,λi hi=>.inl hi⟩
  rw[zl]at hp;have e:∀q:List ag,q=(mU q).map λp=>match p.1 with
    |.string s=>s.toList
    |_=>[]:=by
   intro q
   induction q with
   |nil=>rfl
   |cons a r ih=>simp only[mU,fW,xN]at ih⊢;rw[<-ih]
  rw[e d,e l];exact hp.map _
 .obtain⟨t,ht,e⟩:=eo.1 hmem
  obtain⟨rfl,rfl⟩:=aKK e;have hI3:=hH.aze _ _ _ _ hI2 (m3.weaken λi e=>⟨.inr e,by rw[e];exact hB⟩);refine .inr ⟨_,_,w3,hr,t,.bool true,he,?_⟩;have hlen:d.length<1000000:=by have h1:=hp.length_eq;have h2:=uQ.length_eq;simp only[mU,aIa,aIB,bf]at h1 h2;omega
  obtain⟨fn,tmps,a,b,h1,h2⟩:=hH.step _ _ t _ hlen hI3;refine⟨fn,tmps,a,b,h1,h2.mono ?_⟩;rintro _ w4 ⟨rfl,hI4,m4⟩;have it4:=it3.mod m4 (λh=>h (.inr rfl)) (λh=>h (.inl hXg));refine⟨true,rfl,⟨rfl,d++[t],rest',it4,hI4,?_⟩,?_⟩
  .have:mU (d++[t])++rest'=mU d++((.string (S t),.bool true)::rest'):=by simp[mU]
   rw[this];exact(List.Perm.append_left _ uQ.symm).trans hp
  .show aJn w4 w.heap.size<aJn w2 w.heap.size
   rw[KU it4,KU it2,uQ.length_eq];exact nr _
def aoc{f:FuncId}{cap:List Value}{l:List ag}{D:Nat->Prop}(hf:dP aM f=true)(hs:T9 f cap w l D)(hD:∀i,D i->i<w.heap.size)(hl:l.length<=1000000):
  aH3 Oy #[.slice none 0 0,.func (.func f) #[] ⟨cap⟩] w λe w'=>∃l' p c,l'.Perm l/\e=.returned (.slice p l'.length c)/\aV w' w.heap.size b6 1 (.slice p l'.length c) l'.length (bI l')/\Still w w':=by
 refine ajB _ _ _ _ _ _ ?_;refine aP λw1 r1 s1 z1=>?_;show ak (dP aM f) _ _
 rw[hf];intro rec hst hpe hy;have k1:Row ((w1.alloc (.deferred (some []))).alloc (.loop rec)) w.heap.size Dv ⟨[.slice none 0 0]⟩:=(r1.alloc _).alloc _;have hz:((w1.alloc (.deferred (some []))).alloc (.loop rec)).heap.size=w1.heap.size+2:=by simp
 have s2:Still w ((w1.alloc (.deferred (some []))).alloc (.loop rec)):=(s1.alloc _).alloc _;have hk0:((w1.alloc (.deferred (some []))).alloc (.loop rec)).heap[w1.heap.size+1]?=some (.loop rec):=by have:=heap_alloc_new (w1.alloc (.deferred (some []))) (.loop rec);simpa using this
 have hd0:((w1.alloc (.deferred (some []))).alloc (.loop rec)).heap[w1.heap.size]?=some (.deferred (some [])):=by rw[heap_alloc_old _ _ (by simp)];exact heap_alloc_new w1 _
 generalize(w1.alloc (.deferred (some []))).alloc (.loop rec)=wb at*;have hH:Handler (w1.heap.size+1) w.heap.size (λX d wc=>Still w wc/\wc.heap[w1.heap.size+1]?=some (.loop rec)/\wc.heap[w1.heap.size]?=some (.deferred (some []))/\(∃p c,Row wc w.heap.size Dv ⟨[.slice p d.length c]⟩/\aV wc w.heap.size b6 1 (.slice p d.length c) d.length (bI d)/\(∀r,(Value.slice p d.length c).ownBlock=some r->¬X r/\w1.heap.size+1<r))/\¬X (w1.heap.size+1)/\¬X w1.heap.size/\¬X w.heap.size/\∀i,X i->i<wc.heap.size):=by
  constructor
  .rintro X d x wc hdl ⟨a1,a2,a3,⟨p,c,a4,a5,a6⟩,a7,a8,a9,m_⟩
   refine hy x wc _ a2 ⟨rfl,a2,l9 ?_⟩;have mp:=D4 wc (w1.heap.size+1) (sy rec);have hb:(wc.putObj (w1.heap.size+1) (sy rec)).heap[w1.heap.size+1]?=some (sy rec):=World.putObj_heap_same (aKg a2);have hzz:(wc.putObj (w1.heap.size+1) (sy rec)).heap.size=wc.heap.size:=World.putObj_size ..;generalize wc.putObj (w1.heap.size+1) (sy rec)=wd at*;have b4:=a4.mod mp (λe=>by omega);have b5:=a5.mod mp (λr hr e=>by have:=(a6 r hr).2;omega);have hwB:w.heap.size<=wd.heap.size:=by have:=a1.size;omega
   refine⟨p,d.length,c,b4.aj rfl,aP λw5 r5 s5 z5=>?_⟩;refine qq (B:=w.heap.size) (b5.still s5) (by omega) [.string (S x)] rfl (by simp[Value.oneCell']) (λ_=>⟨_,rfl,λj u hu=>?_⟩) (by omega) (by omega) λp' c' w6 o6 m6 bk=>?_
   .rw[bR,cE]
    exact r5.aj hu
   have Uy:∀r,(Value.slice p' (d.length+1) c').ownBlock=some r->(Value.slice p d.length c).ownBlock=some r\/r=w5.heap.size:=λr hr=>by
    rcases bk.own (n:=d.length)with e|e
    .exact .inl (e.symm.trans hr)
    .rw[hr]at e
     exact .inr (bM e)
   have h5k:w1.heap.size+1<w5.heap.size:=by have:=aKg hb;omega
   have aKy:∀r,(Value.slice p d.length c).ownBlock=some r->¬X r/\w1.heap.size+1<r/\w.heap.size<r:=λr hr=>by have:=a6 r hr;exact⟨this.1,this.2,by omega⟩
   have c4:=(b4.still s5).mod m6 (λe=>by have:=(aKy _ e).2.2;omega);refine aH5 (g:=w.heap.size) (o:=0) c4 (by simp) (by simp[Value.oneCell']) λw7 r7 m7 z7=>?_;have m57:Mod (λi=>(Value.slice p d.length c).ownBlock=some i\/i=w.heap.size) w5 w7:=Mod.trans m6 m7 (λ_ h=>.inl h) (λ_ _ h=>.inr h);have m17:Mod (λi=>i=w1.heap.size+1\/(Value.slice p d.length c).ownBlock=some i\/i=w.heap.size) wc w7:=Mod.trans (Mod.trans mp s5 (λ_ h=>.inl h) (λ_ _ h=>h.elim)) m57 (λ_ h=>h) (λ_ _ h=>.inr h);have hb7:w7.heap[w1.heap.size+1]?=some (sy rec):=aKw (aKw hb s5 (λh=>h)) m57 (λh=>by
    rcases h with h|h
    .have:=(aKy _ h).2.1;omega
    .omega)
   have a37:w7.heap[w1.heap.size]?=some (.deferred (some [])):=aKw a3 m17 (λh=>by
    rcases h with h|h|h
    .omega
    .have:=(aKy _ h).2.1;omega
    .omega)
   refine⟨hb7,rfl,?_,?_⟩
   .have mq:=D4 w7 (w1.heap.size+1) (.loop rec)
    have hz8:(w7.putObj (w1.heap.size+1) (.loop rec)).heap.size=w7.heap.size:=World.putObj_size ..;have hb8:(w7.putObj (w1.heap.size+1) (.loop rec)).heap[w1.heap.size+1]?=some (.loop rec):=World.putObj_heap_same (aKg hb7);generalize w7.putObj (w1.heap.size+1) (.loop rec)=w8 at*;have h68:w6.heap.size=w8.heap.size:=by omega
    have o8:aV w8 w.heap.size b6 1 (.slice p' (d.length+1) c') (d.length+1) (bI d++[.string (S x)]):=(o6.mod m7 (λr hr e=>by
     rcases Uy r hr with h|h
     .have:=(aKy _ h).2.2;omega
     .omega)).mod mq (λr hr e=>by
     rcases Uy r hr with h|h
     .have:=(aKy _ h).2.1;omega
     .omega)
    have hm18:Mod (λi=>i=w1.heap.size+1\/(Value.slice p d.length c).ownBlock=some i\/i=w.heap.size) wc w8:=Mod.trans m17 mq (λ_ h=>h) (λ_ _ h=>.inl h);refine⟨Mod.trans a1 hm18 (λ_ h=>h.elim) (λi hi h=>?_),hb8,aKw a37 mq (by omega),⟨p',c',?_,?_,λr hr=>?_⟩,a7,a8,a9,λi hi=>mK (m_ i hi) hm18.size⟩
    .rcases h with h|h|h
     .omega
     .have:=(aKy _ h).2.2;omega
     .omega
    .rw[aIa]
     exact r7.mod mq (by omega)
    .rw[aIa,KS]
     exact o8
    .rw[aIa]at hr
     rcases Uy r hr with h|h
     .exact⟨(aKy _ h).1,(aKy _ h).2.1⟩
     .refine⟨λhX=>?_,by have:=aKg hb;omega⟩
      have:=m_ r hX;have:=s5.size;have:=mp.size;omega
   .refine Mod.trans m17 (D4 w7 (w1.heap.size+1) (.loop rec)) (λi h hX=>?_) (λi hi h hX=>?_)
    .rcases h with rfl|h|rfl
     .exact a7 hX
     .exact(aKy _ h).1 hX
     .exact a9 hX
    .rw[h]at hX
     exact a7 hX
  .rintro X d wc wd ⟨a1,a2,a3,⟨p,c,a4,a5,a6⟩,a7,a8,a9,m_⟩ hm
   exact⟨Mod.trans a1 hm (λ_ h=>h) (λi hi h=>by omega),aKw a2 hm (λh=>a7 h.1),aKw a3 hm (λh=>a8 h.1),⟨p,c,a4.mod hm (λh=>a9 h.1),a5.mod hm (λr hr h=>(a6 r hr).1 h.1),a6⟩,a7,a8,a9,λi hi=>mK (m_ i hi) hm.size⟩
  .rintro X d wc o ⟨a1,a2,a3,⟨p,c,a4,a5,a6⟩,a7,a8,a9,m_⟩
   have VM:(wc.alloc o).heap.size=wc.heap.size+1:=World.size_alloc ..;have ms:Still wc (wc.alloc o):=(Mod.refl _ _).alloc o;have l1:=aKg a2;have l2:=aKg a3;have l3:=a4.lt;refine⟨a1.alloc o,aKw a2 ms (λh=>h),aKw a3 ms (λh=>h),⟨p,c,a4.still ms,a5.still ms,λr hr=>⟨λh=>?_,(a6 r hr).2⟩⟩,λh=>?_,λh=>?_,λh=>?_,λi hi=>?_⟩
   .rcases h with h|h
    .exact(a6 r hr).1 h
    .have:=(a5.lt r hr).2;omega
   .rcases h with h|h
    .exact a7 h
    .omega
   .rcases h with h|h
    .exact a8 h
    .omega
   .rcases h with h|h
    .exact a9 h
    .omega
   .rcases hi with h|h
    .have:=m_ i h;omega
    .omega
 refine(hs (w1.heap.size+1) w.heap.size _ D wb hH (by omega) ⟨s2,hk0,hd0,⟨none,0,k1,aV.nil _ _ _ _,λr hr=>by cases hr⟩,λh=>by have:=hD _ h;omega,λh=>by have:=hD _ h;omega,λh=>by have:=hD _ h;omega,λi hi=>by have:=hD i hi;omega⟩ s2 (λ_ h=>h)).mono ?_;rintro _ w3 ⟨rfl,l',X',hp,⟨a1,a2,a3,⟨p,c,a4,a5,a6⟩,a7,a8,a9,m_⟩,_⟩;refine⟨⟨_,rfl⟩,.inl ⟨a2,?_⟩⟩;have mq:=D4 w3 (w1.heap.size+1) (.loop {rec with state:=.exhausted});have hzq:(w3.putObj (w1.heap.size+1) (.loop {rec with state:=.exhausted})).heap.size=w3.heap.size:=World.putObj_size ..;generalize w3.putObj (w1.heap.size+1) (.loop {rec with state:=.exhausted})=w4 at*;have b4:=a4.mod mq (λe=>by omega);have b5:=a5.mod mq (λr hr e=>by have:=(a6 r hr).2;omega);have b3:=aKw a3 mq (by omega);have s4:Still w w4:=Mod.trans a1 mq (λ_ h=>h.elim) (λi hi e=>by omega);refine⟨p,_,c,b4.aj rfl,l9 ⟨b3,l',p,c,hp,rfl,?_,?_⟩⟩
 .refine b5.mod (D4 w4 w1.heap.size _) (λr hr e=>by have:=(a6 r hr).2;omega)
 .exact Mod.trans s4 (D4 w4 w1.heap.size _) (λ_ h=>h) (λi hi e=>by omega)
end Go.Proofs.YtihaaoehhgmphaaGreatDoor
namespace Go.Proofs.YtihaaoehhgmphaaGreatDoor.L
open IntKind Go.RowKit Vc
def aJT:ag->Option ag
 |[]=>none
 |a::r=>if a=39 then some r else aJT r
def jA(u:ag->Option ag)(q:ag->Option ag)(ok:Bool)(e:UInt8):Nat->ag->Option ag
 |0,_=>none
 |_+1,[]=>none
 |n+1,c::r=>
  if c=e then some r
  else if e=34/\c=39 then(if ok=true then jA u q ok e n r else none)
  else if e=41/\c=40 then(if ok=true then(match q r with
   |some t=>jA u q ok e n t
   |none=>none)else none)
  else match u (c::r)with
   |some t=>jA u q ok e n t
   |none=>none
def BT(v:UInt8->ag->Option ag)(a:UInt8):ag->Option ag
 |b::t=>if a=36/\b=40 then v 41 t else if a=36/\b=123 then v 125 t else some (b::t)
 |[]=>some []
def kH(v:UInt8->ag->Option ag):ag->Option ag
 |[]=>none
 |a::r=>
  if a=92 then(match r with
   |[]=>none
   |_::t=>some t)
  else if a=39 then aJT r
  else if a=34 then v 34 r
  else BT v a r
def iq:Nat->(ag->Option ag)×(UInt8->ag->Option ag)
 |0=>(λ_=>none,λe s=>jA (λ_=>none) (λ_=>none) false e (s.length+1) s)
 |d+1=>(kH (iq d).2,λe s=>jA (kH (iq d).2) ((iq d).2 41) true e (s.length+1) s)
def aIt(d:Nat):ag->Option ag:=(iq d).1
def eU(d:Nat)(e:UInt8):ag->Option ag:=(iq d).2 e
def Kt:∀{s t:ag},aJT s=some t->t.length<s.length
 |a::r,t,h=>by
  simp only[aJT]at h;split at h
  .obtain rfl:=bM h;simp
  .have:=Kt h;simp;omega
def aJF(f:ag->Option ag):Prop:=∀s t,f s=some t->t.length<s.length
def F4{u q:ag->Option ag}{ok:Bool}{e:UInt8}(hu:aJF u)(hq:aJF q):∀n,aJF (jA u q ok e n)
 |0=>λs t h=>by cases h
 |n+1=>by
  intro s t h;cases s with
  |nil=>cases h
  |cons c r=>
   simp only[jA]at h;split at h
   .obtain rfl:=bM h;simp
   .split at h
    .split at h
     .have:=F4 hu hq n _ _ h;simp;omega
     .cases h
    .split at h
     .split at h
      .split at h
       .rename_i t' ht
        have h1:=hq _ _ ht;have h2:=F4 hu hq n _ _ h;simp;omega
       .cases h
      .cases h
     .split at h
      .rename_i t' ht
       have h1:=hu _ _ ht;have h2:=F4 hu hq n _ _ h;omega
      .cases h
def ZN{v:UInt8->ag->Option ag}(hv:∀e,aJF (v e)):aJF (kH v):=by
 intro s t h;cases s with
 |nil=>cases h
 |cons a r=>
  simp only[kH]at h;split at h
  .cases r with
   |nil=>cases h
   |cons b r=>obtain rfl:=bM h;simp;omega
  .split at h
   .have:=Kt h;simp;omega
   .split at h
    .have:=hv _ _ _ h;simp;omega
    .cases r with
     |nil=>obtain rfl:=bM h;simp
     |cons b r=>
      simp only[BT]at h;split at h
      .have:=hv _ _ _ h;simp;omega
      .split at h
       .have:=hv _ _ _ h;simp;omega
       .obtain rfl:=bM h;simp
def Gm:∀d,aJF (iq d).1/\∀e,aJF ((iq d).2 e)
 |0=>by refine⟨λs t h=>(by cases h),λe s t h=>?_⟩;exact F4 (λs t h=>by cases h) (λs t h=>by cases h) _ _ _ h
 |d+1=>by have ih:=Gm d;have hu:aJF (kH (iq d).2):=ZN ih.2;exact⟨hu,λe s t h=>F4 hu (ih.2 41) _ _ _ h⟩
def aLo{u q:ag->Option ag}{ok:Bool}{e:UInt8}(hu:aJF u)(hq:aJF q):∀(n m:Nat) (s:ag),s.length<n->s.length<m->jA u q ok e n s=jA u q ok e m s
 |0,_,_,h,_=>by omega
 |_,0,_,_,h=>by omega
 |n+1,m+1,[],_,_=>rfl
 |n+1,m+1,c::r,hn,hm=>by
  simp only[bf]at hn hm;simp only[jA];rw[aLo hu hq n m r (by omega) (by omega)];have e1:(match q r with|some t=>jA u q ok e n t|none=>none)=(match q r with|some t=>jA u q ok e m t|none=>none):=by
   cases VN:q r with
   |none=>rfl
   |some t=>have:=hq _ _ VN;exact aLo hu hq n m t (by omega) (by omega)
  have e2:(match u (c::r)with|some t=>jA u q ok e n t|none=>none)=(match u (c::r)with|some t=>jA u q ok e m t|none=>none):=by
   cases VO:u (c::r)with
   |none=>rfl
   |some t=>have:=hu _ _ VO;simp only[bf]at this;exact aLo hu hq n m t (by omega) (by omega)
  rw[e1,e2]
def vX(d:Nat):aJF (aIt d):=(Gm d).1
def aKN(d:Nat)(e:UInt8):aJF (eU d e):=(Gm d).2 e
def aap(s:ag):aIt 0 s=none:=rfl
def aqP(d:Nat)(e:UInt8):eU d e []=none:=by cases d<;>rfl
def apL(d:Nat)(e c:UInt8)(r:ag):eU d e (c::r)=
  if c=e then some r
  else if e=34/\c=39 then(if d=0 then none else eU d e r)
  else if e=41/\c=40 then(if d=0 then none else(eU (d-1) 41 r).bind (eU d e))
  else(aIt d (c::r)).bind (eU d e):=by
 cases d with
 |zero=>show jA (λ_=>none) (λ_=>none) false e (r.length+1+1) (c::r)=_;simp only[jA,kP,iR,oV,aap,Option.bind_none]
 |succ d=>
  have hu:=ZN (Gm d).2;have hq:=(Gm d).2 41;show jA (kH (iq d).2) ((iq d).2 41) true e (r.length+1+1) (c::r)=_
  have next:∀t:ag,t.length<r.length+1->jA (kH (iq d).2) ((iq d).2 41) true e (r.length+1) t=eU (d+1) e t:=λt ht=>aLo hu hq _ _ _ ht (nr _);simp only[jA,oV,Nat.succ_ne_zero,iR,Py];rw[next r (nr _)];have e1:(match(iq d).2 41 r with|some t=>jA (kH (iq d).2) ((iq d).2 41) true e (r.length+1) t|none=>none)=(eU d 41 r).bind (eU (d+1) e):=by
   show(match eU d 41 r with|some t=>jA (kH (iq d).2) ((iq d).2 41) true e (r.length+1) t|none=>none)=_;cases VN:eU d 41 r with
   |none=>rfl
   |some t=>have:=aKN d 41 _ _ VN;exact next t (by omega)
  have e2:(match kH (iq d).2 (c::r)with|some t=>jA (kH (iq d).2) ((iq d).2 41) true e (r.length+1) t|none=>none)=(aIt (d+1) (c::r)).bind (eU (d+1) e):=by
   show(match aIt (d+1) (c::r)with|some t=>jA (kH (iq d).2) ((iq d).2 41) true e (r.length+1) t|none=>none)=_;cases VO:aIt (d+1) (c::r)with
   |none=>rfl
   |some t=>have:=vX (d+1) _ _ VO;simp only[bf]at this;exact next t (by omega)
  rw[e1,e2]
def Ends(f:ag->Option ag):Prop:=∀s t,f s=some t->t<:+s
def wm{a:UInt8}{t r:ag}(h:t<:+r):t<:+a::r:=h.trans (tu a r)
def Y_:Ends aJT
 |a::r,t,h=>by
  simp only[aJT]at h;split at h
  .obtain rfl:=bM h;exact tu _ _
  .exact wm (Y_ r t h)
def F9{u q:ag->Option ag}{ok:Bool}{e:UInt8}(hu:Ends u)(hq:Ends q):∀n,Ends (jA u q ok e n)
 |0=>λs t h=>by cases h
 |n+1=>by
  intro s t h;cases s with
  |nil=>cases h
  |cons c r=>
   simp only[jA]at h;split at h
   .obtain rfl:=bM h;exact tu _ _
   .split at h
    .split at h
     .exact wm (F9 hu hq n _ _ h)
     .cases h
    .split at h
     .split at h
      .split at h
       .rename_i t' ht
        exact wm ((F9 hu hq n _ _ h).trans (hq _ _ ht))
       .cases h
      .cases h
     .split at h
      .rename_i t' ht
       exact(F9 hu hq n _ _ h).trans (hu _ _ ht)
      .cases h
def aqQ{v:UInt8->ag->Option ag}(hv:∀e,Ends (v e)):Ends (kH v):=by
 intro s t h;cases s with
 |nil=>cases h
 |cons a r=>
  simp only[kH]at h;split at h
  .cases r with
   |nil=>cases h
   |cons b r=>obtain rfl:=bM h;exact wm (tu _ _)
  .split at h
   .exact wm (Y_ _ _ h)
   .split at h
    .exact wm (hv _ _ _ h)
    .cases r with
     |nil=>obtain rfl:=bM h;exact tu _ _
     |cons b r=>
      simp only[BT]at h;split at h
      .exact wm (wm (hv _ _ _ h))
      .split at h
       .exact wm (wm (hv _ _ _ h))
       .obtain rfl:=bM h;exact tu _ _
def acw:∀d,Ends (iq d).1/\∀e,Ends ((iq d).2 e)
 |0=>⟨λs t h=>(by cases h),λe s t h=>F9 (λs t h=>by cases h) (λs t h=>by cases h) _ _ _ h⟩
 |d+1=>by have ih:=acw d;have hu:Ends (kH (iq d).2):=aqQ ih.2;exact⟨hu,λe s t h=>F9 hu (ih.2 41) _ _ _ h⟩
def aqR(d:Nat):Ends (aIt d):=(acw d).1
def ix(s:ag):Option ag->Int
 |some t=>((s.length-t.length:Nat):Int)
 |none=>-1
def pf(t q:ag):Bool:=decide (t.length<=q.length/\q.take t.length=t)
end Go.Proofs.YtihaaoehhgmphaaGreatDoor.L
namespace Go.Proofs.YtihaaoehhgmphaaGreatDoor.L
open IntKind
inductive Pt where
 |mk(k:Int)(q:Bool)(t n o:ag)(w:List Pt)
namespace Pt
def k:Pt->Int
 |.mk k _ _ _ _ _=>k
def q:Pt->Bool
 |.mk _ q _ _ _ _=>q
def t:Pt->ag
 |.mk _ _ t _ _ _=>t
def n:Pt->ag
 |.mk _ _ _ n _ _=>n
def o:Pt->ag
 |.mk _ _ _ _ o _=>o
def w:Pt->List Pt
 |.mk _ _ _ _ _ w=>w
end Pt
inductive Rs(α:Type)where
 |ok(a:α):Rs α
 |bad (e:Nat):Rs α
def Rs.and{α β:Type}(r:Rs α)(f:α->Rs β):Rs β:=match r with
 |.ok a=>f a
 |.bad e=>.bad e
def Rs.iU{α β:Type}{r:Rs α}{f:α->Rs β}{b:β}(h:r.and f=.ok b):∃a,r=.ok a/\f a=.ok b:=by
 cases r with
 |bad k=>cases h
 |ok a=>exact⟨a,rfl,h⟩
def isLet(c:UInt8):Bool:=(decide (97<=c)&&decide (c<=122))||(decide (65<=c)&&decide (c<=90))||c==95
def gP(c:UInt8):Bool:=decide (48<=c)&&decide (c<=57)
def T_(c:UInt8):Bool:=isLet c||gP c
def TN(c:UInt8):Bool:=gP c||c==35||c==63||c==64||c==42
def bY:ag->Nat
 |[]=>0
 |c::r=>if isLet c=true then(r.takeWhile T_).length+1 else 0
def nO:ag->Nat
 |[]=>0
 |c::_=>if TN c=true then 1 else 0
def gh(l:List Pt)(p:Pt):List Pt:=match l.getLast? with
 |some x=>if p.k=0/\x.k=0/\x.q=p.q then l.dropLast++[.mk x.k x.q (x.t++p.t) x.n x.o x.w]else l++[p]
 |none=>l++[p]
def GY(_:ag->Rs (List Pt))(_:Bool)(_:ag):Rs Pt:=.bad 90
def k_(P:ag->Rs (List Pt))(q:Bool)(s:ag):Rs (Pt×Nat):=
 if(s.drop 1).head?=some 40\/(s.drop 1).head?=some 123 then match aIt 30 s with
  |none=>.bad 90
  |some t=>
   if(s.drop 1).head?=some 123 then(GY P q ((s.drop 2).take (s.length-t.length-3))).and λp=>.ok (p,s.length-t.length)
   else if 4<s.length-t.length/\s[2]?=some 40/\s[s.length-t.length-2]?=some 41 then .ok (.mk 3 q ((s.drop 3).take (s.length-t.length-5)) [] [] [],s.length-t.length)
   else .ok (.mk 2 q ((s.drop 2).take (s.length-t.length-3)) [] [] [],s.length-t.length)
 else if 0<bY (s.drop 1)then .ok (.mk 1 q [] ((s.drop 1).take (bY (s.drop 1))) [] [],bY (s.drop 1)+1)
 else if 0<nO (s.drop 1)then .ok (.mk 1 q [] ((s.drop 1).take 1) [] [],2)
 else .ok (.mk 0 q [36] [] [] [],1)
def tx(q:Bool)(t:ag):Pt:=.mk 0 q t [] [] []
def nJ(P:ag->Rs (List Pt))(s:ag):Rs (List Pt×Nat):=match s with
 |[]=>.bad 0
 |c::r=>
  if c=36 then(k_ P true (c::r)).and λx=>.ok ([x.1],x.2)
  else if c=92/\(r.head?=some 36\/r.head?=some 96\/r.head?=some 34\/r.head?=some 92)then .ok ([tx true (r.take 1)],2)
  else .ok ([tx true [c]],1)
def gQ(one:ag->Rs (List Pt×Nat)):Nat->List Pt->ag->Rs (List Pt)
 |0,_,_=>.bad 0
 |_+1,acc,[]=>.ok acc
 |n+1,acc,c::r=>(one (c::r)).and λx=>gQ one n (x.1.foldl gh acc) ((c::r).drop x.2)
def aI5(P:ag->Rs (List Pt))(s:ag):Rs (List Pt):=if s=[]then .ok [tx true []]else gQ (nJ P) (s.length+1) [] s
def rq(P:ag->Rs (List Pt))(s:ag):Rs (List Pt×Nat):=match s with
 |[]=>.bad 0
 |c::r=>
  if c=36 then(k_ P false (c::r)).and λx=>.ok ([x.1],x.2)
  else if c=92\/c=39\/c=34 then match aIt 30 (c::r)with
   |none=>.bad 90
   |some t=>
    if c=92 then .ok ([tx true (r.take 1)],2)
    else if c=34 then(aI5 P (r.take (r.length-t.length-1))).and λl=>.ok (l,r.length+1-t.length)
    else .ok ([tx true (r.take (r.length-t.length-1))],r.length+1-t.length)
  else .ok ([tx false [c]],1)
def fe:Nat->ag->Rs (List Pt)
 |0,_=>.bad 2
 |L+1,s=>gQ (rq (fe L)) (s.length+1) [] s
abbrev agy:ag:=[108,101,110]
def single(s:ag):ag:=39::(s.flatMap λb=>if b=39 then[39,92,39,39]else[b])++[39]
def D5(q:Bool)(s:ag):ag:=if q=true then 34::s++[34]else s
mutual
def Pt.pr:Pt->ag
 |.mk k q t n o w=>
  if k=0 then(if q=true then single t else t)
  else D5 q (if k=2 then[36,40]++t++[41]else if k=3 then[36,40,40]++t++[41,41]else if k=1 then(if o=agy then[36,123,35]++n++[125]else[36,123]++n++o++aIy w++[125])else[])
def aIy:List Pt->ag
 |[]=>[]
 |p::r=>p.pr++aIy r
end
def aaq:∀a b:List Pt,aIy (a++b)=aIy a++aIy b
 |[],_=>rfl
 |p::a,b=>by simp only[FB,aIy,aaq a b,mL]
def aKh:∀s:ag,bY s<=s.length
 |[]=>aW _
 |c::r=>by
  have:(r.takeWhile T_).length<=r.length:=(XB _).length_le;simp only[bY];split
  .simp only[bf];omega
  .exact dx _
def Sv:∀s:ag,nO s<=s.length
 |[]=>aW _
 |c::r=>by simp only[nO,bf];split<;>omega
def abx(s:ag):nO s<=1:=by
 cases s with
 |nil=>exact dx _
 |cons c r=>simp only[nO];split<;>omega
def auB(l:List Pt)(p:Pt):(gh l p).length<=l.length+1:=by
 unfold gh;split
 .rename_i x hx
  have hne:l≠[]:=by rintro rfl;cases hx
  have:=mJ.2 hne;split
  .simp only[aIa,List.length_dropLast,bf,cm];omega
  .simp
 .simp
def acy:∀(ps acc:List Pt),(ps.foldl gh acc).length<=acc.length+ps.length
 |[],acc=>aW _
 |p::ps,acc=>by have h1:=acy ps (gh acc p);have h2:=auB acc p;simp only[vQ,bf];omega
def Aa(one:ag->Rs (List Pt×Nat)):Prop:=∀s x,one s=.ok x->0<x.2/\x.2<=s.length/\x.1.length<=x.2
def Za{P:ag->Rs (List Pt)}{q:Bool}{r:ag}{x:Pt×Nat}(h:k_ P q (36::r)=.ok x):0<x.2/\x.2<=r.length+1:=by
 unfold k_ at h;simp only[Bi,Ki]at h;split at h
 .split at h
  .cases h
  .rename_i t ht
   have h1:=vX 30 _ _ ht;simp only[bf]at h1 h;split at h
   .obtain⟨p,_,h⟩:=Rs.iU h
    injection h with h;rw[<-h];dsimp only;omega
   .split at h<;>(injection h with h;rw[<-h];dsimp only;omega)
 .split at h
  .injection h with h
   have:=aKh r;rw[<-h];dsimp only;omega
  .split at h
   .rename_i hs
    injection h with h;have:=Sv r;rw[<-h];dsimp only;omega
   .injection h with h
    rw[<-h];dsimp only;omega
def F5(P:ag->Rs (List Pt)):Aa (nJ P):=by
 intro s x h;cases s with
 |nil=>cases h
 |cons c r=>
  simp only[nJ]at h;split at h
  .rename_i hc
   subst hc;obtain⟨y,h1,h⟩:=Rs.iU h;injection h with h;have:=Za h1;rw[<-h];exact⟨this.1,this.2,this.1⟩
  .split at h
   .rename_i hc
    injection h with h;rw[<-h];have:r≠[]:=by rintro rfl;rcases hc.2 with h|h|h|h<;>cases h
    have:=mJ.2 this;simp only[bf,cm];omega
   .injection h with h
    rw[<-h];simp only[bf,cm];omega
def aby{one:ag->Rs (List Pt×Nat)}(ho:Aa one):∀(n:Nat) (acc:List Pt) (s:ag) (l:List Pt),gQ one n acc s=.ok l->l.length<=acc.length+s.length
 |0,_,_,_,h=>by cases h
 |n+1,acc,[],l,h=>by injection h with h;rw[h];exact J5 _ _
 |n+1,acc,c::r,l,h=>by simp only[gQ]at h;obtain⟨x,h1,h⟩:=Rs.iU h;have h2:=ho _ _ h1;have h3:=aby ho n _ _ _ h;have h4:=acy x.1 acc;rw[jx]at h3;omega
def aar{one:ag->Rs (List Pt×Nat)}(ho:Aa one):∀(n m:Nat) (acc:List Pt) (s:ag),s.length<n->s.length<m->gQ one n acc s=gQ one m acc s
 |0,_,_,_,h,_=>by omega
 |_,0,_,_,_,h=>by omega
 |n+1,m+1,acc,[],_,_=>rfl
 |n+1,m+1,acc,c::r,h1,h2=>by
  simp only[gQ];cases h:one (c::r)with
  |bad e=>rfl
  |ok x=>have h3:=ho _ _ h;simp only[bf]at h1 h2 h3;exact aar ho n m _ _ (by rw[jx,bf];omega) (by rw[jx,bf];omega)
def auC{P:ag->Rs (List Pt)}{s:ag}{l:List Pt}(h:aI5 P s=.ok l):l.length<=s.length+1:=by
 unfold aI5 at h;split at h
 .injection h with h
  rw[<-h];simp
 .have:=aby (F5 P) _ _ _ _ h
  simp only[cm]at this;omega
def Q3(P:ag->Rs (List Pt)):Aa (rq P):=by
 intro s x h;cases s with
 |nil=>cases h
 |cons c r=>
  simp only[rq]at h;split at h
  .rename_i hc
   subst hc;obtain⟨y,h1,h⟩:=Rs.iU h;injection h with h;have:=Za h1;rw[<-h];exact⟨this.1,this.2,this.1⟩
  .split at h
   .split at h
    .cases h
    .rename_i hc t ht
     have h1:=vX 30 _ _ ht;simp only[bf]at h1;split at h
     .rename_i aIC
      subst aIC;injection h with h;rw[<-h];have:r≠[]:=by rintro rfl;rw[show aIt 30 [92]=none from rfl]at ht;cases ht
      have:=mJ.2 this;simp only[bf,cm];omega
     .have hq:∀u,c=39\/c=34->aIt 30 (c::r)=some u->u.length+1<=r.length:=by
       intro u hc hu;rcases hc with rfl|rfl
       .have:aJT r=some u:=hu
        have:=Kt this;omega
       .have:eU 29 34 r=some u:=hu
        have:=aKN 29 34 _ _ this;omega
      rename_i aIC;have h2:=hq t (Or.resolve_left (by assumption) aIC) ht;split at h
      .obtain⟨l,h3,h⟩:=Rs.iU h
       injection h with h;have h4:=auC h3;rw[eH]at h4;rw[<-h];simp only[bf];omega
      .injection h with h
       rw[<-h];simp only[bf,cm];omega
   .injection h with h
    rw[<-h];simp only[bf,cm];omega
end Go.Proofs.YtihaaoehhgmphaaGreatDoor.L
namespace Go.Proofs.YtihaaoehhgmphaaGreatDoor
open IntKind Go.RowKit Vc
variable{w:World}
def DD(a:Addr)(i:Nat):(a.add i).block=a.block:=by unfold Addr.add;split<;>rfl
def aKi{S:Nat->Prop}{w':World}(hm:Mod S w w'){a:Addr}{v:Value}(hn:¬S a.block)(h:w.cell? a=some v):w'.cell? a=some v:=
 (World.cell?_of_block (hm.block _ (World.block_lt_of_cell? _ _ h) hn)).trans h
def aV.cap{B:Nat}{e:TypeId}{size n:Nat}{v:Value}{xs:List Value}(h:aV w B e size v n xs):∃p c,v=.slice p n c/\n<=c:=by
 rcases h.2 with⟨rfl,rfl⟩|⟨g,cap,cur,rfl,_,_,hc,_⟩
 .exact⟨_,_,rfl,aW _⟩
 .exact⟨_,_,rfl,hc⟩
end Go.Proofs.YtihaaoehhgmphaaGreatDoor
namespace Go.Proofs.YtihaaoehhgmphaaGreatDoor.L
open IntKind Go.RowKit Vc
variable{w:World}
def h_(p:Pt)(v:Value):List Value:=[.int .i64 p.k,.bool p.q,.string (S p.t),.string (S p.n),.string (S p.o),v]
mutual
def oA(w:World)(F:Nat->Prop):Pt->Addr->Prop
 |.mk k q t n o l,a=>∃p c,(∀(j:Nat) (u:Value),(h_ (.mk k q t n o l) (.slice p l.length c))[j]?=some u->w.cell? (a.add j)=some u)/\l.length<=c/\(l≠[]->∃b,p=some b/\F b.block/\ia w F l b)
def ia(w:World)(F:Nat->Prop):List Pt->Addr->Prop
 |[],_=>True
 |x::r,a=>oA w F x a/\ia w F r (a.add 6)
end
def cv(w:World)(F:Nat->Prop)(l:List Pt)(v:Value):Prop:=∃p c,v=.slice p l.length c/\l.length<=c/\(l≠[]->∃b,p=some b/\F b.block/\ia w F l b)
def oA.out{F:Nat->Prop}{x:Pt}{a:Addr}(h:oA w F x a):∃v,(∀(j:Nat) (u:Value),(h_ x v)[j]?=some u->w.cell? (a.add j)=some u)/\cv w F x.w v:=by
 cases x with
 |mk k q t n o l=>simp only[oA]at h;obtain⟨p,c,h1,h2,h3⟩:=h;exact⟨_,h1,p,c,rfl,h2,h3⟩
def oA.of{F:Nat->Prop}{x:Pt}{a:Addr}{v:Value}(h:∀(j:Nat) (u:Value),(h_ x v)[j]?=some u->w.cell? (a.add j)=some u)(hs:cv w F x.w v):oA w F x a:=by
 cases x with
 |mk k q t n o l=>obtain⟨p,c,rfl,h2,h3⟩:=hs;simp only[oA];exact⟨p,c,h,h2,h3⟩
def ia.get{F:Nat->Prop}:∀{l:List Pt} {a:Addr} {i:Nat} {x:Pt},ia w F l a->l[i]?=some x->oA w F x (a.add (i*6))
 |y::r,a,0,x,h,hx=>by
  obtain rfl:=bM hx;simp only[ia]at h;have e:a.add (0*6)=a:=by unfold Addr.add;simp
  rw[e];exact h.1
 |y::r,a,i+1,x,h,hx=>by simp only[ia]at h;have:=ia.get (i:=i) h.2 (by simpa using hx);rw[rH]at this;rwa[show(i+1)*6=6+i*6 by omega]
def ia.of{F:Nat->Prop}:∀{l:List Pt} {a:Addr},(∀i x,l[i]?=some x->oA w F x (a.add (i*6)))->ia w F l a
 |[],a,h=>by simp only[ia]
 |y::r,a,h=>by
  simp only[ia];refine⟨?_,ia.of λi x hx=>?_⟩
  .have:=h 0 y rfl
   have e:a.add (0*6)=a:=by unfold Addr.add;simp
   rwa[e]at this
  .rw[rH]
   have:=h (i+1) x (by simpa using hx);rwa[show(i+1)*6=6+i*6 by omega]at this
mutual
def oA.dV{F G:Nat->Prop}{w':World}(hF:∀k,F k->G k)(hw:∀a v,(∃k,F k/\a.block=k)->w.cell? a=some v->w'.cell? a=some v):∀{x:Pt} {a:Addr},oA w F x a->F a.block->oA w' G x a
 |.mk k q t n o l,a,h,hb=>by simp only[oA]at h⊢;obtain⟨p,c,h1,h2,h3⟩:=h;refine⟨p,c,λj u hu=>hw _ _ ⟨_,hb,DD a j⟩ (h1 j u hu),h2,λhl=>?_⟩;obtain⟨b,rfl,h4,h5⟩:=h3 hl;exact⟨b,rfl,hF _ h4,ia.dV hF hw h5 h4⟩
def ia.dV{F G:Nat->Prop}{w':World}(hF:∀k,F k->G k)(hw:∀a v,(∃k,F k/\a.block=k)->w.cell? a=some v->w'.cell? a=some v):∀{l:List Pt} {a:Addr},ia w F l a->F a.block->ia w' G l a
 |[],a,h,hb=>by simp only[ia]
 |x::r,a,h,hb=>by simp only[ia]at h⊢;exact⟨oA.dV hF hw h.1 hb,ia.dV hF hw h.2 (by rw[DD];exact hb)⟩
end
def cv.dV{F G:Nat->Prop}{w':World}(hF:∀k,F k->G k)(hw:∀a v,(∃k,F k/\a.block=k)->w.cell? a=some v->w'.cell? a=some v){l:List Pt}{v:Value}(h:cv w F l v):cv w' G l v:=by obtain⟨p,c,rfl,h2,h3⟩:=h;refine⟨p,c,rfl,h2,λhl=>?_⟩;obtain⟨b,rfl,h4,h5⟩:=h3 hl;exact⟨b,rfl,hF _ h4,ia.dV hF hw h5 h4⟩
def cv.mono{F G:Nat->Prop}(hF:∀k,F k->G k){l:List Pt}{v:Value}(h:cv w F l v):cv w G l v:=h.dV hF (λ_ _ _ h=>h)
def cv.any{F:Nat->Prop}{l:List Pt}{v:Value}(h:cv w F l v):cv w (λ_=>True) l v:=h.mono λ_ _=>trivial
def cv.mod{F S:Nat->Prop}{w':World}{l:List Pt}{v:Value}(h:cv w F l v)(hm:Mod S w w')(hS:∀k,F k->¬S k):cv w' F l v:=
 h.dV (λ_ h=>h) λa v ⟨k,hk,e⟩ hc=>aKi hm (by rw[e];exact hS k hk) hc
def cv.still{F:Nat->Prop}{w':World}{l:List Pt}{v:Value}(h:cv w F l v)(hm:Still w w'):cv w' F l v:=h.mod hm λ_ _ h=>h
def cv.nil(w:World)(F:Nat->Prop)(p:Option Addr)(c:Nat):cv w F [] (.slice p 0 c):=⟨p,c,rfl,dx _,λh=>absurd rfl h⟩
def cv.here{F:Nat->Prop}{l:List Pt}{v:Value}(h:cv w F l v):cv w (λk=>F k/\k<w.heap.size) l v:=by
 have key:∀n,∀l:List Pt,SizeOf.sizeOf l<n->∀b,ia w F l b->F b.block->l≠[]->(b.block<w.heap.size/\ia w (λk=>F k/\k<w.heap.size) l b):=by
  intro n
  induction n with
  |zero=>intro l h;omega
  |succ n ih=>
   intro l hl b hp hb hne;have cell0:b.block<w.heap.size:=by obtain⟨x,r,rfl⟩:=aKs hne;simp only[ia]at hp;obtain⟨v,hc,_⟩:=hp.1.out;have:=World.block_lt_of_cell? _ _ (hc 0 _ rfl);rwa[DD]at this
   refine⟨cell0,ia.of λi x hx=>?_⟩;obtain⟨v,hc,hs⟩:=(hp.get hx).out;refine oA.of hc ?_;obtain⟨p,c,rfl,h2,h3⟩:=hs;refine⟨p,c,rfl,h2,λkJ=>?_⟩;obtain⟨b2,rfl,h4,h5⟩:=h3 kJ;have hm:=XJ (tq hx);have hx2:SizeOf.sizeOf x.w<SizeOf.sizeOf x:=by cases x;simp only[Pt.w,Pt.mk.sizeOf_spec];omega
   have:=ih x.w (by omega) b2 h5 h4 kJ;exact⟨b2,rfl,⟨h4,this.1⟩,this.2⟩
 obtain⟨p,c,rfl,h2,h3⟩:=h;refine⟨p,c,rfl,h2,λhl=>?_⟩;obtain⟨b,rfl,h4,h5⟩:=h3 hl;have:=key _ l (nr _) b h5 h4 hl;exact⟨b,rfl,⟨h4,this.1⟩,this.2⟩
def cv.get{F:Nat->Prop}{l:List Pt}{p:Option Addr}{n c:Nat}(h:cv w F l (.slice p n c)){i:Nat}{x:Pt}(hx:l[i]?=some x):
  ∃b v,p=some b/\F b.block/\(∀(j:Nat) (u:Value),(h_ x v)[j]?=some u->w.cell? ((b.add (i*6)).add j)=some u)/\cv w F x.w v:=by
 obtain⟨p',c',he,h2,h3⟩:=h;injection he with e1 e2 e3;subst e1 e2 e3;have hl:l≠[]:=by rintro rfl;cases hx
 obtain⟨b,rfl,h4,h5⟩:=h3 hl;obtain⟨v,h6,h7⟩:=(h5.get hx).out;exact⟨b,v,rfl,h4,h6,h7⟩
def cv.len{F:Nat->Prop}{l:List Pt}{p:Option Addr}{n c:Nat}(h:cv w F l (.slice p n c)):n=l.length/\l.length<=c:=by obtain⟨p',c',he,h2,h3⟩:=h;injection he with e1 e2 e3;subst e3;exact⟨e2,h2⟩
def cv.form{F:Nat->Prop}{l:List Pt}{v:Value}(h:cv w F l v):∃p c,v=.slice p l.length c:=by obtain⟨p,c,he,_⟩:=h;exact⟨p,c,he⟩
def Cs(w:World)(F:Nat->Prop):List Pt->List Value->Prop
 |[],xs=>xs=[]
 |x::r,xs=>∃v ys,xs=h_ x v++ys/\cv w F x.w v/\Cs w F r ys
def Cs.len{F:Nat->Prop}:∀{l:List Pt} {xs:List Value},Cs w F l xs->xs.length=l.length*6
 |[],xs,h=>by rw[show xs=[]from h];rfl
 |x::r,xs,⟨v,ys,h1,h2,h3⟩=>by have:=h3.len;rw[h1];simp only[aIa,h_,bf,cm,this];omega
def abz{x:Pt}{v:Value}(hv:v.oneCell'=true):∀u∈h_ x v,u.oneCell'=true:=by intro u hu;simp only[h_,iQ,vO,vZ]at hu;rcases hu with rfl|rfl|rfl|rfl|rfl|rfl<;>first|rfl|exact hv
def cv.one{F:Nat->Prop}{l:List Pt}{v:Value}(h:cv w F l v):v.oneCell'=true:=by obtain⟨p,c,rfl,_⟩:=h;rfl
def Cs.one{F:Nat->Prop}:∀{l:List Pt} {xs:List Value},Cs w F l xs->∀u∈xs,u.oneCell'=true
 |[],xs,h=>by rw[show xs=[]from h];simp
 |x::r,xs,⟨v,ys,h1,h2,h3⟩=>by
  intro u hu;rw[h1]at hu;rcases aIL.1 hu with hu|hu
  .exact abz h2.one u hu
  .exact h3.one u hu
def Cs.dV{F G:Nat->Prop}{w':World}(hf:∀{l:List Pt} {v:Value},cv w F l v->cv w' G l v):∀{l:List Pt} {xs:List Value},Cs w F l xs->Cs w' G l xs
 |[],xs,h=>h
 |x::r,xs,⟨v,ys,h1,h2,h3⟩=>⟨v,ys,h1,hf h2,h3.dV hf⟩
def Cs.append{F:Nat->Prop}:∀{l m:List Pt} {xs ys:List Value},Cs w F l xs->Cs w F m ys->Cs w F (l++m) (xs++ys)
 |[],m,xs,ys,h,k=>by rw[show xs=[]from h];exact k
 |x::r,m,xs,ys,⟨v,zs,h1,h2,h3⟩,k=>⟨v,zs++ys,by rw[h1,mL],h2,h3.append k⟩
def Cs.snoc{F:Nat->Prop}{l:List Pt}{xs:List Value}{x:Pt}{v:Value}(h:Cs w F l xs)(hv:cv w F x.w v):Cs w F (l++[x]) (xs++h_ x v):=
 h.append ⟨v,[],by simp,hv,rfl⟩
def Cs.split{F:Nat->Prop}:∀{l m:List Pt} {xs:List Value},Cs w F (l++m) xs->∃ys zs,xs=ys++zs/\Cs w F l ys/\Cs w F m zs
 |[],m,xs,h=>⟨[],xs,rfl,rfl,h⟩
 |x::r,m,xs,h=>by obtain⟨v,us,h1,h2,h3⟩:∃v us,xs=h_ x v++us/\cv w F x.w v/\Cs w F (r++m) us:=h;obtain⟨ys,zs,h4,h5,h6⟩:=h3.split;exact⟨h_ x v++ys,zs,by rw[h1,h4,mL],⟨v,ys,rfl,h2,h5⟩,h6⟩
def Cs.last{F:Nat->Prop}{l:List Pt}{x:Pt}{xs:List Value}(h:Cs w F (l++[x]) xs):∃ys v,xs=ys++h_ x v/\Cs w F l ys/\cv w F x.w v:=by obtain⟨ys,zs,h1,h2,v,us,h3,h4,h5⟩:=h.split;have h5:us=[]:=h5;subst h5;exact⟨ys,v,by rw[h1,h3,zl],h2,h4⟩
def Cs.at{F:Nat->Prop}:∀{l:List Pt} {xs:List Value} {a:Addr},Cs w F l xs->(∀(j:Nat) (u:Value),xs[j]?=some u->w.cell? (a.add j)=some u)->ia w F l a
 |[],xs,a,h,hc=>by simp only[ia]
 |x::r,xs,a,⟨v,ys,h1,h2,h3⟩,hc=>by
  simp only[ia];have e:(h_ x v).length=6:=rfl;refine⟨oA.of (λj u hu=>hc j u ?_) h2,h3.at λj u hu=>?_⟩
  .rw[h1,vJ]
   .exact hu
   .exact(jj.1 hu).1
  .rw[rH]
   refine hc _ u ?_;rw[h1,zg (by rw[e];omega),e,aLa];exact hu
def Cs.to{F:Nat->Prop}{l:List Pt}:∀{a:Addr},ia w F l a->∃xs,Cs w F l xs/\∀(j:Nat) (u:Value),xs[j]?=some u->w.cell? (a.add j)=some u:=by
 induction l with
 |nil=>intro a _;exact⟨[],rfl,λj u hu=>by simp at hu⟩
 |cons x r ih=>
  intro a h;simp only[ia]at h;obtain⟨v,h1,h2⟩:=h.1.out;obtain⟨xs,h3,h4⟩:=ih h.2;refine⟨h_ x v++xs,⟨v,xs,rfl,h2,h3⟩,λj u hu=>?_⟩;have e:(h_ x v).length=6:=rfl
  by_cases hj:j<6
  .rw[vJ (by rw[e];exact hj)]at hu
   exact h1 j u hu
  .rw[zg (by rw[e];omega),e]at hu
   have:=h4 _ u hu;rwa[rH,show 6+(j-6)=j by omega]at this
def iB(w:World)(B:Nat)(l:List Pt)(v:Value):Prop:=∃p c xs,v=.slice p l.length c/\aV w B 51 6 v l.length xs/\Cs w (λk=>B<=k/\k<w.heap.size/\v.ownBlock≠some k) l xs
def iB.nil(w:World)(B:Nat):iB w B [] (.slice none 0 0):=⟨none,0,[],rfl,aV.nil _ _ _ _,rfl⟩
def iB.sl{B:Nat}{l:List Pt}{v:Value}(h:iB w B l v):cv w (λk=>B<=k/\k<w.heap.size) l v:=by obtain⟨p,c,xs,rfl,ho,hc⟩:=h;obtain⟨p',c',he,hle⟩:=ho.cap;injection he with _ _ e3;subst e3;refine⟨p,c,rfl,hle,λhl=>?_⟩;have hn:0<l.length:=mJ.2 hl;obtain⟨g,cap,he,hB,hg,_,hcell⟩:=ho.wz hn;injection he with e1 e2 e3;subst e1;refine⟨_,rfl,⟨hB,hg⟩,(hc.dV λh=>h.mono λk hk=>⟨hk.1,hk.2.1⟩).at λj u hu=>?_⟩;rw[bR,cE];exact hcell j u hu
def iB.mod{S:Nat->Prop}{w':World}{B:Nat}{l:List Pt}{v:Value}(h:iB w B l v)(hm:Mod S w w')(hS:∀k,B<=k->k<w.heap.size->¬S k):iB w' B l v:=by obtain⟨p,c,xs,rfl,ho,hc⟩:=h;refine⟨p,c,xs,rfl,ho.mod hm λk hk=>hS k (ho.lt k hk).1 (ho.lt k hk).2,hc.dV λh=>(h.mod hm λk hk=>hS k hk.1 hk.2.1).mono λk hk=>⟨hk.1,mK hk.2.1 hm.size,hk.2.2⟩⟩
def iB.still{w':World}{B:Nat}{l:List Pt}{v:Value}(h:iB w B l v)(hm:Still w w'):iB w' B l v:=h.mod hm λ_ _ _ h=>h
end Go.Proofs.YtihaaoehhgmphaaGreatDoor.L
namespace Go.Proofs.YtihaaoehhgmphaaGreatDoor.L
open IntKind
def Mg(x p:Pt):Prop:=p.k=0/\x.k=0/\x.q=p.q
def auD(p:Pt):gh [] p=[p]:=rfl
def Lc(l:List Pt)(x p:Pt):gh (l++[x]) p=if p.k=0/\x.k=0/\x.q=p.q then l++[.mk x.k x.q (x.t++p.t) x.n x.o x.w]else l++[x]++[p]:=by unfold gh;simp
def LC{l:List Pt}(h:l≠[]):∃m x,l=m++[x]:=⟨l.dropLast,l.getLast h,(List.dropLast_concat_getLast h).symm⟩
def Norm:List Pt->Prop
 |[]=>True
 |[_]=>True
 |a::b::r=>¬Mg a b/\Norm (b::r)
def Norm.tail{a:Pt}{r:List Pt}(h:Norm (a::r)):Norm r:=by
 cases r with
 |nil=>trivial
 |cons b r=>exact h.2
def Norm.snoc:∀{l:List Pt} {x p:Pt},Norm (l++[x])->¬Mg x p->Norm (l++[x]++[p])
 |[],x,p,_,h=>⟨h,trivial⟩
 |[a],x,p,h,h2=>⟨h.1,h2,trivial⟩
 |a::b::l,x,p,h,h2=>⟨h.1,Norm.snoc (l:=b::l) h.2 h2⟩
def Norm.left:∀{l m:List Pt},Norm (l++m)->Norm l
 |[],_,_=>trivial
 |[a],_,_=>trivial
 |a::b::l,m,h=>⟨h.1,Norm.left (l:=b::l) h.2⟩
def Norm.right:∀{l m:List Pt},Norm (l++m)->Norm m
 |[],_,h=>h
 |a::l,m,h=>Norm.right (l:=l) (Norm.tail h)
def Norm.swap:∀{l:List Pt} {x y:Pt},Norm (l++[x])->x.k=y.k->x.q=y.q->Norm (l++[y])
 |[],x,y,_,_,_=>trivial
 |[a],x,y,h,h1,h2=>⟨λm=>h.1 ⟨by rw[h1];exact m.1,m.2.1,by rw[h2];exact m.2.2⟩,trivial⟩
 |a::b::l,x,y,h,h1,h2=>⟨h.1,Norm.swap (l:=b::l) h.2 h1 h2⟩
def Norm.add{l:List Pt}{p:Pt}(h:Norm l):Norm (gh l p):=by
 by_cases hl:l=[]
 .subst hl;trivial
 .obtain⟨m,x,rfl⟩:=LC hl
  rw[Lc];split
  .exact h.swap rfl rfl
  .rename_i hn
   exact h.snoc hn
def auE{p:Pt}{l:List Pt}(h:p∈l):SizeOf.sizeOf p.w<SizeOf.sizeOf l:=by
 have h1:=XJ h;have h2:SizeOf.sizeOf p.w<SizeOf.sizeOf p:=by cases p;simp only[Pt.w,Pt.mk.sizeOf_spec];omega
 omega
mutual
def Pt.wt:Pt->Nat
 |.mk _ _ t n o w=>4*t.length+n.length+o.length+8+cz w
def cz:List Pt->Nat
 |[]=>0
 |p::r=>p.wt+cz r
end
def Pt.uR(p:Pt):p.wt=4*p.t.length+p.n.length+p.o.length+8+cz p.w:=by cases p;simp only[Pt.wt,Pt.t,Pt.n,Pt.o,Pt.w]
def Gc:∀a b:List Pt,cz (a++b)=cz a+cz b
 |[],b=>by simp[cz]
 |p::a,b=>by simp only[FB,cz,Gc a b];omega
def aLJ(p:Pt):cz [p]=p.wt:=by simp[cz]
def adK{p:Pt}:∀{l:List Pt},p∈l->p.wt<=cz l
 |a::l,h=>by
  rcases iQ.1 h with rfl|h
  .simp only[cz];omega
  .have:=adK h
   simp only[cz];omega
def LD:∀l:List Pt,8*l.length<=cz l
 |[]=>by simp
 |p::l=>by have h1:=LD l;have h2:=p.uR;simp only[cz,bf];omega
def axf(l:List Pt)(p:Pt):cz (gh l p)<=cz l+p.wt:=by
 by_cases h:l=[]
 .subst h
  rw[auD];simp[cz]
 .obtain⟨m,x,rfl⟩:=LC h
  rw[Lc];split
  .have h1:=x.uR
   have h2:=p.uR;simp only[Gc,aLJ,Pt.wt,aIa];omega
  .simp only[Gc,aLJ]
   omega
def LF:∀(ps l:List Pt),cz (ps.foldl gh l)<=cz l+cz ps
 |[],l=>by simp[cz]
 |p::ps,l=>by have h1:=LF ps (gh l p);have h2:=axf l p;simp only[vQ,cz];omega
def aas(t:ag):(single t).length<=4*t.length+2:=by
 have:∀t:ag,(t.flatMap λb=>if b=39 then[39,92,39,39]else[b]).length<=4*t.length:=by
  intro t
  induction t with
  |nil=>simp
  |cons a t ih=>
   rw[oS,aIa,bf];split
   .simp only[bf,cm];omega
   .simp only[bf,cm];omega
 have:=this t;simp only[single,bf,aIa,cm];omega
mutual
def Pt.aeF:∀p:Pt,p.pr.length<=p.wt
 |.mk k q t n o w=>by
  have hw:=DM w;have hs:=aas t;have hq:∀x:ag,(D5 q x).length<=x.length+2:=by
   intro x;unfold D5;split
   .simp
   .omega
  simp only[Pt.pr,Pt.wt];split
  .split<;>omega
  .refine lH (hq _) ?_
   split
   .simp;omega
   .split
    .simp;omega
    .split
     .split
      .simp;omega
      .simp;omega
     .simp only[cm];omega
def DM:∀l:List Pt,(aIy l).length<=cz l
 |[]=>by simp[aIy]
 |p::l=>by have h1:=p.aeF;have h2:=DM l;simp only[aIy,cz,aIa];omega
end
def Bears(one:ag->Rs (List Pt×Nat)):Prop:=∀s x,one s=.ok x->cz x.1<=12*x.2
def DV(P:ag->Rs (List Pt)):Prop:=∀s l,P s=.ok l->cz l<=12*s.length
def aqS{P:ag->Rs (List Pt)}(_:DV P){q:Bool}{s:ag}{p:Pt}(h:GY P q s=.ok p):p.wt<=12*s.length+12:=by cases h
def aat{P:ag->Rs (List Pt)}(hP:DV P){q:Bool}{r:ag}{x:Pt×Nat}(h:k_ P q (36::r)=.ok x):x.1.wt<=12*x.2:=by
 unfold k_ at h;simp only[Bi,Ki]at h;split at h
 .split at h
  .cases h
  .rename_i t ht
   have hh:r.head?=some 40\/r.head?=some 123:=by assumption
   have h1:t.length+3<=(36::r).length:=by
    obtain⟨c,r2,rfl⟩:∃c r2,r=c::r2:=by
     cases r with
     |nil=>rcases hh with e|e<;>cases e
     |cons c r2=>exact⟨c,r2,rfl⟩
    rcases hh with e|e
    .obtain rfl:c=40:=by simpa using e
     have ht:eU 29 41 r2=some t:=ht;have:=aKN _ _ _ _ ht;simp only[bf];omega
    .obtain rfl:c=123:=by simpa using e
     have ht:eU 29 125 r2=some t:=ht;have:=aKN _ _ _ _ ht;simp only[bf];omega
   split at h
   .obtain⟨p,h2,h⟩:=Rs.iU h
    injection h with h;have h3:=aqS hP h2;rw[eH]at h3;rw[<-h];dsimp only;omega
   .split at h
    .injection h with h
     rw[<-h];simp only[Pt.wt,cz,cm,eH];omega
    .injection h with h
     rw[<-h];simp only[Pt.wt,cz,cm,eH];omega
 .split at h
  .injection h with h
   have:=aKh r;rw[<-h];simp only[Pt.wt,cz,cm,eH];omega
  .split at h
   .injection h with h
    rw[<-h];simp only[Pt.wt,cz,cm,eH];omega
   .injection h with h
    rw[<-h];simp[Pt.wt,cz]
def aKz(q:Bool)(t:ag):(tx q t).wt=4*t.length+8:=by simp[tx,Pt.wt,cz]
def aLH{one:ag->Rs (List Pt×Nat)}(ht:Aa one)(hb:Bears one):∀(n:Nat) (acc:List Pt) (s:ag) (l:List Pt),gQ one n acc s=.ok l->cz l<=cz acc+12*s.length
 |0,_,_,_,h=>by cases h
 |n+1,acc,[],l,h=>by injection h with h;rw[h];exact J5 _ _
 |n+1,acc,c::r,l,h=>by simp only[gQ]at h;obtain⟨x,h1,h⟩:=Rs.iU h;have h2:=ht _ _ h1;have h3:=aLH ht hb n _ _ _ h;have h4:=LF x.1 acc;have h5:=hb _ _ h1;rw[jx]at h3;omega
def Zo{P:ag->Rs (List Pt)}(hP:DV P):Bears (nJ P):=by
 intro s x h;cases s with
 |nil=>cases h
 |cons c r=>
  simp only[nJ]at h;split at h
  .rename_i hc
   subst hc;obtain⟨y,h1,h⟩:=Rs.iU h;injection h with h;have:=aat hP h1;rw[<-h];simpa[cz]using this
  .split at h
   .injection h with h
    rw[<-h];simp only[cz,aKz,eH];omega
   .injection h with h
    rw[<-h];simp[cz,aKz]
def adL{P:ag->Rs (List Pt)}(hP:DV P){s:ag}{l:List Pt}(h:aI5 P s=.ok l):cz l<=12*s.length+8:=by
 unfold aI5 at h;split at h
 .injection h with h
  rw[<-h];simp[cz,aKz]
 .have:=aLH (F5 P) (Zo hP) _ _ _ _ h
  simp only[cz]at this;omega
def abA{c:UInt8}{r t:ag}(hc:c=39\/c=34)(h:aIt 30 (c::r)=some t):t.length+1<=r.length:=by
 rcases hc with rfl|rfl
 .have:aJT r=some t:=h
  have:=Kt this;omega
 .have:eU 29 34 r=some t:=h
  have:=aKN 29 34 _ _ this;omega
def Zp{P:ag->Rs (List Pt)}(hP:DV P):Bears (rq P):=by
 intro s x h;cases s with
 |nil=>cases h
 |cons c r=>
  simp only[rq]at h;split at h
  .rename_i hc
   subst hc;obtain⟨y,h1,h⟩:=Rs.iU h;injection h with h;have:=aat hP h1;rw[<-h];simpa[cz]using this
  .split at h
   .split at h
    .cases h
    .rename_i hc t ht
     split at h
     .injection h with h
      rw[<-h];simp only[cz,aKz,eH];omega
     .rename_i aIC
      have hq:=abA (Or.resolve_left (by assumption) aIC) ht;split at h
      .obtain⟨l,h3,h⟩:=Rs.iU h
       injection h with h;have h4:=adL hP h3;rw[eH]at h4;rw[<-h];dsimp only;omega
      .injection h with h
       rw[<-h];simp only[cz,aKz,eH];omega
   .injection h with h
    rw[<-h];simp[cz,aKz]
def L6:∀L:Nat,DV (fe L)
 |0=>λs l h=>by cases h
 |L+1=>λs l h=>by have:=aLH (Q3 _) (Zp (L6 L)) _ _ _ _ h;simpa[cz]using this
end Go.Proofs.YtihaaoehhgmphaaGreatDoor.L
namespace Go.Proofs.YtihaaoehhgmphaaGreatDoor
open IntKind Go.RowKit Vc
set_option maxRecDepth 100000
variable{w:World}
def Ih(l:List (ag×Value)):List KV:=l.map λx=>(.string (S x.1),x.2)
def oB(w:World)(g:Nat)(l:List (ag×Value)):Prop:=dU w g (Ih l)/\∀x∈l,x.1.length<=1000
def oB.new(w:World):oB (w.alloc (.map #[] 0)) w.heap.size []:=⟨dU.new w,λx hx=>by cases hx⟩
def oB.mod{S:Nat->Prop}{w':World}{g:Nat}{l:List (ag×Value)}(h:oB w g l)(hm:Mod S w w')(hg:¬S g):oB w' g l:=⟨h.1.mod hm hg,h.2⟩
def S9{l:List (ag×Value)}(h:∀x∈l,x.1.length<=1000):∀p∈Ih l,∃lk,keyOf aM b6 p.1=some lk:=λp hp=>by obtain⟨x,hx,rfl⟩:=eo.1 hp;exact⟨_,aJp rfl (qs (h x hx))⟩
def dJ{T te:TypeId}(hT:Tryz.prog.underlying T=some (.map b6 te)){g:Nat}{l:List (ag×Value)}(h:oB w g l){k:ag}{v:Value}(hk:k.length<=1000)(hn:(l.all λx=>!decide (x.1=k))=true){K:World->Prop}
  (hK:∀w',oB w' g (l++[(k,v)])->Mod (λi=>i=g) w w'->w'.heap.size=w.heap.size->K w'):aIc aM T (.map (some g)) (.string (S k)) v w K:=by
 obtain⟨w',h1,h2,h3,h4⟩:=L5 wB hT h.1 (aJp rfl (qs hk)) (S9 h.2) (λp hp e=>by obtain⟨x,hx,rfl⟩:=eo.1 hp;have:=ql.1 hn x hx;simp[str_inj e]at this) v;refine⟨w',h1,hK w' ⟨by simpa[Ih]using h2,λx hx=>?_⟩ h3 h4⟩;rcases aIL.1 hx with hx|hx
 .exact h.2 x hx
 .obtain rfl:=aIA.1 hx
  exact hk
def aeG{T te:TypeId}(hT:Tryz.prog.underlying T=some (.map b6 te)){z:Value}(hz:∀w,(zeroValue te).run aM w=.ok z w){g:Nat}{l:List (ag×Value)}(h:oB w g l){k:ag}{v:Value}(hv:(k,v)∈l){K:Value->Bool->Prop}(hK:K v true):Ah aM T (.map (some g)) (.string (S k)) w K:=by
 rcases DI wB hT (hz w) h.1 (aJp rfl (qs (h.2 _ hv))) (S9 h.2) true with⟨v',h1,h2⟩|⟨h1,_⟩
 .have nd:((Ih l).map Prod.fst).Nodup:=by
   obtain⟨ms,c,_,hG⟩:=h.1;exact hG.nodup
  have e:v'=v:=by
   have m2:(Value.string (S k),v)∈Ih l:=eo.2 ⟨_,hv,rfl⟩;have key:∀(es:List KV),(es.map Prod.fst).Nodup->∀{a b c:Value},(a,b)∈es->(a,c)∈es->b=c:=by
    intro es
    induction es with
    |nil=>intro _ a b c h;cases h
    |cons x r ih=>
     intro nd a b c h1 h2;rw[fW,P8]at nd;rcases iQ.1 h1 with e1|h1
     .rcases iQ.1 h2 with e2|h2
      .exact(aKK (e1.trans e2.symm)).2
      .exact absurd (eo.2 ⟨_,h2,by rw[<-e1]⟩) nd.1
     .rcases iQ.1 h2 with e2|h2
      .exact absurd (eo.2 ⟨_,h1,by rw[<-e2]⟩) nd.1
      .exact ih nd.2 h1 h2
   exact key _ nd h1 m2
  subst e;exact⟨_,true,h2,hK⟩
 .exact absurd rfl (h1 (.string (S k),v) (eo.2 ⟨_,hv,rfl⟩))
def adM{T te:TypeId}(hT:Tryz.prog.underlying T=some (.map b6 te)){z:Value}(hz:∀w,(zeroValue te).run aM w=.ok z w){g:Nat}{l:List (ag×Value)}(h:oB w g l){k:ag}(hk:k.length<=1000)(hn:(l.all λx=>!decide (x.1=k))=true){K:Value->Bool->Prop}(hK:K z false):Ah aM T (.map (some g)) (.string (S k)) w K:=by
 rcases DI wB hT (hz w) h.1 (aJp rfl (qs hk)) (S9 h.2) true with⟨v',h1,_⟩|⟨_,h2⟩
 .obtain⟨x,hx,e⟩:=eo.1 h1
  have:=ql.1 hn x hx;simp[str_inj (aKK e).1]at this
 .exact⟨_,false,h2,hK⟩
end Go.Proofs.YtihaaoehhgmphaaGreatDoor
namespace Go.Proofs.YtihaaoehhgmphaaGreatDoor.A
open IntKind Go.RowKit Vc
abbrev lt(a b:ag):Bool:=Op.bytesLess a b
def lt_irrefl:∀a:ag,lt a a=false
 |[]=>rfl
 |a::x=>by have:=lt_irrefl x;simp only[lt,Op.bytesLess]at this⊢;simp[this]
def lt_trans:∀{a b c:ag},lt a b=true->lt b c=true->lt a c=true
 |[],[],_,h,_=>by cases h
 |_::_,[],_,h,_=>by cases h
 |_,_::_,[],_,h=>by cases h
 |[],_::_,_::_,_,_=>rfl
 |a::x,b::y,c::z,h1,h2=>by
  simp only[lt,Op.bytesLess,P7,eC,kQ,Du]at h1 h2⊢;rcases h1 with h1|⟨rfl,h1⟩
  .rcases h2 with h2|⟨rfl,_⟩
   .exact .inl (UInt8.lt_trans h1 h2)
   .exact .inl h1
  .rcases h2 with h2|⟨rfl,h2⟩
   .exact .inl h2
   .exact .inr ⟨rfl,lt_trans (a:=x) (b:=y) h1 h2⟩
def aeH:∀a b:ag,decide (Go.Lib.compareBytes a b<0)=lt a b
 |[],[]=>rfl
 |[],_::_=>rfl
 |_::_,[]=>rfl
 |a::x,b::y=>by
  have ih:=aeH x y;simp only[Go.Lib.compareBytes,lt,Op.bytesLess]
  by_cases h:a<b
  .simp[h]
  ·by_cases h':b<a
   .have:a≠b:=λe=>by subst e;exact h h'
    simp[h,h',this]
   .have:a=b:=Ya (Kw.1 h') (Kw.1 h)
    subst this;simp only[h,iR,Qv,vT,BEq.rfl,zu];exact ih
def adN:∀a b:ag,decide (Go.Lib.compareBytes a b=0)=decide (a=b)
 |[],[]=>rfl
 |[],_::_=>rfl
 |_::_,[]=>rfl
 |a::x,b::y=>by
  have ih:=adN x y;simp only[Go.Lib.compareBytes]
  by_cases h:a<b
  .have:a≠b:=λe=>by subst e;exact UInt8.lt_irrefl _ h
   simp[h,this]
  ·by_cases h':b<a
   .have:a≠b:=λe=>by subst e;exact h h'
    simp[h,h',this]
   .have:a=b:=Ya (Kw.1 h') (Kw.1 h)
    subst this;simp only[h,iR,List.cons.injEq,true_and];exact ih
def BI(c:Int):Bool:=(decide (65<=c)&&decide (c<=90))||(decide (97<=c)&&decide (c<=122))||decide (c=95)
def BU(c:Int):Bool:=decide (48<=c)&&decide (c<=57)
def letter(c:UInt8):Bool:=BI (c.toNat:Int)
def digit(c:UInt8):Bool:=BU (c.toNat:Int)
def bY(first:Bool):ag->Nat
 |[]=>0
 |c::r=>if(letter c||(!first&&digit c))=true then bY false r+1 else 0
def aKh:∀(b:Bool) (s:ag),bY b s<=s.length
 |_,[]=>aW _
 |b,c::r=>by have:=aKh false r;simp only[bY,bf];split<;>omega
def isName(s:ag):Bool:=!decide (s=[])&&decide (bY true s=s.length)
structure Vr where
 name:ag
 value:ag
 exp:Bool
 ro:Bool
deriving DecidableEq
def Vr.zero:Vr:=⟨[],[],false,false⟩
def An(v:Vr):List Value:=[.string (S v.name),.string (S v.value),.bool v.exp,.bool v.ro]
def vcs(l:List Vr):List Value:=l.flatMap An
def aau(l m:List Vr):vcs (l++m)=vcs l++vcs m:=by simp[vcs]
def RE(l:List Vr):(vcs l).length=l.length*4:=by
 induction l with
 |nil=>rfl
 |cons a l ih=>have e:vcs (a::l)=An a++vcs l:=rfl;rw[e,aIa,ih];simp[An];omega
def adO:∀{l:List Vr} {i:Nat} {x:Vr},l[i]?=some x->(vcs l)[i*4]?=some (.string (S x.name))/\(vcs l)[i*4+1]?=some (.string (S x.value))/\(vcs l)[i*4+2]?=some (.bool x.exp)/\(vcs l)[i*4+3]?=some (.bool x.ro)
 |a::l,0,x,h=>by obtain rfl:=bM h;exact⟨rfl,rfl,rfl,rfl⟩
 |a::l,i+1,x,h=>by have ih:=adO (l:=l) (i:=i) (by simpa using h);rw[show(i+1)*4=i*4+4 by omega];exact ih
def pos(n:ag):List Vr->Nat
 |[]=>0
 |a::r=>if lt a.name n=true then pos n r+1 else 0
def get(n:ag):List Vr->Option Vr
 |[]=>none
 |a::r=>if lt a.name n=true then get n r else if a.name=n then some a else none
def ins(v:Vr):List Vr->List Vr
 |[]=>[v]
 |a::r=>if lt a.name v.name=true then a::ins v r else if a.name=v.name then v::r else v::a::r
def del(n:ag):List Vr->List Vr
 |[]=>[]
 |a::r=>if lt a.name n=true then a::del n r else if a.name=n then r else a::r
def aeI(n:ag):∀l:List Vr,pos n l<=l.length
 |[]=>aW _
 |a::r=>by have:=aeI n r;simp only[pos,bf];split<;>omega
def S_(n:ag):∀l:List Vr,get n l=(match l[pos n l]? with
  |some v=>if v.name=n then some v else none
  |none=>none)
 |[]=>rfl
 |a::r=>by
  have ih:=S_ n r;simp only[pos,get];split
  .rw[ih]
   simp
  ·rfl
def aeJ{n:ag}:∀{l:List Vr} {i:Nat} {v:Vr},l[i]?=some v->i<pos n l->lt v.name n=true
 |a::r,i,v,h,hi=>by
  simp only[pos]at hi;split at hi
  .cases i with
   |zero=>obtain rfl:=bM h;assumption
   |succ i=>exact aeJ (l:=r) (i:=i) (by simpa using h) (by omega)
  .omega
def TO{n:ag}:∀{l:List Vr} {v:Vr},l[pos n l]?=some v->lt v.name n=false
 |a::r,v,h=>by
  simp only[pos]at h;split at h
  .exact TO (l:=r) (by simpa using h)
  .obtain rfl:=bM h
   rename_i h';simpa using h'
def BV(l:List Vr):Prop:=l.Pairwise λa b=>lt a.name b.name=true
def axg{n:ag}{l:List Vr}(hs:BV l){i:Nat}{v:Vr}(h:l[i]?=some v)(hi:pos n l<=i):lt v.name n=false:=by
 rcases Nat.eq_or_lt_of_le hi with e|hlt
 .rw[<-e]at h
  exact TO h
 .have hp:=mK hlt (Dn (jj.1 h).1)
  have h1:l[pos n l]?=some l[pos n l]:=gJ hp;have h2:=TO h1;have hil:=(jj.1 h).1;have h3:=List.pairwise_iff_getElem.1 hs (pos n l) i hp hil hlt;rw[(jj.1 h).2]at h3;cases h4:lt v.name n with
  |false=>rfl
  |true=>rw[lt_trans h3 h4]at h2;cases h2
def put_eq(v:Vr):∀l:List Vr,l.take (pos v.name l)++[v]++l.drop (pos v.name l+if(get v.name l).isSome=true then 1 else 0)=ins v l
 |[]=>rfl
 |a::r=>by
  have ih:=put_eq v r;simp only[pos,get,ins];split
  .rw[<-ih,Nat.add_right_comm (pos _ _) 1,Bi]
   rfl
  .split
   ·rfl
   ·rfl
def getD(n:ag)(l:List Vr):Vr:=(get n l).getD Vr.zero
def aeK(c:UInt8):Bool:=c==32||c==9||c==10
def trim(s:ag):ag:=s.dropWhile aeK
def acz(s:ag):(trim s).length<=s.length:=by
 induction s with
 |nil=>exact aW _
 |cons c s ih=>
  unfold trim;rw[Pk];split
  .exact lH ih (by simp)
  .exact aW _
def ru:List ag:=[[60,60],[62,62],[60,61],[62,61],[61,61],[33,61],[38,38],[124,124],[43,61],[45,61],[42,61],[47,61],[37,61],[43],[45],[42],[47],[37],[60],[62],[38],[124],[94],[63],[58],[61],[33],[126],[40],[41]]
def afq:List (List ag):=[[[124,124]],[[38,38]],[[124]],[[94]],[[38]],[[61,61],[33,61]],[[60],[60,61],[62],[62,61]],[[60,60],[62,62]],[[43],[45]],[[42],[47],[37]]]
def lv(l:Nat):List ag:=afq.getD l []
def Hs:List ag:=[[61],[43,61],[45,61],[42,61],[47,61],[37,61]]
def Ht:List ag:=[[45],[43],[126],[33]]
def de(s:ag):ag:=(ru.find? (λo=>o.isPrefixOf (trim s))).getD []
def acA{s:ag}(h:de s≠[]):de s∈ru/\(de s).isPrefixOf (trim s)=true:=by
 unfold de at h⊢;cases hf:ru.find? (λo=>o.isPrefixOf (trim s))with
 |none=>rw[hf]at h;exact absurd rfl h
 |some o=>exact⟨Jz hf,J9 (p:=λo:ag=>o.isPrefixOf (trim s)) hf⟩
def jh(s:ag):ag:=(trim s).drop (de s).length
def av4{s:ag}(h:de s≠[]):(jh s).length<s.length:=by
 have h1:=acz s;have h2:=(acA h).2;have h3:(de s).length<=(trim s).length:=by rw[OD]at h2;exact h2.length_le
 have h4:0<(de s).length:=mJ.2 h;unfold jh;rw[jx];omega
def CB(s:ag):Option (ag×ag×ag):=
 let t:=trim s
 let n:=bY true t
 let r:=t.drop n
 if n≠0/\de r∈Hs then some (t.take n,de r,jh r)else none
def asx{o:ag}(h:o∈Hs):o≠[]:=by intro e;subst e;revert h;decide
inductive Tm where
 |num(n:Int)
 |IQ(x:ag)
 |NA(op:ag)(t:Tm)
 |bin(op:ag)(a b:Tm)
 |AW(c a b:Tm)
 |set(x op:ag)(t:Tm)
inductive Md where
 |expr(d:Nat)
 |AW(d:Nat)
 |iq(l d:Nat)
 |loop(l d:Nat)(a:Tm)
 |sig(d:Nat)
def LG(c:UInt8):Bool:=letter c||digit c
def pV(s:ag):Nat:=(s.takeWhile LG).length
def auF(s:ag):pV s<=s.length:=(List.takeWhile_prefix _).length_le
def DW(c:UInt8):Bool:=decide (48<=c.toNat)&&decide (c.toNat<=57)||decide (97<=c.toNat)&&decide (c.toNat<=102)||decide (65<=c.toNat)&&decide (c.toNat<=70)
def pT(s:ag):Nat×ag:=match s with
 |a::b::c::r=>if a=48/\(b=120\/b=88)then(16,c::r)else if a=48 then(8,s)else(10,s)
 |[a,_]=>if a=48 then(8,s)else(10,s)
 |_=>(10,s)
def MN(s:ag):Option Int:=if(pT s).2.all DW=true then(match jl (pT s).1 (pT s).2 with|.ok n=>some n|.bad _=>none)else none
def agz(s:ag):Pr (Tm×ag):=
 let w:=s.take (pV s)
 let r:=s.drop (pV s)
 if isName w=true then .ok (.IQ w,r)else match MN w with
  |some n=>.ok (.num n,r)
  |none=>.bad 130
abbrev Rs:=Option (Pr (Tm×ag))
def AB(r:Rs)(f:Tm->ag->Rs):Rs:=match r with
 |none=>none
 |some (.bad k)=>some (.bad k)
 |some (.ok (t,s))=>f t s
def ps:Nat->Md->ag->Rs
 |0,_,_=>none
 |f+1,.expr d,s=>if 30<d then some (.bad 2)else match CB s with
  |some (n,o,r)=>AB (ps f (.expr (d+1)) r) λt r'=>some (.ok (.set n o.dropLast t,r'))
  |none=>ps f (.AW d) (trim s)
 |f+1,.AW d,s=>AB (ps f (.iq 0 d) s) λc r=>if de r≠[63]then some (.ok (c,trim r))else
   AB (ps f (.expr (d+1)) (jh r)) λa r2=>if de r2≠[58]then some (.bad 130)else
    AB (ps f (.AW (d+1)) (jh r2)) λb r3=>some (.ok (.AW c a b,r3))
 |f+1,.iq l d,s=>if 10<=l then ps f (.sig d) s else AB (ps f (.iq (l+1) d) s) λa r=>ps f (.loop l d a) r
 |f+1,.loop l d a,s=>if de s∈lv l then AB (ps f (.iq (l+1) d) (jh s)) λb r=>ps f (.loop l d (.bin (de s) a b)) r else some (.ok (a,trim s))
 |f+1,.sig d,s=>if 30<d then some (.bad 2)else
   if de s∈Ht then AB (ps f (.sig (d+1)) (jh s)) λt r=>some (.ok (.NA (de s) t,r))else
   if de s=[40]then AB (ps f (.expr (d+1)) (jh s)) λt r=>if de r≠[41]then some (.bad 130)else some (.ok (t,jh r))else
   some (agz (trim s))
def axh{o:ag}{l:Nat}(h:o∈lv l):o∈ru/\l<10:=by
 unfold lv at h
 by_cases hl:l<10
 .refine⟨?_,hl⟩
  have:∀l,l<10->∀o∈afq.getD l [],o∈ru:=by decide
  exact this l hl o h
 .rw[zh,th (by show 10<=l;omega)]at h
  cases h
def afr{o:ag}{l:Nat}(h:o∈lv l):o≠[]:=by
 intro e;subst e;have:([]:ag)∉ru:=by decide
 exact this (axh h).1
def Ch(c:UInt8):Nat:=if 48<=c.toNat/\c.toNat<=57 then c.toNat-48 else if 97<=c.toNat/\c.toNat<=102 then c.toNat-87 else if 65<=c.toNat/\c.toNat<=70 then c.toNat-55 else 99
def av5(s:ag):(pT s).1=8\/(pT s).1=10\/(pT s).1=16:=by
 unfold pT;split
 .split
  .exact .inr (.inr rfl)
  .split
   .exact .inl rfl
   .exact .inr (.inl rfl)
 .split
  .exact .inl rfl
  .exact .inr (.inl rfl)
 .exact .inr (.inl rfl)
def lvl(o:ag):Nat:=
 if o=[124,124]then 1 else if o=[38,38]then 2 else if o=[124]then 3 else if o=[94]then 4 else if o=[38]then 5 else
 if o=[61,61]then 6 else if o=[33,61]then 6 else if o=[60]then 7 else if o=[60,61]then 7 else if o=[62]then 7 else if o=[62,61]then 7 else
 if o=[60,60]then 8 else if o=[62,62]then 8 else if o=[43]then 9 else if o=[45]then 9 else if o=[42]then 10 else if o=[47]then 10 else if o=[37]then 10 else 0
inductive Cm where
 |expr(d:Nat)
 |cond(d:Nat)
 |bin(m d:Nat)
 |HL(m d:Nat)(a:Tm)
 |sV(d:Nat)
inductive Cl:Cm->ag->Pr (Tm×ag)->Prop
 |aGi {d:Nat} {s:ag} (h:30<d):Cl (.expr d) s (.bad 2)
 |aGs {d:Nat} {s n o r r':ag} {t:Tm} (h:¬30<d) (ha:CB s=some (n,o,r)) (h1:Cl (.expr (d+1)) r (.ok (t,r'))):Cl (.expr d) s (.ok (.set n o.dropLast t,r'))
 |aGd {d:Nat} {s n o r:ag} {k:Nat} (h:¬30<d) (ha:CB s=some (n,o,r)) (h1:Cl (.expr (d+1)) r (.bad k)):Cl (.expr d) s (.bad k)
 |aGj {d:Nat} {s:ag} {q:Pr (Tm×ag)} (h:¬30<d) (ha:CB s=none) (h1:Cl (.cond d) (trim s) q):Cl (.expr d) s q
 |aGt {d:Nat} {s:ag} {k:Nat} (h1:Cl (.bin 1 d) s (.bad k)):Cl (.cond d) s (.bad k)
 |aGz {d:Nat} {s r:ag} {c:Tm} (h1:Cl (.bin 1 d) s (.ok (c,r))) (ho:de r≠[63]):Cl (.cond d) s (.ok (c,trim r))
 |aGk {d:Nat} {s r:ag} {c:Tm} {k:Nat} (h1:Cl (.bin 1 d) s (.ok (c,r))) (ho:de r=[63]) (h2:Cl (.expr (d+1)) (jh r) (.bad k)):Cl (.cond d) s (.bad k)
 |aGf {d:Nat} {s r r2:ag} {c a:Tm} (h1:Cl (.bin 1 d) s (.ok (c,r))) (ho:de r=[63]) (h2:Cl (.expr (d+1)) (jh r) (.ok (a,r2))) (iX:de r2≠[58]):Cl (.cond d) s (.bad 130)
 |aGl {d:Nat} {s r r2:ag} {c a:Tm} {k:Nat} (h1:Cl (.bin 1 d) s (.ok (c,r))) (ho:de r=[63]) (h2:Cl (.expr (d+1)) (jh r) (.ok (a,r2))) (iX:de r2=[58]) (h3:Cl (.cond (d+1)) (jh r2) (.bad k)):Cl (.cond d) s (.bad k)
 |aGA {d:Nat} {s r r2 r3:ag} {c a b:Tm} (h1:Cl (.bin 1 d) s (.ok (c,r))) (ho:de r=[63]) (h2:Cl (.expr (d+1)) (jh r) (.ok (a,r2))) (iX:de r2=[58]) (h3:Cl (.cond (d+1)) (jh r2) (.ok (b,r3))):Cl (.cond d) s (.ok (.AW c a b,r3))
 |aGm {m d:Nat} {s:ag} {k:Nat} (h1:Cl (.sV d) s (.bad k)):Cl (.bin m d) s (.bad k)
 |bin {m d:Nat} {s r:ag} {a:Tm} {q:Pr (Tm×ag)} (h1:Cl (.sV d) s (.ok (a,r))) (h2:Cl (.HL m d a) r q):Cl (.bin m d) s q
 |aGu {m d:Nat} {s:ag} {a:Tm} (h:lvl (de s)<m\/lvl (de s)=0):Cl (.HL m d a) s (.ok (a,trim s))
 |aGv {m d:Nat} {s:ag} {a:Tm} {k:Nat} (h:¬(lvl (de s)<m\/lvl (de s)=0)) (h1:Cl (.bin (lvl (de s)+1) d) (jh s) (.bad k)):Cl (.HL m d a) s (.bad k)
 |aGn {m d:Nat} {s r:ag} {a b:Tm} {q:Pr (Tm×ag)} (h:¬(lvl (de s)<m\/lvl (de s)=0)) (h1:Cl (.bin (lvl (de s)+1) d) (jh s) (.ok (b,r))) (h2:Cl (.HL m d (.bin (de s) a b)) r q):Cl (.HL m d a) s q
 |aGo {d:Nat} {s:ag} (h:30<d):Cl (.sV d) s (.bad 2)
 |unOp {d:Nat} {s r:ag} {t:Tm} (h:¬30<d) (ho:de s∈Ht) (h1:Cl (.sV (d+1)) (jh s) (.ok (t,r))):Cl (.sV d) s (.ok (.NA (de s) t,r))
 |aGg {d:Nat} {s:ag} {k:Nat} (h:¬30<d) (ho:de s∈Ht) (h1:Cl (.sV (d+1)) (jh s) (.bad k)):Cl (.sV d) s (.bad k)
 |aGe {d:Nat} {s:ag} {k:Nat} (h:¬30<d) (ho:de s=[40]) (h1:Cl (.expr (d+1)) (jh s) (.bad k)):Cl (.sV d) s (.bad k)
 |aGh {d:Nat} {s r:ag} {t:Tm} (h:¬30<d) (ho:de s=[40]) (h1:Cl (.expr (d+1)) (jh s) (.ok (t,r))) (iX:de r≠[41]):Cl (.sV d) s (.bad 130)
 |aGw {d:Nat} {s r:ag} {t:Tm} (h:¬30<d) (ho:de s=[40]) (h1:Cl (.expr (d+1)) (jh s) (.ok (t,r))) (iX:de r=[41]):Cl (.sV d) s (.ok (t,jh r))
 |aGp {d:Nat} {s:ag} (h:¬30<d) (ho:de s∉Ht) (iX:de s≠[40]):Cl (.sV d) s (agz (trim s))
def axi(b:Bool):Int:=if b=true then 1 else 0
def sV(op:ag)(n:Int):Int:=if op=[45]then i64.wrap (0-n)else if op=[126]then bits .xor .i64 (-1) n else if op=[33]then axi (decide (n=0))else n
abbrev I64(n:Int):Prop:=-9223372036854775808<=n/\n<9223372036854775808
end Go.Proofs.YtihaaoehhgmphaaGreatDoor.A
namespace Go.Proofs.YtihaaoehhgmphaaGreatDoor.L
open IntKind Go.RowKit Vc
variable{w:World}{α:Type}
structure cu(α:Type)where
 sz:Nat
 E:World->(Nat->Prop)->α->List Value->Prop
 len:∀{w:World} {F:Nat->Prop} {x:α} {cs:List Value},E w F x cs->cs.length=sz
 one:∀{w:World} {F:Nat->Prop} {x:α} {cs:List Value},E w F x cs->∀u∈cs,u.oneCell'=true
 dV:∀{w w':World} {F G:Nat->Prop} {x:α} {cs:List Value},(∀k,F k->G k)->(∀a v,(∃k,F k/\a.block=k)->w.cell? a=some v->w'.cell? a=some v)->E w F x cs->E w' G x cs
def cu.Cs(e:cu α)(w:World)(F:Nat->Prop):List α->List Value->Prop
 |[],xs=>xs=[]
 |x::r,xs=>∃cs ys,xs=cs++ys/\e.E w F x cs/\e.Cs w F r ys
def pO(w:World)(b:Addr)(xs:List Value):Prop:=∀(j:Nat) (u:Value),xs[j]?=some u->w.cell? (b.add j)=some u
def cu.At(e:cu α)(w:World)(F:Nat->Prop)(l:List α)(v:Value):Prop:=∃p c,v=.slice p l.length c/\l.length<=c/\(l≠[]->∃b xs,p=some b/\F b.block/\e.Cs w F l xs/\pO w b xs)
def cu.Out(e:cu α)(w:World)(B:Nat)(t:TypeId)(l:List α)(v:Value):Prop:=∃p c xs,v=.slice p l.length c/\aV w B t e.sz v l.length xs/\e.Cs w (λk=>B<=k/\k<w.heap.size/\v.ownBlock≠some k) l xs
section
variable{e:cu α}{F G:Nat->Prop}
def cu.Cs.len:∀{l:List α} {xs:List Value},e.Cs w F l xs->xs.length=l.length*e.sz
 |[],xs,h=>by rw[show xs=[]from h,cm,cm,Dl]
 |x::r,xs,⟨cs,ys,h1,h2,h3⟩=>by rw[h1,aIa,e.len h2,cu.Cs.len h3,bf,Nat.succ_mul];omega
def cu.Cs.one:∀{l:List α} {xs:List Value},e.Cs w F l xs->∀u∈xs,u.oneCell'=true
 |[],xs,h=>by rw[show xs=[]from h];simp
 |x::r,xs,⟨cs,ys,h1,h2,h3⟩=>by
  intro u hu;rw[h1]at hu;rcases aIL.1 hu with hu|hu
  .exact e.one h2 u hu
  .exact cu.Cs.one h3 u hu
def cu.Cs.dV{w':World}(hF:∀k,F k->G k)(hw:∀a v,(∃k,F k/\a.block=k)->w.cell? a=some v->w'.cell? a=some v):∀{l:List α} {xs:List Value},e.Cs w F l xs->e.Cs w' G l xs
 |[],xs,h=>h
 |x::r,xs,⟨cs,ys,h1,h2,h3⟩=>⟨cs,ys,h1,e.dV hF hw h2,cu.Cs.dV hF hw h3⟩
def cu.Cs.append:∀{l m:List α} {xs ys:List Value},e.Cs w F l xs->e.Cs w F m ys->e.Cs w F (l++m) (xs++ys)
 |[],m,xs,ys,h,k=>by rw[show xs=[]from h];exact k
 |x::r,m,xs,ys,⟨cs,zs,h1,h2,h3⟩,k=>⟨cs,zs++ys,by rw[h1,mL],h2,cu.Cs.append h3 k⟩
def cu.Cs.single{x:α}{cs:List Value}(h:e.E w F x cs):e.Cs w F [x] cs:=⟨cs,[],(zl _).symm,h,rfl⟩
def cu.Cs.get:∀{l:List α} {xs:List Value} {i:Nat} {x:α},e.Cs w F l xs->l[i]?=some x->∃cs,e.E w F x cs/\∀(j:Nat) (u:Value),cs[j]?=some u->xs[i*e.sz+j]?=some u
 |y::r,xs,0,x,⟨cs,ys,h1,h2,h3⟩,hx=>by obtain rfl:=bM hx;refine⟨cs,h2,λj u hu=>?_⟩;rw[h1,Dl,cE,vJ (jj.1 hu).1];exact hu
 |y::r,xs,i+1,x,⟨cs,ys,h1,h2,h3⟩,hx=>by obtain⟨cs',g1,g2⟩:=cu.Cs.get (i:=i) h3 (by simpa using hx);refine⟨cs',g1,λj u hu=>?_⟩;have hl:=e.len h2;rw[h1,Nat.succ_mul,zg (by omega),hl,show i*e.sz+e.sz+j-e.sz=i*e.sz+j by omega];exact g2 j u hu
def pO.still{w':World}{b:Addr}{xs:List Value}(h:pO w b xs)(hm:Still w w'):pO w' b xs:=λj u hu=>hm.cell (h j u hu)
def pO.row{g:Nat}{t:TypeId}{xs:List Value}(h:Row w g t ⟨xs⟩):pO w ⟨g,0,none⟩ xs:=λj u hu=>by rw[bR,cE];exact h.aj hu
def cu.At.dV{w':World}(hF:∀k,F k->G k)(hw:∀a v,(∃k,F k/\a.block=k)->w.cell? a=some v->w'.cell? a=some v){l:List α}{v:Value}(h:e.At w F l v):e.At w' G l v:=by obtain⟨p,c,rfl,h2,h3⟩:=h;refine⟨p,c,rfl,h2,λhl=>?_⟩;obtain⟨b,xs,rfl,h4,h5,h6⟩:=h3 hl;exact⟨b,xs,rfl,hF _ h4,h5.dV hF hw,λj u hu=>hw _ _ ⟨_,h4,DD b j⟩ (h6 j u hu)⟩
def cu.At.mono(hF:∀k,F k->G k){l:List α}{v:Value}(h:e.At w F l v):e.At w G l v:=h.dV hF λ_ _ _ h=>h
def cu.At.any{l:List α}{v:Value}(h:e.At w F l v):e.At w (λ_=>True) l v:=h.mono λ_ _=>trivial
def cu.At.mod{S:Nat->Prop}{w':World}{l:List α}{v:Value}(h:e.At w F l v)(hm:Mod S w w')(hS:∀k,F k->¬S k):e.At w' F l v:=
 h.dV (λ_ h=>h) λa v ⟨k,hk,ea⟩ hc=>aKi hm (by rw[ea];exact hS k hk) hc
def cu.At.still{w':World}{l:List α}{v:Value}(h:e.At w F l v)(hm:Still w w'):e.At w' F l v:=h.mod hm λ_ _ h=>h
def cu.At.nil(e:cu α)(w:World)(F:Nat->Prop)(p:Option Addr)(c:Nat):e.At w F [] (.slice p 0 c):=⟨p,c,rfl,dx _,λh=>absurd rfl h⟩
def cu.At.form{l:List α}{v:Value}(h:e.At w F l v):∃p c,v=.slice p l.length c:=by obtain⟨p,c,he,_⟩:=h;exact⟨p,c,he⟩
def cu.At.one{l:List α}{v:Value}(h:e.At w F l v):v.oneCell'=true:=by obtain⟨p,c,rfl,_⟩:=h;rfl
def cu.At.len{l:List α}{p:Option Addr}{n c:Nat}(h:e.At w F l (.slice p n c)):n=l.length/\l.length<=c:=by obtain⟨p',c',he,h2,_⟩:=h;injection he with e1 e2 e3;subst e3;exact⟨e2,h2⟩
def cu.At.get{l:List α}{p:Option Addr}{n c:Nat}(h:e.At w F l (.slice p n c)){i:Nat}{x:α}(hx:l[i]?=some x):∃b cs,p=some b/\F b.block/\e.E w F x cs/\pO w (b.add (i*e.sz)) cs:=by
 obtain⟨p',c',he,h2,h3⟩:=h;injection he with e1 e2 e3;subst e1 e2 e3;have hl:l≠[]:=by rintro rfl;cases hx
 obtain⟨b,xs,rfl,h4,h5,h6⟩:=h3 hl;obtain⟨cs,g1,g2⟩:=h5.get hx;refine⟨b,cs,rfl,h4,g1,λj u hu=>?_⟩;rw[rH];exact h6 _ u (g2 j u hu)
def cu.At.tail{x:α}{r:List α}{a:Addr}{n c:Nat}(h:e.At w F (x::r) (.slice (some a) n c)):e.At w F r (.slice (some (a.add e.sz)) (n-1) (c-1)):=by obtain⟨p',c',he,h2,h3⟩:=h;injection he with e1 e2 e3;subst e1 e2 e3;obtain⟨b,xs,hb,h4,⟨cs,ys,h5,h6,h7⟩,h8⟩:=h3 (by simp);obtain rfl:=bM hb;refine⟨some (a.add e.sz),c-1,by rw[bf,Py],by simp only[bf]at h2;omega,λ_=>⟨_,ys,rfl,by rw[DD];exact h4,h7,λj u hu=>?_⟩⟩;rw[rH];refine h8 _ u ?_;have hl:=e.len h6;rw[h5,zg (by omega),show e.sz+j-cs.length=j by omega];exact hu
def cu.At.ptr{x:α}{r:List α}{p:Option Addr}{n c:Nat}(h:e.At w F (x::r) (.slice p n c)):∃a,p=some a:=by obtain⟨b,_,hb,_⟩:=h.get (i:=0) rfl;exact⟨b,hb⟩
def cu.At.row{g c:Nat}{t:TypeId}{l:List α}{xs:List Value}(hr:Row w g t ⟨xs⟩)(hc:e.Cs w F l xs)(hF:F g)(hl:l.length<=c):e.At w F l (.slice (some ⟨g,0,none⟩) l.length c):=
 ⟨_,c,rfl,hl,λ_=>⟨_,xs,rfl,hF,hc,pO.row hr⟩⟩
def cu.Out.nil(e:cu α)(w:World)(B:Nat)(t:TypeId):e.Out w B t [] (.slice none 0 0):=⟨none,0,[],rfl,aV.nil _ _ _ _,rfl⟩
def cu.Out.form{B:Nat}{t:TypeId}{l:List α}{v:Value}(h:e.Out w B t l v):∃p c,v=.slice p l.length c:=by obtain⟨p,c,_,he,_⟩:=h;exact⟨p,c,he⟩
def cu.Out.at{B:Nat}{t:TypeId}{l:List α}{v:Value}(h:e.Out w B t l v)(hz:0<e.sz):e.At w (λk=>B<=k/\k<w.heap.size) l v:=by obtain⟨p,c,xs,rfl,ho,hc⟩:=h;obtain⟨p',c',he,hle⟩:=ho.cap;injection he with _ _ e3;subst e3;refine⟨p,c,rfl,hle,λhl=>?_⟩;have hn:0<l.length:=mJ.2 hl;obtain⟨g,cap,he,hB,hg,_,hcell⟩:=ho.wz hn;injection he with e1 e2 e3;subst e1;refine⟨_,xs,rfl,⟨hB,hg⟩,hc.dV (λk hk=>⟨hk.1,hk.2.1⟩) (λ_ _ _ h=>h),λj u hu=>?_⟩;rw[bR,cE];exact hcell j u hu
def cu.Out.mod{S:Nat->Prop}{w':World}{B:Nat}{t:TypeId}{l:List α}{v:Value}(h:e.Out w B t l v)(hm:Mod S w w')(hS:∀k,B<=k->k<w.heap.size->¬S k):e.Out w' B t l v:=by obtain⟨p,c,xs,rfl,ho,hc⟩:=h;refine⟨p,c,xs,rfl,ho.mod hm λk hk=>hS k (ho.lt k hk).1 (ho.lt k hk).2,hc.dV (λk hk=>⟨hk.1,mK hk.2.1 hm.size,hk.2.2⟩) λa v ⟨k,hk,ea⟩ hcell=>aKi hm (by rw[ea];exact hS k hk.1 hk.2.1) hcell⟩
def cu.Out.still{w':World}{B:Nat}{t:TypeId}{l:List α}{v:Value}(h:e.Out w B t l v)(hm:Still w w'):e.Out w' B t l v:=h.mod hm λ_ _ _ h=>h
def cu.Out.low{B B':Nat}{t:TypeId}{l:List α}{v:Value}(h:e.Out w B t l v)(hB:B'<=B):e.Out w B' t l v:=by obtain⟨p,c,xs,rfl,ho,hc⟩:=h;exact⟨p,c,xs,rfl,ho.base λk hk=>lH hB (ho.lt k hk).1,hc.dV (λk hk=>⟨lH hB hk.1,hk.2⟩) λ_ _ _ h=>h⟩
def cu.Out.push{B bytes:Nat}{t:TypeId}{l:List α}{p:Option Addr}{n c:Nat}{x:α}{cs:List Value}{K:Option Addr->Nat->World->Prop}(ho:e.Out w B t l (.slice p n c))(hB:B<=w.heap.size)
  (hx:e.E w (λk=>B<=k/\k<w.heap.size/\(Value.slice p n c).ownBlock≠some k) x cs)(hs:n+1<=9223372036854775807)(hb:(n+1)*bytes<=140737488355328)
  (h:∀p' c' w',e.Out w' B t (l++[x]) (.slice p' (n+1) c')->Mod (λk=>(Value.slice p n c).ownBlock=some k) w w'->K p' c' w'):
  cS (w.alloc (.cells ⟨cs⟩ t)) (λw2=>dA w2 t e.sz bytes p n c (some (Addr.mk w.heap.size 0 none)) 1 K):=by
 obtain⟨p0,c0,xs,he,ho,hc⟩:=ho;injection he with e1 e2 e3;subst e1 e2 e3;have hl:=e.len hx;refine aP λw1 hr hst hz=>?_;refine qq (ho.still hst) (by omega) cs (by omega) (e.one hx) (λ_=>⟨_,rfl,λj u hu=>?_⟩) hs hb λp' c' w' ho' hm hk=>h p' c' w' ?_ (Mod.trans hst hm (λ_ h=>h.elim) (λ_ _ h=>h))
 .rw[bR,cE]
  exact hr.dY (by simpa using hu)
 .have Ny:=hm.size
  refine⟨p',c',xs++cs,by rw[aIa];rfl,by rw[aIa];exact ho',?_⟩;have hn:∀k,k<w.heap.size->(Value.slice p l.length c).ownBlock≠some k->(Value.slice p' (l.length+1) c').ownBlock≠some k:=by
   intro k hkl hne hk';rcases hk.own (n:=l.length)with hk|hk
   .exact hne (hk.symm.trans hk')
   .rw[hk']at hk
    have:=bM hk;omega
  refine(hc.append (cu.Cs.single hx)).dV (λk hk=>⟨hk.1,by omega,hn k hk.2.1 hk.2.2⟩) λa v ⟨k,hk,ea⟩ hcell=>aKi hm (by rw[ea];exact hk.2.2) (hst.cell hcell)
end
end Go.Proofs.YtihaaoehhgmphaaGreatDoor.L
namespace Go.Proofs.YtihaaoehhgmphaaGreatDoor.L
open IntKind
inductive Nd where
 |mk(k:Int)(neg:Bool)(nm:ag)(ws:List (List Pt))(gF:List (ag×List Pt))(rs:List (ag×List Pt))(os:List ag)(ks:List Nd)
namespace Nd
def k:Nd->Int
 |.mk k _ _ _ _ _ _ _=>k
def neg:Nd->Bool
 |.mk _ x _ _ _ _ _ _=>x
def nm:Nd->ag
 |.mk _ _ x _ _ _ _ _=>x
def ws:Nd->List (List Pt)
 |.mk _ _ _ x _ _ _ _=>x
def gF:Nd->List (ag×List Pt)
 |.mk _ _ _ _ x _ _ _=>x
def rs:Nd->List (ag×List Pt)
 |.mk _ _ _ _ _ x _ _=>x
def os:Nd->List ag
 |.mk _ _ _ _ _ _ x _=>x
def ks:Nd->List Nd
 |.mk _ _ _ _ _ _ _ x=>x
end Nd
abbrev Ts:=List (Nat×ag)
abbrev Pr(α:Type):=Ts->Rs (α×Ts)
def many{σ α:Type}(step:σ->Ts->Rs ((σ×Ts)⊕(α×Ts))):Nat->σ->Pr α
 |0,_,_=>.bad 0
 |n+1,a,s=>(step a s).and λx=>match x with
  |.inl y=>many step n y.1 y.2
  |.inr y=>.ok y
def B6{σ α:Type}(step:σ->Ts->Rs ((σ×Ts)⊕(α×Ts))):Prop:=∀a s x,step a s=.ok x->match x with
 |.inl y=>y.2.length<s.length
 |.inr y=>y.2.length<=s.length
def aJG{σ α:Type}(step:σ->Ts->Rs ((σ×Ts)⊕(α×Ts)))(a:σ):Pr α:=λs=>many step (s.length+1) a s
def abB{σ α:Type}{step:σ->Ts->Rs ((σ×Ts)⊕(α×Ts))}(hs:B6 step):∀(n m:Nat) (a:σ) (s:Ts),s.length<n->s.length<m->many step n a s=many step m a s
 |0,_,_,_,h,_=>by omega
 |_,0,_,_,_,h=>by omega
 |n+1,m+1,a,s,h1,h2=>by
  simp only[many];cases h:step a s with
  |bad e=>rfl
  |ok x=>
   have h3:=hs _ _ _ h;cases x with
   |inr y=>rfl
   |inl y=>have h3:y.2.length<s.length:=h3;exact abB hs n m y.1 y.2 (by omega) (by omega)
def K1{σ α:Type}{step:σ->Ts->Rs ((σ×Ts)⊕(α×Ts))}(hs:B6 step)(a:σ)(s:Ts):aJG step a s=(step a s).and λx=>match x with
  |.inl y=>aJG step y.1 y.2
  |.inr y=>.ok y:=by
 show((step a s).and λx=>match x with
  |.inl y=>many step s.length y.1 y.2
  |.inr y=>.ok y)=_
 cases h:step a s with
 |bad e=>rfl
 |ok x=>
  have h3:=hs _ _ _ h;cases x with
  |inr y=>rfl
  |inl y=>have h3:y.2.length<s.length:=h3;exact abB hs _ _ y.1 y.2 (by omega) (by omega)
def azf{α:Type}(f:Pr α):Prop:=∀s x,f s=.ok x->x.2.length<=s.length
def wR{α:Type}(f:Pr α):Prop:=∀s x,f s=.ok x->x.2.length<s.length
def abC{σ α:Type}{step:σ->Ts->Rs ((σ×Ts)⊕(α×Ts))}(hs:B6 step):∀(n:Nat) (a:σ) (s:Ts) (x:α×Ts),many step n a s=.ok x->x.2.length<=s.length
 |0,_,_,_,h=>by cases h
 |n+1,a,s,x,h=>by
  simp only[many]at h;obtain⟨y,h1,h⟩:=Rs.iU h;have h3:=hs _ _ _ h1;cases y with
  |inr y=>injection h with h;subst h;exact h3
  |inl y=>have h3:y.2.length<s.length:=h3;have:=abC hs n _ _ _ h;omega
def aav{σ α:Type}{step:σ->Ts->Rs ((σ×Ts)⊕(α×Ts))}(hs:B6 step)(a:σ):azf (aJG step a):=λs x h=>abC hs _ a s x h
def gS(k:Nat)(t:ag)(s:Ts):Bool:=decide (s.head?=some (k,t))
def aLv:Ts->Bool
 |(k,_)::_=>decide (k=0)
 |[]=>false
def Ua:Nat×ag:=(2,[10])
def jM:Ts->Ts
 |[]=>[]
 |x::r=>if x=Ua then jM r else x::r
abbrev HM:ag:=[59]
abbrev Hu:ag:=[59,59]
abbrev Ub:ag:=[40]
abbrev HN:ag:=[41]
abbrev afs:ag:=[124]
abbrev Uz:ag:=[38,38]
abbrev VP:ag:=[124,124]
abbrev aft:ag:=[60]
abbrev afu:ag:=[62]
abbrev aeL:ag:=[62,62]
abbrev uS:ag:=[33]
abbrev aeM:ag:=[123]
abbrev axj:ag:=[125]
abbrev tIf:ag:=[105,102]
abbrev ax_:ag:=[116,104,101,110]
abbrev aya:ag:=[101,108,105,102]
abbrev ayb:ag:=[101,108,115,101]
abbrev tFi:ag:=[102,105]
abbrev tDo:ag:=[100,111]
abbrev ayc:ag:=[100,111,110,101]
abbrev ayd:ag:=[101,115,97,99]
abbrev aeN:ag:=[119,104,105,108,101]
abbrev aeO:ag:=[117,110,116,105,108]
abbrev agA:ag:=[102,111,114]
abbrev afv:ag:=[99,97,115,101]
def B7:List ag:=[ax_,aya,ayb,tFi,tDo,ayc,ayd,axj]
def HO:Ts->Bool
 |[]=>true
 |(k,t)::_=>(decide (k=1)&&(decide (t=HN)||decide (t=Hu)))||(decide (k=0)&&B7.contains t)
def isName(t:ag):Bool:=decide (t≠[]/\bY t=t.length)
def oZ:Pr (List Pt)
 |(k,t)::r=>if k=0 then(fe 30 t).and λl=>.ok (l,r)else .bad 100
 |[]=>.bad 100
def BW(s:Ts):Bool:=gS 1 aft s||gS 1 afu s||gS 1 aeL s
def uz:Pr (ag×List Pt)
 |(_,op)::r=>(oZ r).and λx=>.ok ((op,x.1),x.2)
 |[]=>.bad 100
def wS(t:ag):Option (ag×ag):=if 0<bY t/\t[bY t]?=some 61 then some (t.take (bY t),t.drop (bY t+1))else none
def pP(a:List (List Pt)×List (ag×List Pt)×List (ag×List Pt))(s:Ts):Rs (((List (List Pt)×List (ag×List Pt)×List (ag×List Pt))×Ts)⊕(Nd×Ts)):=
 if BW s=true then(uz s).and λx=>.ok (.inl ((a.1,a.2.1,a.2.2++[x.1]),x.2))
 else match s with
 |(k,t)::r=>
  if k=0 then match(if a.1=[]then wS t else none)with
   |some y=>(fe 30 y.2).and λl=>.ok (.inl ((a.1,a.2.1++[(y.1,l)],a.2.2),r))
   |none=>(fe 30 t).and λl=>.ok (.inl ((a.1++[l],a.2.1,a.2.2),r))
  else if a.1.length+a.2.1.length+a.2.2.length=0 then .bad 100 else .ok (.inr (.mk 0 false [] a.1 a.2.1 a.2.2 [] [],(k,t)::r))
 |[]=>if a.1.length+a.2.1.length+a.2.2.length=0 then .bad 100 else .ok (.inr (.mk 0 false [] a.1 a.2.1 a.2.2 [] [],[]))
def aJq:Pr Nd:=aJG pP ([],[],[])
def B8(neg:Bool):List Nd->Nd
 |[k]=>if neg=true then .mk 1 true [] [] [] [] [] [k]else k
 |ks=>.mk 1 neg [] [] [] [] [] ks
def aJH(cmd:Pr Nd)(neg:Bool)(ks:List Nd)(s:Ts):Rs ((List Nd×Ts)⊕(Nd×Ts)):=
 if gS 1 afs s=true then(cmd (jM s.tail)).and λx=>.ok (.inl (ks++[x.1],x.2))else .ok (.inr (B8 neg ks,s))
def D6(cmd:Pr Nd):Pr Nd:=λs=>
 (cmd (if gS 0 uS s=true then s.tail else s)).and λx=>aJG (aJH cmd (gS 0 uS s)) [x.1] x.2
def Eo(cmd:Pr Nd):Pr Nd:=D6 cmd
def HP(ks:List Nd):Nd:=.mk 3 false [] [] [] [] [] ks
def Ao(cmd:Pr Nd)(ks:List Nd)(s:Ts):Rs ((List Nd×Ts)⊕(Nd×Ts)):=
 if HO s=true then .ok (.inr (HP ks,s))
 else(Eo cmd s).and λx=>
  if gS 1 HM x.2=true then .ok (.inl (ks++[x.1],jM x.2.tail))
  else if gS 2 [10] x.2=true then .ok (.inl (ks++[x.1],jM x.2))
  else .ok (.inr (HP (ks++[x.1]),x.2))
def HQ(cmd:Pr Nd):Pr Nd:=λs=>aJG (Ao cmd) [] (jM s)
def HR:List (Nat×ag):=[(1,Ub),(0,aeM),(0,tIf),(0,aeN),(0,aeO),(0,agA),(0,afv),(0,uS),(1,Uz),(1,VP)]++B7.map λt=>(0,t)
def kK(_:Nat):Pr Nd×Unit:=(aJq,())
def LH(s:Ts):Rs Nd:=(HQ (kK 30).1 s).and λx=>if x.2=[]then .ok x.1 else .bad 100
def aKV:∀s:Ts,(jM s).length<=s.length
 |[]=>aW _
 |x::r=>by
  have:=aKV r;simp only[jM];split
  .simp only[bf];omega
  .exact aW _
def Lp{k:Nat}{t:ag}{s:Ts}(h:gS k t s=true):s=(k,t)::s.tail:=by
 have h:=aT h;cases s with
 |nil=>cases h
 |cons a r=>rw[bM h];rfl
def Ta{k:Nat}{t:ag}{s:Ts}(h:gS k t s=true):s.tail.length+1=s.length:=by rw[Lp h];rfl
def aLK(s:Ts):s.tail.length<=s.length:=by rw[List.length_tail];omega
def ZO:wR oZ:=by
 intro s x h
 match s with
 |[]=>cases h
 |(k,t)::r=>
  simp only[oZ]at h;split at h
  .obtain⟨l,_,h⟩:=Rs.iU h
   injection h with h;subst h;exact nr _
  .cases h
def ZP:wR uz:=by
 intro s x h
 match s with
 |[]=>cases h
 |(k,t)::r=>simp only[uz]at h;obtain⟨l,h1,h⟩:=Rs.iU h;injection h with h;subst h;have:=ZO _ _ h1;simp only[bf];omega
def FY:B6 pP:=by
 intro a s x h;unfold pP at h;split at h
 .obtain⟨l,h1,h⟩:=Rs.iU h
  injection h with h;subst h;exact ZP _ _ h1
 .split at h
  .split at h
   .split at h<;>(obtain⟨l,h1,h⟩:=Rs.iU h;injection h with h;subst h;exact nr _)
   .split at h
    .cases h
    .injection h with h
     subst h;exact aW _
  .split at h
   .cases h
   .injection h with h
    subst h;exact aW _
def ao2:wR aJq:=by
 intro s x h;unfold aJq at h;rw[K1 FY]at h;obtain⟨y,h1,h⟩:=Rs.iU h;have h2:=FY _ _ _ h1;cases y with
 |inl y=>have h2:y.2.length<s.length:=h2;have:=aav FY _ _ _ h;omega
 |inr y=>
  exfalso;unfold pP at h1;split at h1
  .obtain⟨l,_,h1⟩:=Rs.iU h1
   cases h1
  .split at h1
   .split at h1
    .split at h1<;>(obtain⟨l,_,h1⟩:=Rs.iU h1;cases h1)
    .simp at h1
   .simp at h1
def ZQ{cmd:Pr Nd}(hc:wR cmd)(neg:Bool):B6 (aJH cmd neg):=by
 intro a s x h;unfold aJH at h;split at h
 .rename_i hp
  obtain⟨l,h1,h⟩:=Rs.iU h;injection h with h;subst h;have h2:=hc _ _ h1;have h3:=aKV s.tail;have h4:=Ta hp;show l.2.length<s.length
  omega
 .injection h with h
  subst h;exact aW _
def aqT{cmd:Pr Nd}(hc:wR cmd):wR (D6 cmd):=by intro s x h;obtain⟨y,h1,h⟩:=Rs.iU h;have h2:=hc _ _ h1;have h3:=aav (ZQ hc _) _ _ _ h;have h4:=aLK s;split at h2<;>omega
def abD{cmd:Pr Nd}(hc:wR cmd):wR (Eo cmd):=aqT hc
def apM{cmd:Pr Nd}(hc:wR cmd):B6 (Ao cmd):=by
 intro a s x h;unfold Ao at h;split at h
 .injection h with h
  subst h;exact aW _
 .obtain⟨y,h1,h⟩:=Rs.iU h
  have h2:=abD hc _ _ h1;have h3:=aKV y.2;have h4:=aKV y.2.tail;have h5:=aLK y.2;split at h
  .injection h with h
   subst h;show(jM y.2.tail).length<_
   omega
  .split at h
   .injection h with h
    subst h;show(jM y.2).length<_
    omega
   .injection h with h
    subst h;exact Dn h2
def acB(L:Nat):wR (kK L).1/\True:=⟨ao2,trivial⟩
end Go.Proofs.YtihaaoehhgmphaaGreatDoor.L
namespace Go.Proofs.YtihaaoehhgmphaaGreatDoor.L
open IntKind Go.RowKit Vc
variable{w:World}
def aKm:cu (List Pt)where
 sz:=1
 E:=λw F x cs=>∃v,cs=[v]/\cv w F x v
 len:=by rintro w F x cs ⟨v,rfl,_⟩;rfl
 one:=by rintro w F x cs ⟨v,rfl,h⟩ u hu;rw[aIA.1 hu];exact h.one
 dV:=by rintro w w' F G x cs hF hw ⟨v,rfl,h⟩;exact⟨v,rfl,h.dV hF hw⟩
def aIS:cu (ag×List Pt)where
 sz:=2
 E:=λw F x cs=>∃v,cs=[.string (S x.1),v]/\cv w F x.2 v
 len:=by rintro w F x cs ⟨v,rfl,_⟩;rfl
 one:=by
  rintro w F x cs ⟨v,rfl,h⟩ u hu;simp only[iQ,vO,vZ]at hu;rcases hu with rfl|rfl;·rfl
  .exact h.one
 dV:=by rintro w w' F G x cs hF hw ⟨v,rfl,h⟩;exact⟨v,rfl,h.dV hF hw⟩
def EK:cu ag where
 sz:=1
 E:=λ_ _ x cs=>cs=[.string (S x)]
 len:=by rintro w F x cs rfl;rfl
 one:=by rintro w F x cs rfl u hu;rw[aIA.1 hu];rfl
 dV:=by rintro w w' F G x cs _ _ rfl;rfl
def VQ:cu (Nat×ag)where
 sz:=2
 E:=λ_ _ x cs=>cs=[.int .i64 (x.1:Int),.string (S x.2)]
 len:=by rintro w F x cs rfl;rfl
 one:=by rintro w F x cs rfl u hu;simp only[iQ,vO,vZ]at hu;rcases hu with rfl|rfl<;>rfl
 dV:=by rintro w w' F G x cs _ _ rfl;rfl
mutual
def eM(w:World)(F:Nat->Prop):Nd->List Value->Prop
 |.mk k neg nm ws gF rs os ks,cs=>∃vw va vr vo p c,cs=[.int .i64 k,.bool neg,.string (S nm),vw,va,vr,vo,.slice p ks.length c]/\aKm.At w F ws vw/\aIS.At w F gF va/\aIS.At w F rs vr/\EK.At w F os vo/\ks.length<=c/\
   (ks≠[]->∃b xs,p=some b/\F b.block/\sK w F ks xs/\pO w b xs)
def sK(w:World)(F:Nat->Prop):List Nd->List Value->Prop
 |[],xs=>xs=[]
 |x::r,xs=>∃cs ys,xs=cs++ys/\eM w F x cs/\sK w F r ys
end
mutual
def eM.dV{F G:Nat->Prop}{w':World}(hF:∀k,F k->G k)(hw:∀a v,(∃k,F k/\a.block=k)->w.cell? a=some v->w'.cell? a=some v):∀{x:Nd} {cs:List Value},eM w F x cs->eM w' G x cs
 |.mk k neg nm ws gF rs os ks,cs,h=>by simp only[eM]at h⊢;obtain⟨vw,va,vr,vo,p,c,h1,h2,h3,h4,h5,h6,h7⟩:=h;refine⟨vw,va,vr,vo,p,c,h1,h2.dV hF hw,h3.dV hF hw,h4.dV hF hw,h5.dV hF hw,h6,λhl=>?_⟩;obtain⟨b,xs,hb,h8,h9,h10⟩:=h7 hl;exact⟨b,xs,hb,hF _ h8,sK.dV hF hw h9,λj u hu=>hw _ _ ⟨_,h8,DD b j⟩ (h10 j u hu)⟩
def sK.dV{F G:Nat->Prop}{w':World}(hF:∀k,F k->G k)(hw:∀a v,(∃k,F k/\a.block=k)->w.cell? a=some v->w'.cell? a=some v):∀{l:List Nd} {xs:List Value},sK w F l xs->sK w' G l xs
 |[],xs,h=>by simp only[sK]at h⊢;exact h
 |x::r,xs,h=>by simp only[sK]at h⊢;obtain⟨cs,ys,h1,h2,h3⟩:=h;exact⟨cs,ys,h1,eM.dV hF hw h2,sK.dV hF hw h3⟩
end
def eM.raw{F:Nat->Prop}{x:Nd}{cs:List Value}(h:eM w F x cs):∃vw va vr vo vk,cs=[.int .i64 x.k,.bool x.neg,.string (S x.nm),vw,va,vr,vo,vk]/\vw.oneCell'=true/\va.oneCell'=true/\vr.oneCell'=true/\vo.oneCell'=true/\vk.oneCell'=true:=by
 cases x with
 |mk k neg nm ws gF rs os ks=>simp only[eM]at h;obtain⟨vw,va,vr,vo,p,c,h1,h2,h3,h4,h5,_⟩:=h;exact⟨vw,va,vr,vo,_,h1,h2.one,h3.one,h4.one,h5.one,rfl⟩
def vm:cu Nd where
 sz:=8
 E:=eM
 len:=by intro w F x cs h;obtain⟨vw,va,vr,vo,vk,rfl,_⟩:=h.raw;rfl
 one:=by intro w F x cs h u hu;obtain⟨vw,va,vr,vo,vk,rfl,h1,h2,h3,h4,h5⟩:=h.raw;simp only[iQ,vO,vZ]at hu;rcases hu with rfl|rfl|rfl|rfl|rfl|rfl|rfl|rfl<;>first|rfl|assumption
 dV:=λhF hw h=>h.dV hF hw
def MO{F:Nat->Prop}:∀{l:List Nd} {xs:List Value},sK w F l xs↔vm.Cs w F l xs
 |[],xs=>by simp only[sK];exact Iff.rfl
 |x::r,xs=>by
  simp only[sK];constructor
  .rintro⟨cs,ys,h1,h2,h3⟩
   exact⟨cs,ys,h1,h2,MO.1 h3⟩
  .rintro⟨cs,ys,h1,h2,h3⟩
   exact⟨cs,ys,h1,h2,MO.2 h3⟩
abbrev l_(x:Nd)(vw va vr vo vk:Value):List Value:=[.int .i64 x.k,.bool x.neg,.string (S x.nm),vw,va,vr,vo,vk]
def eM.of{F:Nat->Prop}{x:Nd}{vw va vr vo vk:Value}(h1:aKm.At w F x.ws vw)(h2:aIS.At w F x.gF va)(h3:aIS.At w F x.rs vr)(h4:EK.At w F x.os vo)(h5:vm.At w F x.ks vk):eM w F x (l_ x vw va vr vo vk):=by
 cases x with
 |mk k neg nm ws gF rs os ks=>obtain⟨p,c,rfl,h6,h7⟩:=h5;simp only[eM];refine⟨vw,va,vr,vo,p,c,rfl,h1,h2,h3,h4,h6,λhl=>?_⟩;obtain⟨b,xs,h8,h9,h10,h11⟩:=h7 hl;exact⟨b,xs,h8,h9,MO.2 h10,h11⟩
def eM.out{F:Nat->Prop}{x:Nd}{cs:List Value}(h:eM w F x cs):∃vw va vr vo vk,cs=l_ x vw va vr vo vk/\aKm.At w F x.ws vw/\aIS.At w F x.gF va/\aIS.At w F x.rs vr/\EK.At w F x.os vo/\vm.At w F x.ks vk:=by
 cases x with
 |mk k neg nm ws gF rs os ks=>simp only[eM]at h;obtain⟨vw,va,vr,vo,p,c,h1,h2,h3,h4,h5,h6,h7⟩:=h;refine⟨vw,va,vr,vo,_,h1,h2,h3,h4,h5,p,c,rfl,h6,λhl=>?_⟩;obtain⟨b,xs,h8,h9,h10,h11⟩:=h7 hl;exact⟨b,xs,h8,h9,MO.1 h10,h11⟩
def eM.outs{F:Nat->Prop}{x:Nd}{cs:List Value}(h:eM w F x cs):∃pw cw pa ca pr cr po co pk ck,cs=l_ x (.slice pw x.ws.length cw) (.slice pa x.gF.length ca) (.slice pr x.rs.length cr) (.slice po x.os.length co) (.slice pk x.ks.length ck)/\
  aKm.At w F x.ws (.slice pw x.ws.length cw)/\aIS.At w F x.gF (.slice pa x.gF.length ca)/\aIS.At w F x.rs (.slice pr x.rs.length cr)/\EK.At w F x.os (.slice po x.os.length co)/\vm.At w F x.ks (.slice pk x.ks.length ck):=by
 obtain⟨vw,va,vr,vo,vk,rfl,h1,h2,h3,h4,h5⟩:=h.out;obtain⟨pw,cw,rfl⟩:=h1.form;obtain⟨pa,ca,rfl⟩:=h2.form;obtain⟨pr,cr,rfl⟩:=h3.form;obtain⟨po,co,rfl⟩:=h4.form;obtain⟨pk,ck,rfl⟩:=h5.form;exact⟨pw,cw,pa,ca,pr,cr,po,co,pk,ck,rfl,h1,h2,h3,h4,h5⟩
def eM.mono{F G:Nat->Prop}{x:Nd}{cs:List Value}(hF:∀k,F k->G k)(h:eM w F x cs):eM w G x cs:=h.dV hF λ_ _ _ h=>h
def eM.mod{F S:Nat->Prop}{w':World}{x:Nd}{cs:List Value}(h:eM w F x cs)(hm:Mod S w w')(hS:∀k,F k->¬S k):eM w' F x cs:=
 h.dV (λ_ h=>h) λa v ⟨k,hk,ea⟩ hc=>aKi hm (by rw[ea];exact hS k hk) hc
def eM.still{F:Nat->Prop}{w':World}{x:Nd}{cs:List Value}(h:eM w F x cs)(hm:Still w w'):eM w' F x cs:=h.mod hm λ_ _ h=>h
end Go.Proofs.YtihaaoehhgmphaaGreatDoor.L
namespace Go.Proofs.YtihaaoehhgmphaaGreatDoor
open IntKind Go.RowKit Vc
variable{w:World}{T g o B:Nat}{cs:List Value}{v:Value}{bs:List UInt8}
def aqU(hr:Row w g T ⟨cs⟩)(hlt:o+1<cs.length):aH3 OW #[.pointer (some ⟨g,o,none⟩)] w
  (λe w'=>e=.returned (.tuple #[])/\ef w' T g o B ((cs.set o (.pointer none)).set (o+1) (.slice none 0 0)) (.slice none 0 0) []/\Mod (λk=>k=g) w w'):=by
 refine aj9 _ _ _ ?_;refine aH5 hr (by simp;omega) (by simp[Value.oneCell']) λw1 cG aId hz1=>?_;show cJ (Addr.add _ 1) _ _ _ _
 rw[bR];refine aH5 cG (by simp[fR];omega) (by simp[Value.oneCell']) λw2 hr2 hm2 jU=>⟨rfl,ef.fresh hr2 ?_ ?_,Mod.trans aId hm2 (λ_ h=>h) (λ_ _ h=>h)⟩
 .show((cs.set o _).set (o+1) _)[o]?=_
  rw[pJ (by omega),qV (by omega)]
 .exact qV (by simp;omega)
end Go.Proofs.YtihaaoehhgmphaaGreatDoor
namespace Go.Proofs.YtihaaoehhgmphaaGreatDoor.P
open IntKind Go.RowKit Vc
abbrev rI:=UInt8->Bool
structure Pc where
 star:Bool
 set:rI
def single:List UInt8->UInt8×List UInt8
 |[]=>(0,[])
 |[a]=>(a,[])
 |a::b::r=>if a=92 then(b,r)else(a,b::r)
def yo(S:rI)(lo hi:UInt8):rI:=λc=>S c||(decide (lo.toNat<=c.toNat)&&decide (c.toNat<=hi.toNat))
def dash(lo:UInt8)(s:List UInt8):UInt8×List UInt8:=match s with
 |a::c::r=>if a=45/\c≠93 then single (c::r)else(lo,s)
 |_=>(lo,s)
def axk(s:List UInt8)(first:Bool):Bool:=match s with
 |[]=>false
 |a::_=>first||decide (a≠93)
def agB:Nat->List UInt8->Bool->rI->rI×List UInt8
 |0,s,_,S=>(S,s)
 |n+1,s,first,S=>if axk s first=true then agB n (dash (single s).1 (single s).2).2 false (yo S (single s).1 (dash (single s).1 (single s).2).1)else(S,s)
def TP:List UInt8->List UInt8×Bool
 |[]=>([],false)
 |a::r=>if a=33 then(r,true)else(a::r,false)
def mkSet(s:List UInt8):Option (rI×List UInt8):=
 match agB ((TP s).1.length+1) (TP s).1 true (λ_=>false)with
 |(_,[])=>none
 |(S,_::r)=>some (λc=>S c !=(TP s).2,r)
def afw(p:List UInt8):rI×List UInt8:=match p with
 |[]=>(λ_=>false,[])
 |a::r=>if a=63 then(λ_=>true,r)else if a=91 then(match mkSet r with
  |some x=>x
  |none=>(λc=>decide (c=91),r))else(λc=>decide (c=(single (a::r)).1),(single (a::r)).2)
def pieces:Nat->List UInt8->List Pc
 |0,_=>[]
 |_+1,[]=>[]
 |n+1,a::r=>if a=42 then⟨true,λ_=>false⟩::pieces n r else⟨false,(afw (a::r)).1⟩::pieces n (afw (a::r)).2
def VR(p:List UInt8):List Pc:=pieces p.length p
def plain:List UInt8->List UInt8
 |[]=>[]
 |[a]=>[a]
 |a::b::r=>if a=92 then b::plain r else a::plain (b::r)
def DX(a:UInt8):Bool:=a==42||a==63||a==91
def qu:List UInt8->Bool
 |[]=>false
 |[a]=>DX a
 |a::b::r=>if DX a then true else if a=92 then qu r else qu (b::r)
def escape(s:List UInt8):List UInt8:=s.flatMap λc=>[92,c]
def Zb{p:List UInt8}(h:p≠[]):(single p).2.length<p.length:=by
 match p,h with
 |[a],_=>simp[single]
 |a::b::r,_=>simp only[single];split<;>simp<;>omega
def aqV{p:List UInt8}(h:p≠[]):plain p=(single p).1::plain (single p).2:=by
 match p,h with
 |[a],_=>rfl
 |a::b::r,_=>simp only[plain,single];split<;>rfl
def ao3(a:UInt8)(r:List UInt8):qu (a::r)=(DX a||qu (single (a::r)).2):=by
 cases r with
 |nil=>simp[qu,single]
 |cons b r=>
  simp only[qu,single];cases h:DX a
  .simp only[kP,iR,vT];split<;>rfl
  .simp
def Q4:∀(p:List UInt8),(plain p).length<=p.length
 |[]=>aW _
 |[a]=>aW _
 |a::b::r=>by have h1:=Q4 r;have h2:=Q4 (b::r);simp only[plain];simp only[bf]at h2⊢;split<;>simp<;>omega
end Go.Proofs.YtihaaoehhgmphaaGreatDoor.P
namespace Go.Proofs.YtihaaoehhgmphaaGreatDoor
open IntKind Go.RowKit Vc
abbrev B:=BitVec 32
def uv(x:B):Value:=.int .u32 (x.toNat:Int)
def Sy:u32.bits=32:=rfl
def wrap_u32{n:Int}(h0:0<=n)(h1:n<4294967296):u32.wrap n=n:=by simp only[IntKind.wrap,IntKind.signed,IntKind.bits];simp;omega
def wrap_u32'(n:Nat):u32.wrap (n:Int)=((BitVec.ofNat 32 n).toNat:Int):=by simp only[IntKind.wrap,IntKind.signed,IntKind.bits,XX];simp
def Tc(x:B):BitVec.ofInt u32.bits (x.toNat:Int)=x:=by apply BitVec.eq_of_toNat_eq;have:=x.isLt;simp[BitVec.toNat_ofInt,Sy]
def azg(x:B):(x.toNat:Int)<4294967296:=by have:=x.isLt;omega
def TQ(x:B):u32.wrap (x.toNat:Int)=(x.toNat:Int):=wrap_u32 (by omega) (azg x)
def afx(x y:B):bits .and .u32 (x.toNat:Int) (y.toNat:Int)=((x&&&y).toNat:Int):=by simp only[bits,Tc];exact TQ _
def UA(x y:B):bits .or .u32 (x.toNat:Int) (y.toNat:Int)=((x|||y).toNat:Int):=by simp only[bits,Tc];exact TQ _
def afy(x y:B):bits .xor .u32 (x.toNat:Int) (y.toNat:Int)=((x^^^y).toNat:Int):=by simp only[bits,Tc];exact TQ _
def Mp(x y:B):u32.wrap ((x.toNat:Int)+(y.toNat:Int))=((x+y).toNat:Int):=by rw[<-Int.natCast_add,wrap_u32'];rfl
def Uc(x:B)(n:Nat):Int.fdiv (x.toNat:Int) (2^(min n u32.bits))=((x>>>n).toNat:Int):=by
 rw[OE _ (Int.pow_nonneg (by decide))];have h:((2:Int)^(min n u32.bits))=((2^(min n 32):Nat):Int):=by rw[Sy];push_cast;rfl
 rw[h,<-Yf];congr 1;simp only[BitVec.toNat_ushiftRight,Xt]
 by_cases hn:n<=32
 .rw[vR hn]
 .rw[Yg (by omega)]
  have h1:=x.isLt;have h2:(2:Nat)^32<=2^n:=O7 (by decide) (by omega);rw[Yh h1,Yh (by omega)]
def afz(x:B)(n:Nat):u32.wrap ((x.toNat:Int)*2^(min n u32.bits))=((x<<<n).toNat:Int):=by
 have h:((2:Int)^(min n u32.bits))=((2^(min n 32):Nat):Int):=by rw[Sy];push_cast;rfl
 rw[h,<-Int.natCast_mul,wrap_u32'];congr 1;simp only[XX,BitVec.toNat_shiftLeft,Nat.shiftLeft_eq]
 by_cases hn:n<=32
 .rw[vR hn]
 .rw[Yg (by omega)]
  have h2:(2:Nat)^n=2^32*2^(n-32):=by rw[<-Nat.pow_add];congr 1;omega
  rw[h2,Yi,<-Nat.mul_assoc,Nat.mul_right_comm,Yi]
def axl(b:UInt8):u32.wrap (b.toNat:Int)=((BitVec.ofNat 32 b.toNat).toNat:Int):=wrap_u32' _
def jQ(x:B)(n:Nat):B:=(x>>>n)|||(x<<<(32-n))
def agC(x:B):B:=jQ x 7^^^jQ x 18^^^(x>>>3)
def agD(x:B):B:=jQ x 17^^^jQ x 19^^^(x>>>10)
def azh(x:B):B:=jQ x 2^^^jQ x 13^^^jQ x 22
def azi(x:B):B:=jQ x 6^^^jQ x 11^^^jQ x 25
def VS(e f g:B):B:=(e&&&f)^^^(~~~e&&&g)
def UB(a b c:B):B:=(a&&&b)^^^(a&&&c)^^^(b&&&c)
def auG(e f g:B):g^^^(e&&&(f^^^g))=VS e f g:=by apply Xv;intro i hi;simp only[VS,XY,XZ,BitVec.getLsbD_not,hi,decide_true,zu];cases e.getLsbD i<;>cases f.getLsbD i<;>cases g.getLsbD i<;>rfl
def asy(a b c:B):(a&&&b)|||(c&&&(a|||b))=UB a b c:=by apply Xv;intro i hi;simp only[UB,XY,XZ,BitVec.getLsbD_or];cases a.getLsbD i<;>cases b.getLsbD i<;>cases c.getLsbD i<;>rfl
structure S8 where
 a:B
 b:B
 c:B
 d:B
 e:B
 f:B
 g:B
 h:B
def S8.list(s:S8):List B:=[s.a,s.b,s.c,s.d,s.e,s.f,s.g,s.h]
def dF(l:List B):List Value:=l.map uv
def VT(s:S8)(k w:B):S8:=
 let t:=s.h+azi s.e+VS s.e s.f s.g+k+w
 ⟨t+azh s.a+UB s.a s.b s.c,s.a,s.b,s.c,s.d+t,s.e,s.f,s.g⟩
def yp:List B->List B->S8->S8
 |k::ks,w::ws,s=>yp ks ws (VT s k w)
 |_,_,s=>s
def BX(b:List UInt8)(i:Nat):B:=
 (BitVec.ofNat 32 (b.getD (4*i) 0).toNat<<<24)|||(BitVec.ofNat 32 (b.getD (4*i+1) 0).toNat<<<16)|||(BitVec.ofNat 32 (b.getD (4*i+2) 0).toNat<<<8)|||BitVec.ofNat 32 (b.getD (4*i+3) 0).toNat
def B9(b:List UInt8)(l:List B):B:=
 if l.length<16 then BX b l.length
 else l.getD (l.length-16) 0+agC (l.getD (l.length-15) 0)+l.getD (l.length-7) 0+agD (l.getD (l.length-2) 0)
def grow(b:List UInt8):Nat->List B->List B
 |0,l=>l
 |n+1,l=>grow b n (l++[B9 b l])
def sched(b:List UInt8):List B:=grow b 64 []
def ks:List B:=[0x428a2f98#32,0x71374491#32,0xb5c0fbcf#32,0xe9b5dba5#32,0x3956c25b#32,0x59f111f1#32,0x923f82a4#32,0xab1c5ed5#32,
 0xd807aa98#32,0x12835b01#32,0x243185be#32,0x550c7dc3#32,0x72be5d74#32,0x80deb1fe#32,0x9bdc06a7#32,0xc19bf174#32,
 0xe49b69c1#32,0xefbe4786#32,0x0fc19dc6#32,0x240ca1cc#32,0x2de92c6f#32,0x4a7484aa#32,0x5cb0a9dc#32,0x76f988da#32,
 0x983e5152#32,0xa831c66d#32,0xb00327c8#32,0xbf597fc7#32,0xc6e00bf3#32,0xd5a79147#32,0x06ca6351#32,0x14292967#32,
 0x27b70a85#32,0x2e1b2138#32,0x4d2c6dfc#32,0x53380d13#32,0x650a7354#32,0x766a0abb#32,0x81c2c92e#32,0x92722c85#32,
 0xa2bfe8a1#32,0xa81a664b#32,0xc24b8b70#32,0xc76c51a3#32,0xd192e819#32,0xd6990624#32,0xf40e3585#32,0x106aa070#32,
 0x19a4c116#32,0x1e376c08#32,0x2748774c#32,0x34b0bcb5#32,0x391c0cb3#32,0x4ed8aa4a#32,0x5b9cca4f#32,0x682e6ff3#32,
 0x748f82ee#32,0x78a5636f#32,0x84c87814#32,0x8cc70208#32,0x90befffa#32,0xa4506ceb#32,0xbef9a3f7#32,0xc67178f2#32]
def aKA:S8:=⟨0x6a09e667#32,0xbb67ae85#32,0x3c6ef372#32,0xa54ff53a#32,0x510e527f#32,0x9b05688c#32,0x1f83d9ab#32,0x5be0cd19#32⟩
def S8.plus(s x:S8):S8:=⟨s.a+x.a,s.b+x.b,s.c+x.c,s.d+x.d,s.e+x.e,s.f+x.f,s.g+x.g,s.h+x.h⟩
def comp(s:S8)(b:List UInt8):S8:=s.plus (yp ks (sched b) s)
def aLq(f:S8->List UInt8->S8):Nat->List UInt8->S8->S8
 |0,_,s=>s
 |n+1,t,s=>aLq f n (t.drop 64) (f s (t.take 64))
def Ab:Nat->List UInt8->S8->S8:=aLq comp
def apN(t:List UInt8)(s:S8):Ab 0 t s=s:=by rw[Ab,aLq]
def apO(n:Nat)(t:List UInt8)(s:S8):Ab (n+1) t s=Ab n (t.drop 64) (comp s (t.take 64)):=by rw[Ab,aLq]
def aJC(n i:Nat):UInt8:=UInt8.ofNat ((n*8)>>>(8*i))
def padding(n:Nat):List UInt8:=128::List.replicate ((119-n%64)%64) 0++[aJC n 7,aJC n 6,aJC n 5,aJC n 4,aJC n 3,aJC n 2,aJC n 1,aJC n 0]
def UC:List UInt8:=[48,49,50,51,52,53,54,55,56,57,97,98,99,100,101,102]
def aJK(x:B)(k:Nat):UInt8:=UC.getD ((x>>>k)&&&15#32).toNat 0
def AD(x:B):List UInt8:=[aJK x 28,aJK x 24,aJK x 20,aJK x 16,aJK x 12,aJK x 8,aJK x 4,aJK x 0]
def S8.hex(s:S8):List UInt8:=s.list.flatMap AD
def gG(s:List UInt8):List UInt8:=(Ab ((s++padding s.length).length/64) (s++padding s.length) aKA).hex
end Go.Proofs.YtihaaoehhgmphaaGreatDoor
namespace Go.Proofs.YtihaaoehhgmphaaGreatDoor
open IntKind Go.RowKit Vc
variable{w:World}
def Row.at{w:World}{g:Nat}{t:TypeId}{cs:List Value}(h:Row w g t ⟨cs⟩){k:Nat}{v:Value}(hv:cs[k]?=some v):w.cell? ((Addr.mk g 0 none).add (k*1))=some v:=by rw[bR,cE,eX];exact h.dY (by simpa using hv)
def Row.yO{w:World}{g:Nat}{t:TypeId}{cs:List Value}(h:Row w g t ⟨cs⟩){k:Nat}{v:Value}(hv:cs[k]?=some v):w.cell? ((Addr.mk g 0 none).add k)=some v:=by rw[bR,cE];exact h.dY (by simpa using hv)
def Row.Ci{w:World}{g:Nat}{t:TypeId}{cs:List Value}(h:Row w g t ⟨cs⟩){k:Nat}(hk:k<cs.length):Wr w ((Addr.mk g 0 none).add (k*1)):=by rw[bR,cE,eX];exact h.wr _ (by simpa using hk)
def Row.setAt{w:World}{g:Nat}{t:TypeId}{cs:List Value}(h:Row w g t ⟨cs⟩)(k:Nat)(u:Value):Row (w.setCell ((Addr.mk g 0 none).add (k*1)) u) g t ⟨cs.set k u⟩:=by rw[bR,cE,eX];exact h.gZ _ _
def Row.HS{w:World}{g p:Nat}{t:TypeId}{cs:Array Value}(h:Row w g t cs)(hne:g≠p)(k:Nat)(u:Value):Row (w.setCell ((Addr.mk p 0 none).add (k*1)) u) g t cs:=by rw[bR,cE,eX];exact h.far hne _
def Mod.setAt{S:Nat->Prop}{a b:World}(h:Mod S a b){p:Nat}(hp:S p\/a.heap.size<=p)(k:Nat)(u:Value):Mod S a (b.setCell ((Addr.mk p 0 none).add (k*1)) u):=by rw[bR,cE,eX];exact h.setCell hp _
def asz:∀n:Fin 32,n.val≠0->bits .and .u64 (u64.wrap (i64.wrap (0-(n.val:Int)))) 31=((32-n.val:Nat):Int):=by decide
def vY(x:B)(n:Nat)(h0:n≠0)(h1:n<32):aH3 aJy #[uv x,.int .i64 (n:Int)] w (λe w'=>e=.returned (uv (jQ x n))/\w'=w):=by
 refine amq _ _ _ _ ?_;have hr:=asz ⟨n,h1⟩ h0;dsimp only at hr;have hw:u64.wrap (32-((32-n:Nat):Int))=((n:Nat):Int):=by rw[wrap_u64 (by omega) (by omega)];omega
 refine Calls.mono (ajX _ _ _ (λe w'=>e=.returned (uv (jQ x n))/\w'=w) ?_) ?_
 .unfold Xz
  simp only[hr,hw,bT,afz,Uc,UA];refine⟨by omega,by omega,?_,by first|trivial|rfl⟩;rw[BitVec.or_comm];rfl
 .rintro _ w' ⟨rfl,rfl⟩
  exact .inl ⟨_,rfl,rfl,rfl⟩
def asA(b:List UInt8)(h:4<=b.length):aH3 QF #[.string (S b)] w (λe w'=>e=.returned (uv (BX b 0))/\w'=w.drew):=by
 refine am3 _ _ _ ?_
 match b,h with
 |b0::b1::b2::b3::r,_=>refine⟨by decide,b0,rfl,by decide,by decide,b1,rfl,by decide,by decide,b2,rfl,by decide,by decide,b3,rfl,?_,rfl⟩;simp only[axl,afz,UA];rfl
def apP(b:List UInt8)(i:Nat):BX (b.drop (4*i)) 0=BX b i:=by simp[BX,zh,Bl]
def ZR(b:List UInt8):∀(n:Nat) (l:List B),(grow b n l).length=l.length+n
 |0,l=>rfl
 |n+1,l=>by rw[grow,ZR b n];simp;omega
def Q5(b:List UInt8):(sched b).length=64:=by simp[sched,ZR]
def ry(l:List B)(n:Nat):List Value:=dF (l++List.replicate (n-l.length) 0#32)
def Zc{l:List B}{n:Nat}(h:l.length<=n):(ry l n).length=n:=by simp[ry,dF];omega
def K2{l:List B}{n k:Nat}(h:k<l.length):(ry l n)[k]?=some (.int .u32 ((l.getD k 0).toNat:Int)):=by
 have e:(l++List.replicate (n-l.length) 0#32)[k]?=some l[k]:=by rw[vJ h];simp[h]
 simp only[ry,dF,vM,e,FE,uv,zh,gJ h,J6]
def aaw{l:List B}{n:Nat}(h:l.length<n)(x:B):(ry l n).set l.length (.int .u32 (x.toNat:Int))=ry (l++[x]) n:=by
 have e:n-l.length=(n-(l++[x]).length)+1:=by simp;omega
 unfold ry;rw[e,JQ];simp[dF,uv]
def apQ{l:List B}{n:Nat}(h:l.length=n):ry l n=dF l:=by simp[ry,h]
def aqW:ry [] 64=List.replicate 64 (.int .u32 0):=by simp[ry,dF,uv]
def LJ(l:List B):∀v∈dF l,v.oneCell'=true:=by intro v hv;simp only[dF,eo]at hv;obtain⟨x,_,rfl⟩:=hv;rfl
def aax(l:List B):(dF l).length=l.length:=by simp[dF]
def LK{l:List B}{k:Nat}(h:k<l.length):(dF l)[k]?=some (.int .u32 ((l.getD k 0).toNat:Int)):=by simp[dF,uv,h,zh]
def aqX(b:List UInt8)(hb:b.length=64):aH3 Qt #[.string (S b)] w (λe w'=>e=.returned (.agg ⟨dF (sched b)⟩)/\Still w w'):=by
 refine amK _ _ _ ?_;refine⟨λx w1=>∃l:List B,x=(l.length:Int)/\l.length<=64/\grow b (64-l.length) l=sched b/\Row w1 w.heap.size 474 ⟨ry l 64⟩/\Still w w1,λx _=>(64-x).toNat,?_,?_⟩
 .refine⟨[],rfl,by simp,rfl,?_,(Mod.refl _ _).alloc _⟩
  rw[aqW];exact Row.new _ _ _
 .rintro _ _ w1 ⟨l,rfl,hl,hg,hr,hm⟩
  have w1e:i64.wrap ((l.length:Int)+1)=((l.length+1:Nat):Int):=by rw[wrap_i64 (by omega) (by omega)];omega
  refine aB (λhx=>?_) (λhx=>?_)
  .have hx:=aT hx
   have hx':l.length<64:=by omega
   have VU:grow b (64-(l.length+1)) (l++[B9 b l])=sched b:=by rw[<-hg,show 64-l.length=(64-(l.length+1))+1 by omega];rfl
   refine aB (λaIH=>?_) (λaIH=>?_)
   .have aIH:=aT aIH
    have w4:i64.wrap (4*(l.length:Int))=((4*l.length:Nat):Int):=by rw[wrap_i64 (by omega) (by omega)];omega
    rw[w4,bT];refine⟨by omega,by omega,(asA _ (by simp;omega)).mono ?_⟩;rintro _ w2 ⟨rfl,rfl⟩;rw[apP];refine .inl ⟨_,rfl,by omega,by omega,?_⟩;rw[w1e,bT];refine⟨hr.drew.Ci (by rw[Zc (by omega)];omega),⟨l++[BX b l.length],by simp,by simp;omega,?_,?_,hm.drew.setAt (.inr (aW _)) _ _⟩,by dsimp only;omega⟩
    .have:B9 b l=BX b l.length:=by unfold B9;rw[aR (by omega)]
     rw[this]at VU;simpa using VU
    .rw[<-aaw hx']
     exact hr.drew.setAt _ _
   .have aIH:=a_ aIH
    have e15:i64.wrap ((l.length:Int)-15)=((l.length-15:Nat):Int):=by rw[wrap_i64 (by omega) (by omega)];omega
    have e2:i64.wrap ((l.length:Int)-2)=((l.length-2:Nat):Int):=by rw[wrap_i64 (by omega) (by omega)];omega
    have e16:i64.wrap ((l.length:Int)-16)=((l.length-16:Nat):Int):=by rw[wrap_i64 (by omega) (by omega)];omega
    have e7:i64.wrap ((l.length:Int)-7)=((l.length-7:Nat):Int):=by rw[wrap_i64 (by omega) (by omega)];omega
    simp only[e15,e2,e16,e7,w1e,bT];refine⟨by omega,by omega,_,hr.at (K2 (by omega)),by omega,by omega,_,hr.at (K2 (by omega)),
     λwq=>Row wq w.heap.size 474 ⟨ry l 64⟩/\Still w wq,⟨hr.drew.drew,hm.drew.drew⟩,by omega,by omega,_,λwq hq=>hq.1.at (K2 (by omega)),by omega,by omega,_,λwq hq=>hq.1.at (K2 (by omega)),by decide,by decide,?_⟩
    refine(vY _ 7 (by decide) (by decide)).mono ?_;rintro _ _ ⟨rfl,rfl⟩;refine .inl ⟨_,rfl,⟨hr.drew.drew,hm.drew.drew⟩,(vY _ 18 (by decide) (by decide)).mono ?_⟩;rintro _ _ ⟨rfl,rfl⟩;refine .inl ⟨_,rfl,⟨hr.drew.drew,hm.drew.drew⟩,(vY _ 17 (by decide) (by decide)).mono ?_⟩;rintro _ _ ⟨rfl,rfl⟩;refine .inl ⟨_,rfl,⟨hr.drew.drew,hm.drew.drew⟩,(vY _ 19 (by decide) (by decide)).mono ?_⟩;rintro _ _ ⟨rfl,rfl⟩;refine .inl ⟨_,rfl,?_⟩;simp only[Mp,afy,Uc];refine⟨⟨hr.drew.drew,hm.drew.drew⟩,by omega,by omega,hr.drew.drew.Ci (by rw[Zc (by omega)];omega),⟨l++[B9 b l],by simp,by simp;omega,by simpa using VU,?_,hm.drew.drew.setAt (.inr (aW _)) _ _⟩,by omega⟩;rw[<-aaw hx'];have hn:B9 b l=l.getD (l.length-16) 0+l.getD (l.length-7) 0+agC (l.getD (l.length-15) 0)+agD (l.getD (l.length-2) 0):=by
     unfold B9;rw[aL (by omega)]
     ac_rfl
    rw[hn];exact hr.drew.drew.setAt _ _
  .have hx:=a_ hx
   have hx:l.length=64:=by omega
   rw[hx,Ku,grow]at hg;rw[apQ hx]at hr;rw[<-hg];clear hg;have hs:(dF l).length=64:=by rw[aax,hx]
   have ho:=LJ l;generalize dF l=W at hr hs ho⊢;refine⟨W,hs,?_,hs,?_,w.heap.size,0,W,474,rfl,hr,by simp,W,hs,?_,rfl,?_⟩
   .intro j u hu
    rw[bR,cE];exact hr.dY (by simpa using hu)
   .exact ho
   .intro j u hu
    rw[bR,cE];exact(hr.setRow _ (by simp)).dY (by simpa using hu)
   .exact hm.setRow (.inr (aW _)) _
def asB(vs:List Value)(h:vs=dF ks)(R:Ending->World->Prop)(hR:∀w',Still w w'->R (.returned (.agg ⟨dF ks⟩)) w'):
  vs.length=64/\(∀v∈vs,v.oneCell'=true)/\∃(g o:Nat) (cur:List Value) (ty:TypeId),Addr.mk w.heap.size 0 none=Addr.mk g o none/\Row (w.alloc (.cells ⟨List.replicate 64 (.int .u32 0)⟩ 474)) g ty ⟨cur⟩/\o+vs.length<=cur.length/\
   ∃v:List Value,v.length=64/\(∀(j:Nat) (u:Value),v[j]?=some u->((w.alloc (.cells ⟨List.replicate 64 (.int .u32 0)⟩ 474)).setRow g ⟨cur.take o++(vs++cur.drop (o+vs.length))⟩).cell? ((Addr.mk w.heap.size 0 none).add j)=some u)/\
    R (.returned (.agg ⟨v⟩)) ((w.alloc (.cells ⟨List.replicate 64 (.int .u32 0)⟩ 474)).setRow g ⟨cur.take o++(vs++cur.drop (o+vs.length))⟩):=by
 subst h;have hl:(dF ks).length=64:=rfl;have ho:=LJ ks;generalize dF ks=W at hl ho hR⊢;refine⟨hl,ho,w.heap.size,0,List.replicate 64 (.int .u32 0),474,rfl,Row.new _ _ _,by simp[hl],W,hl,?_,hR _ (((Mod.refl _ _).alloc _).setRow (.inr (aW _)) _)⟩;intro j u hu;have hr:=(Row.new w 474 ⟨List.replicate 64 (.int .u32 0)⟩).setRow ⟨(List.replicate 64 (Value.int .u32 0)).take 0++(W++(List.replicate 64 (Value.int .u32 0)).drop (0+W.length))⟩ (by simp[hl]);refine hr.yO ?_;have hj:j<W.length:=(jj.1 hu).1;simp[vJ hj,hu]
set_option maxRecDepth 10000 in
def aqY:aH3 Qs #[] w (λe w'=>e=.returned (.agg ⟨dF ks⟩)/\Still w w'):=by refine amJ _ _ ?_;unfold YY;exact asB (w:=w) _ (by kernel_rfl) (λe w'=>e=.returned (.agg ⟨dF ks⟩)/\Still w w') (λw' h=>⟨rfl,h⟩)
def lens(n:Nat):Nat->List UInt8
 |0=>[]
 |i+1=>aJC n i::lens n i
def wJ(n i:Nat):List UInt8:=128::(List.replicate ((119-n%64)%64+(8-i)) 0++lens n i)
def ZS(n:Nat):∀i,(lens n i).length=i
 |0=>rfl
 |i+1=>by simp[lens,ZS n i]
def Q6{n i:Nat}(h:i<=8):(wJ n i).length=(119-n%64)%64+9:=by simp[wJ,ZS];omega
def Rj(n:Nat):wJ n 8=padding n:=by simp[wJ,padding,lens]
def asC{n i:Nat}(h:i<8):(wJ n i).set ((119-n%64)%64+8-i) (aJC n i)=wJ n (i+1):=by
 have e1:(119-n%64)%64+(8-i)=((119-n%64)%64+(8-(i+1)))+1:=by omega
 have e2:(119-n%64)%64+8-i=((119-n%64)%64+(8-(i+1)))+1:=by omega
 unfold wJ;rw[e1,e2];generalize(119-n%64)%64+(8-(i+1))=m;rw[X0,List.replicate_succ',mL,C4 _ _ (by simp)];simp[lens]
def auH(n:Nat):u8.wrap (n:Int)=((UInt8.ofNat n).toNat:Int):=by simp only[IntKind.wrap,IntKind.signed,IntKind.bits,Px];simp
def apR{n i:Nat}(hn:n<1000000000000)(hi:i<8):u8.wrap (Int.fdiv (i64.wrap ((n:Int)*8)) (2^(min (8*i) i64.bits)))=((aJC n i).toNat:Int):=by
 have e:i64.wrap ((n:Int)*8)=((n*8:Nat):Int):=by rw[wrap_i64 (by omega) (by omega)];omega
 have hm:min (8*i) i64.bits=8*i:=by simp[IntKind.bits];omega
 rw[e,hm,OE _ (Int.pow_nonneg (by decide))];have h:((2:Int)^(8*i))=((2^(8*i):Nat):Int):=by push_cast;rfl
 rw[h,<-Yf,auH,aJC,Xt]
def ao4{n:Nat}(hn:n<1000000000000):aH3 Qc #[.int .i64 (n:Int)] w (λe w'=>e=.returned (.string (S (padding n)))/\Still w w'):=by
 refine al6 _ _ _ ?_;have h1:Int.tmod (n:Int) 64=((n%64:Nat):Int):=by rw[Xr (by omega)];omega
 have h2:i64.wrap (119-((n%64:Nat):Int))=((119-n%64:Nat):Int):=by rw[wrap_i64 (by omega) (by omega)];omega
 have h3:Int.tmod ((119-n%64:Nat):Int) 64=(((119-n%64)%64:Nat):Int):=by rw[Xr (by omega)];omega
 have h4:i64.wrap (1+(((119-n%64)%64:Nat):Int))=(((119-n%64)%64+1:Nat):Int):=by rw[wrap_i64 (by omega) (by omega)];omega
 have h5:i64.wrap ((((119-n%64)%64+1:Nat):Int)+8)=(((119-n%64)%64+9:Nat):Int):=by rw[wrap_i64 (by omega) (by omega)];omega
 unfold YA;simp only[h1,h2,h3,h4,h5,bT];have hz:(119-n%64)%64<64:=FZ _ (by decide);generalize hZ:(119-n%64)%64=Z at hz;have hmk:madeCells #[(.int .u8 0)] ((Z+9)*1)=⟨bc (0::(List.replicate (Z+8) 0))⟩:=by
  apply jL;apply aJc;intro j;have e0:bc (0::(List.replicate (Z+8) 0))=List.replicate (Z+9) (.int .u8 0):=by rw[<-JQ];simp[bc]
  rw[e0,Xw]
  by_cases hj:j<Z+9
  .simp[madeCells,hj,Nat.mod_one]
  .simp[madeCells,hj]
 rw[hmk];have sW:=Row.new w 5 ⟨bc (0::(List.replicate (Z+8) 0))⟩;refine⟨by decide,by decide,by omega,by omega,by omega,by omega,by omega,by omega,sW.Ci (k:=0) (by simp),?_⟩;refine⟨λx w1=>∃i:Nat,x=(i:Int)/\i<=8/\Row w1 w.heap.size 5 ⟨bc (wJ n i)⟩/\Still w w1,λx _=>(8-x).toNat,⟨0,rfl,by omega,?_,((Mod.refl _ _).alloc _).setAt (k:=0) (.inr (aW _)) _⟩,?_⟩
 .have:=sW.setAt 0 (.int .u8 (((128:UInt8).toNat:Nat):Int))
  rw[aed]at this;have e:wJ n 0=(0::(List.replicate (Z+8) 0)).set 0 128:=by simp[wJ,lens,hZ]
  rw[e];exact this
 .rintro _ _ w1 ⟨i,rfl,hi,hr,hm⟩
  have e1:i64.wrap ((i:Int)+1)=((i+1:Nat):Int):=by rw[wrap_i64 (by omega) (by omega)];omega
  have e8:i64.wrap (8*(i:Int))=((8*i:Nat):Int):=by rw[wrap_i64 (by omega) (by omega)];omega
  refine aB (λhx=>?_) (λhx=>?_)
  .have hx:=aT hx
   have hx':i<8:=by omega
   have ea:i64.wrap (((Z+9:Nat):Int)-1)=((Z+8:Nat):Int):=by rw[wrap_i64 (by omega) (by omega)];omega
   have eb:i64.wrap (((Z+8:Nat):Int)-(i:Int))=((Z+8-i:Nat):Int):=by rw[wrap_i64 (by omega) (by omega)];omega
   simp only[e1,e8,ea,eb,bT,apR hn hx'];refine⟨by omega,by omega,by omega,hr.Ci (by rw[Gh,Q6 hi];omega),⟨i+1,rfl,by omega,?_,hm.setAt (.inr (aW _)) _ _⟩,by omega⟩;rw[<-asC hx',<-aed,hZ];exact hr.setAt _ _
  .have hx:=a_ hx
   obtain rfl:i=8:=by omega
   rw[Rj]at hr;exact⟨_,hr.bytes (by rw[<-Rj,Q6 (by omega),hZ]),rfl,hm⟩
def axm(x:B)(k:Nat):UC[Int.toNat (bits .and .u32 (Int.fdiv (x.toNat:Int) (2^(min k u32.bits))) 15)]?=some (aJK x k)/\0<=bits .and .u32 (Int.fdiv (x.toNat:Int) (2^(min k u32.bits))) 15:=by
 have AX:bits .and .u32 ((x>>>k).toNat:Int) 15=(((x>>>k)&&&15#32).toNat:Int):=afx _ 15#32;rw[Uc,AX,bT];have hlt:((x>>>k)&&&15#32).toNat<UC.length:=by rw[BitVec.toNat_and];exact Nat.lt_of_le_of_lt Nat.and_le_right (by decide)
 refine⟨?_,by omega⟩;rw[gJ hlt,aJK,zh,gJ hlt];rfl
def auI(x:B){j:Nat}(h:j<8):(AD x).take (j+1)=(AD x).take j++[aJK x (28-4*j)]:=by
 match j,h with
 |0,_=>rfl
 |1,_=>rfl
 |2,_=>rfl
 |3,_=>rfl
 |4,_=>rfl
 |5,_=>rfl
 |6,_=>rfl
 |7,_=>rfl
def Ap(l:List B)(i:Nat):List UInt8:=(l.take i).flatMap AD
def aqZ{l:List B}{i:Nat}(h:i<l.length):Ap l (i+1)=Ap l i++AD (l.getD i 0):=by rw[Ap,Fz,gJ h,XM,zh,gJ h];simp[Ap]
def ao5(l:List B)(i:Nat):(Ap l i).length<=8*i:=by
 unfold Ap
 induction i generalizing l with
 |zero=>simp
 |succ i ih=>cases l with
  |nil=>simp
  |cons a l=>have:=ih l;have h8:(AD a).length=8:=rfl;simp only[XN,oS,aIa,h8];omega
structure Dig(w w1:World)(B:Nat)(p:Option Addr)(L C:Nat)(l:List UInt8):Prop where
 own:aV w1 B 5 1 (.slice p L C) L (bc l)
 still:Still w w1
def aod(s:S8):aH3 Pg #[.agg ⟨dF s.list⟩] w (λe w'=>e=.returned (.string (S s.hex))/\Still w w'):=by
 refine akA _ _ _ _ _ _ _ _ _ _ ?_;have hr:Row (w.alloc (.cells ⟨dF s.list⟩ 441)) w.heap.size 441 ⟨dF s.list⟩:=Row.new _ _ _;refine⟨_,_,_,_,_,_,_,_,hr.dY rfl,hr.dY rfl,hr.dY rfl,hr.dY rfl,hr.dY rfl,hr.dY rfl,hr.dY rfl,hr.dY rfl,?_⟩;refine⟨λp L C x w1=>∃i:Nat,x=(i:Int)/\i<=8/\Dig w w1 w.heap.size p L C (Ap s.list i),λ_ _ _ x _=>(8-x).toNat,⟨0,rfl,by omega,aV.nil _ _ _ _,(Mod.refl _ _).alloc _⟩,?_⟩;rintro p L C _ _ w1 ⟨i,rfl,hi,hd⟩;refine aB (λhx=>?_) (λhx=>?_)
 .have hx:=aT hx
  have hx':i<8:=by omega
  have hl:=ao5 s.list i;refine⟨by omega,by omega,((s.list.getD i 0).toNat:Int),?_,?_⟩
  .rw[bT,eX]
   exact LK (l:=s.list) (by simpa[S8.list]using hx')
  generalize IS:s.list.getD i 0=x;refine⟨λp L C k w1=>∃j:Nat,k=28-4*(j:Int)/\j<=8/\Dig w w1 w.heap.size p L C (Ap s.list i++(AD x).take j),λ_ _ _ k _=>(k+8).toNat,⟨0,rfl,by omega,by simpa using hd⟩,?_⟩;rintro p1 L1 C1 _ _ w2 ⟨j,rfl,hj,hd1⟩;refine aB (λhk=>?_) (λhk=>?_)
  .have hk:=aT hk
   have hj':j<8:=by omega
   have e4:i64.wrap (28-4*(j:Int)-4)=28-4*((j+1:Nat):Int):=by rw[wrap_i64 (by omega) (by omega)];omega
   have ek:Int.toNat (28-4*(j:Int))=28-4*j:=by omega
   rw[ek,e4];obtain⟨hh,hh0⟩:=axm x (28-4*j);have hL:=hd1.own.length;have hL2:(AD x).length=8:=rfl;simp only[Gh,aIa,eH,hL2]at hL;refine⟨hk,hh0,_,hh,_,[.int .u8 ((aJK x (28-4*j)).toNat:Int)],(hd1.own.alloc _).B1,rfl,one_one rfl,avz _ _ _,by omega,by omega,?_⟩;intro p2 c2 w3 aJ8 hg3 aI_;refine⟨⟨j+1,rfl,by omega,?_,hd1.still.aJr hd1.own (aW _) hg3⟩,by dsimp only;omega⟩;have:=hd1.own.aJr hd1.still.size aJ8 aI_;rw[auI x hj',<-mL,DB];exact this
  .have hk:=a_ hk
   obtain rfl:j=8:=by omega
   have e1:i64.wrap ((i:Int)+1)=((i+1:Nat):Int):=by rw[wrap_i64 (by omega) (by omega)];omega
   rw[e1];refine⟨⟨i+1,rfl,by omega,?_⟩,by dsimp only;omega⟩;rw[aqZ (by simpa[S8.list]using hx'),IS];exact hd1
 .have hx:=a_ hx
  obtain rfl:i=8:=by omega
  exact⟨_,hd.own.bytes,rfl,hd.still⟩
end Go.Proofs.YtihaaoehhgmphaaGreatDoor
